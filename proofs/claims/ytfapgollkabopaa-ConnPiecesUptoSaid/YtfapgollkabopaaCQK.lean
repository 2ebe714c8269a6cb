/- Printed by lift.py: the functions come to them. -/
import Derived.Test.YtfapgollkabopaaLiftW
import Derived.Test.YtfapgollkabopaaCQK1
set_option maxRecDepth 100000
set_option maxHeartbeats 0
namespace Go.Pu
open Go.Lift Go.Proofs.Try Go.RowKit Go.Proofs

theorem conn.Read.ok {c_ : api.Conn} {s_ : List UInt8} {t_ : api.Tenant} {r : api.Conn × (List api.Request) × (List UInt8)} (h : conn.Read c_ s_ t_ = some r) : Go.Lift.Spec prog 32 [.agg (api.Conn.ct .no .no c_), .str s_, .agg (api.Tenant.ct t_)] [] (fun v H => ∃ n0, v = .tup [.agg [.i r.1.Born, .i r.1.Tenant, .str r.1.In.Rest, .sl .no 1 (r.1.In.Args.map AV.str), .i r.1.In.Left, .i r.1.In.Size, .bool r.1.In.Body, .i r.1.In.Need, .i r.1.In.Dead, .i r.1.Asked, .sl .no 2 (r.1.Held.map api.Held.av), .str r.1.Out, .i r.1.Taken, .bool r.1.Shut, .bool r.1.Closed], .sl (.own n0) 2 (r.2.1.map api.Request.av), .str r.2.2] ∧ H = [(n0, .spare)]) := by
 unfold conn.Read at h
 refine Go.Lift.Spec.of_body (rs := [.cell 6 56, .tmp 7, .tmp 8]) func32 Z Z (nb Z) Z (xr (xc Z (op_box (cs := (api.Conn.ct .no .no c_)) (v := .agg (api.Conn.ct .no .no c_)) Z (tm Z) Z Z ?_)))
 intro p67
 refine xc Z (op_box (cs := (api.Tenant.ct t_)) (v := .agg (api.Tenant.ct t_)) Z (tm Z) Z Z ?_)
 intro p68
 refine xc Z (op_alloc (cs := [.i 0, .i 0, .str ([] : List UInt8), .sl .full 1 (([] : List (List UInt8)).map AV.str), .i 0, .i 0, .bool false, .i 0, .i 0, .i 0, .sl .full 2 (([] : List api.Held).map api.Held.av), .str ([] : List UInt8), .i 0, .bool false, .bool false]) (v := .agg [.i 0, .i 0, .str ([] : List UInt8), .sl .full 1 (([] : List (List UInt8)).map AV.str), .i 0, .i 0, .bool false, .i 0, .i 0, .i 0, .sl .full 2 (([] : List api.Held).map api.Held.av), .str ([] : List UInt8), .i 0, .bool false, .bool false]) Z zeroValue56 Z Z Z ?_)
 intro p69
 refine xa (.sl .full 2 (([] : List api.Request).map api.Request.av)) Z (pu_assign Z (AEv.nil 2 (by decide))) (xa (.str ([] : List UInt8)) Z (pu_assign Z (AEv.const Z)) (xe (aw_seq ?_)))
 obtain ⟨s71, s71e, h72⟩ := letO_of h
 refine aw_meet (ν := Unit) (fun v => [(1, .str s_), (3, .ptr p67 0), (5, .ptr p68 0), (6, .ptr p69 0), (20, .bool s71)]) (fun v => [(p67, .cells (api.Conn.ct .no .no c_)), (p68, .cells (api.Tenant.ct t_)), (p69, .cells [.i 0, .i 0, .str ([] : List UInt8), .sl .full 1 (([] : List (List UInt8)).map AV.str), .i 0, .i 0, .bool false, .i 0, .i 0, .i 0, .sl .full 2 (([] : List api.Held).map api.Held.av), .str ([] : List UInt8), .i 0, .bool false, .bool false])]) ?_ ?_
 ·have h := s71e.symm
  refine aw_region (xa (.ptr p67 13) Z (fa Z underlying56 Z sizeOf4 Z Z Z) (xc Z (op_load1 (i := 2) Z isAgg4 (tm Z) Z Z (xm Z Z Z ?_))))
  rcases Bool.eq_false_or_eq_true c_.Shut with hb74 | hb74
  ·replace h := ite_t hb74 h
   refine aops_known 17 Z hb74 (xn Z Z Z (xn Z Z Z (xa (.bool true) Z (pu_pick (b := true) Z (tm Z) (fun _ => (AEv.bool _)) (fun h => nomatch h)) (xe ?_))))
   subst h
   exact ⟨(), Weak.mkL [2, 1, 0] (by decide) ⟨⟨_, Z, cr, Z⟩, ⟨_, Z, cr, Z⟩, ⟨_, Z, cr, Z⟩, trivial⟩ ⟨tm Z, tm Z, tm Z, tm Z, tm Z, trivial⟩⟩
  ·replace h := ite_fb hb74 h
   refine aops_known 17 Z hb74 (xp (.ptr p67 14) Z Z (fa Z underlying56 Z sizeOf4 Z Z Z) (xg Z Z (op_load1 (i := 2) Z isAgg4 (tm Z) Z Z (xa (.bool c_.Closed) Z (pu_pick (b := false) Z (tm Z) (fun h => nomatch h) (fun _ => (tm Z))) (xe ?_)))))
   subst h
   exact ⟨(), Weak.mkL [2, 1, 0] (by decide) ⟨⟨_, Z, cr, Z⟩, ⟨_, Z, cr, Z⟩, ⟨_, Z, cr, Z⟩, trivial⟩ ⟨tm Z, tm Z, tm Z, tm Z, tm Z, trivial⟩⟩
 ·intro _
  have h := h72
  refine aw_cond (b := s71) (tm Z) (fun hb133 => ?_) (fun hb133 => ?_)
  ·replace h := ite_t hb133 h
   refine xr (xc Z (op_loadN (i := 0) Z isAgg56 sizeOf56 (tm Z) Z (nb Z) Z (ac0 Z Z (op_store (i := 2) (cs' := (api.Conn.ct .no .no c_)) Z sizeOf56 (tm Z) (v := .agg (api.Conn.ct .no .no c_)) (tm Z) Z Z Z (nb Z) Z (xa (.sl .full 2 (([] : List api.Request).map api.Request.av)) Z (pu_assign Z (AEv.nil 2 (by decide))) (xa (.str ([] : List UInt8)) Z (pu_assign Z (AEv.const Z)) (xe (aw_claim 7 (tm Z) fun t75 => (aw_ret ?_)))))))))
   obtain rfl := some_of h
   exact ⟨[.agg (api.Conn.ct .no .no c_), .sl (.own t75) 2 (([] : List api.Request).map api.Request.av), .str ([] : List UInt8)], .tup [.agg (api.Conn.ct .no .no c_), .sl (.own t75) 2 (([] : List api.Request).map api.Request.av), .str ([] : List UInt8)], [(t75, .spare)], ⟨(CellOk.agg 3 (tm Z) Z isAgg56 sizeOf56 (nb Z) Z), (tm Z), (tm Z), trivial⟩, (AV.Le.tup cr), Weak.mkL [0] (by decide) ⟨⟨_, Z, Z⟩, trivial⟩ trivial, ⟨t75, Z, Z⟩⟩
  ·replace h := ite_fb hb133 h
   refine aw_skip (xr (xa (.ptr p67 2) Z (fa Z underlying56 Z sizeOf29 Z Z Z) (xc Z (op_loadN (i := 0) Z isAgg29 sizeOf29 (tm Z) Z (nb Z) Z (xm Z Z Z (xa (.ptr p68 11) Z (fa Z underlying53 Z sizeOf23 Z Z Z) (xc Z (op_loadN (i := 1) Z isAgg23 sizeOf23 (tm Z) Z (nb Z) Z ?_))))))))
   obtain ⟨r76, r76e, h⟩ := bind_some h
   refine xc Z (op_call (vs := [.agg (api.Input.ct .no c_.In), .str s_, .agg [.i t_.Limits.Args, .i t_.Limits.Bulk, .i t_.Limits.Line]]) (H := []) Z call15 ⟨(tm Z), (tm Z), (tm Z), trivial⟩ (List.Perm.refl _) (parse.Feed.ok r76e) ?_)
   rintro _ _ ⟨t77, rfl, rfl⟩
   refine xm Z Z Z (xa (.agg (api.Input.ct .no r76.1)) Z (pu_extract Z (tm Z) (nb Z) Z) (xa (.sl (.own t77) 2 (r76.2.1.map api.Request.av)) Z (pu_extract Z (tm Z) (nb Z) Z) (xa (.i r76.2.2) Z (pu_extract Z (tm Z) (nb Z) Z) (xc Z (op_alloc (cs := [.str ([] : List UInt8), .sl .full 1 (([] : List (List UInt8)).map AV.str), .i 0, .i 0, .bool false, .i 0, .i 0]) (v := .agg [.str ([] : List UInt8), .sl .full 1 (([] : List (List UInt8)).map AV.str), .i 0, .i 0, .bool false, .i 0, .i 0]) Z zeroValue29 Z Z Z ?_)))))
   intro p78
   refine ac0 Z Z (op_store (i := 0) (cs' := (api.Input.ct .no r76.1)) Z sizeOf29 (tm Z) (v := .agg (api.Input.ct .no r76.1)) (tm Z) Z Z Z (nb Z) Z (xm Z Z Z (xm Z Z Z (xe (xr (xc Z (op_loadN (i := 0) Z isAgg29 sizeOf29 (tm Z) Z (nb Z) Z (xa (.ptr p67 2) Z (fa Z underlying56 Z sizeOf29 Z Z Z) (ac0 Z Z (op_store (i := 2) (cs' := (api.Conn.ct .no .no { c_ with In := r76.1 })) Z sizeOf29 (tm Z) (v := .agg (api.Input.ct .no r76.1)) (tm Z) Z Z Z (nb Z) Z (xe ?_)))))))))))
   obtain ⟨s94, s94e, h95⟩ := bind_some h
   refine aw_meet (ν := Unit) (fun v => [(3, .ptr p67 0), (5, .ptr p68 0), (6, .ptr p69 0), (9, .ptr p78 0), (10, .sl (.own t77) 2 (r76.2.1.map api.Request.av)), (11, .i r76.2.2)]) (fun v => [(p67, .cells (api.Conn.ct .no .no { c_ with In := r76.1, Asked := s94 })), (p68, .cells (api.Tenant.ct t_)), (p69, .cells [.i 0, .i 0, .str ([] : List UInt8), .sl .full 1 (([] : List (List UInt8)).map AV.str), .i 0, .i 0, .bool false, .i 0, .i 0, .i 0, .sl .full 2 (([] : List api.Held).map api.Held.av), .str ([] : List UInt8), .i 0, .bool false, .bool false]), (p78, .cells (api.Input.ct .no r76.1)), (t77, .spare)]) ?_ ?_
   ·have h := s94e
    refine xr (xm Z Z Z (xa (.i (r76.2.1.length : Int)) Z (pu_lenM Z underlying30 (tm Z)) (xa (.i 0) Z (pu_move Z (AEv.int _ _)) (xe (aw_block (aw_while (σ := conn.Read.S0) (ν := Unit) (conn.Read.body0 r76) (fun s105 v => [(3, .ptr p67 0), (5, .ptr p68 0), (6, .ptr p69 0), (9, .ptr p78 0), (10, .sl (.own t77) 2 (r76.2.1.map api.Request.av)), (11, .i r76.2.2), (34, .sl (.own t77) 2 (r76.2.1.map api.Request.av)), (35, .i (r76.2.1.length : Int)), (36, .i s105.t36)]) (fun s105 v => [(p67, .cells (api.Conn.ct .no .no { c_ with In := r76.1, Asked := s105.c })), (p68, .cells (api.Tenant.ct t_)), (p69, .cells [.i 0, .i 0, .str ([] : List UInt8), .sl .full 1 (([] : List (List UInt8)).map AV.str), .i 0, .i 0, .bool false, .i 0, .i 0, .i 0, .sl .full 2 (([] : List api.Held).map api.Held.av), .str ([] : List UInt8), .i 0, .bool false, .bool false]), (p78, .cells (api.Input.ct .no r76.1)), (t77, .spare)]) ⟨0, c_.Asked⟩ () _ h (Weak.mkL [2, 3, 4, 0, 1] (by decide) ⟨⟨_, Z, cr, Z⟩, ⟨_, Z, cr, Z⟩, ⟨_, Z, cr, Z⟩, ⟨_, Z, cr, Z⟩, ⟨_, Z, Z⟩, trivial⟩ ⟨tm Z, tm Z, tm Z, tm Z, tm Z, tm Z, tm Z, tm Z, tm Z, trivial⟩) ?_))))))
    rintro s105 _ x107 h hx106
    unfold conn.Read.body0 at h
    refine xr (xa (.bool (decide (s105.t36 < (r76.2.1.length : Int)))) Z (pu_int (v := .bool (decide (s105.t36 < (r76.2.1.length : Int)))) Z Z (tm Z) (tm Z) Z) (xe (aw_seq (aw_cond (b := decide (s105.t36 < (r76.2.1.length : Int))) (tm Z) (fun hb111 => ?_) (fun hb111 => ?_)))))
    ·replace h := ite_t (dec_t hb111) h
     refine aw_skip (aw_seq (aw_block (aw_seq (aw_region ?_))))
     obtain ⟨c109, h⟩ := need_of h
     refine xa (.vptr [.sl .no 1 ((ix r76.2.1 s105.t36).Args.map AV.str), .i (ix r76.2.1 s105.t36).Size]) Z (pu_indexAddrM Z underlying30 sizeOf44 (tm Z) (tm Z) c109 Z) (xc Z (op_loadVN Z isAgg44 sizeOf44 (tm Z) (nb Z) Z (xc Z (op_alloc (cs := [.sl .full 1 (([] : List (List UInt8)).map AV.str), .i 0]) (v := .agg [.sl .full 1 (([] : List (List UInt8)).map AV.str), .i 0]) Z zeroValue44 Z Z Z ?_))))
     intro p110
     refine ac0 Z Z (op_store (i := 0) (cs' := [.sl .no 1 ((ix r76.2.1 s105.t36).Args.map AV.str), .i (ix r76.2.1 s105.t36).Size]) Z sizeOf44 (tm Z) (v := .agg [.sl .no 1 ((ix r76.2.1 s105.t36).Args.map AV.str), .i (ix r76.2.1 s105.t36).Size]) (tm Z) Z Z Z (nb Z) Z (xe (aw_region (xa (.ptr p67 9) Z (fa Z underlying56 Z sizeOf3 Z Z Z) (xc Z (op_load1 (i := 1) Z isAgg3 (tm Z) Z Z (xa (.ptr p110 1) Z (fa Z underlying44 Z sizeOf3 Z Z Z) (xc Z (op_load1 (i := 0) Z isAgg3 (tm Z) Z Z (xa (.i (IntKind.wrap .i64 (s105.c + (ix r76.2.1 s105.t36).Size))) Z (pu_int (v := .i (IntKind.wrap .i64 (s105.c + (ix r76.2.1 s105.t36).Size))) Z Z (tm Z) (tm Z) Z) (xa (.ptr p67 9) Z (fa Z underlying56 Z sizeOf3 Z Z Z) (ac0 Z Z (op_store (i := 1) (cs' := (api.Conn.ct .no .no { c_ with In := r76.1, Asked := IntKind.wrap .i64 (s105.c + (ix r76.2.1 s105.t36).Size) })) Z sizeOf3 (tm Z) (v := .i (IntKind.wrap .i64 (s105.c + (ix r76.2.1 s105.t36).Size))) (tm Z) Z Z Z (nb Z) Z ?_)))))))))))))
     refine xe (aw_region (xa (.i (IntKind.wrap .i64 (s105.t36 + 1))) Z (pu_int (v := .i (IntKind.wrap .i64 (s105.t36 + 1))) Z Z (tm Z) (AEv.int _ _) Z) (xm Z Z Z (xe ?_))))
     obtain rfl := some_of h
     exact ⟨_, (), Z, Weak.mkL [1, 2, 3, 4, 5] (by decide) ⟨⟨_, Z, ⟨vr, vr, vr, vr, vr, vr, vr, vr, vr, vr, vr, vr, vr, vr, vr, trivial⟩, Z⟩, ⟨_, Z, cr, Z⟩, ⟨_, Z, cr, Z⟩, ⟨_, Z, cr, Z⟩, ⟨_, Z, Z⟩, trivial⟩ ⟨tm Z, tm Z, tm Z, tm Z, tm Z, tm Z, tm Z, tm Z, (AEv.le (tm Z) vr), trivial⟩⟩
    ·replace h := ite_f (dec_f hb111) h
     refine aw_exit ?_
     obtain rfl := some_of h
     have h := congrArg some (hx106 _ rfl)
     obtain rfl := some_of h
     exact ⟨(), Weak.mkL [0, 1, 2, 3, 4] (by decide) ⟨⟨_, Z, cr, Z⟩, ⟨_, Z, cr, Z⟩, ⟨_, Z, cr, Z⟩, ⟨_, Z, cr, Z⟩, ⟨_, Z, Z⟩, trivial⟩ ⟨tm Z, tm Z, tm Z, tm Z, tm Z, tm Z, trivial⟩⟩
   ·intro _
    have h := h95
    refine xr (xa (.str ([] : List UInt8)) Z (pu_assign Z (AEv.const Z)) (xe ?_))
    obtain ⟨s121, s121e, h122⟩ := letO_of h
    refine aw_meet (ν := Unit) (fun v => [(3, .ptr p67 0), (6, .ptr p69 0), (10, .sl (.own t77) 2 (r76.2.1.map api.Request.av)), (14, .str s121)]) (fun v => [(p67, .cells (api.Conn.ct .no .no { c_ with In := r76.1, Asked := s94 })), (p69, .cells [.i 0, .i 0, .str ([] : List UInt8), .sl .full 1 (([] : List (List UInt8)).map AV.str), .i 0, .i 0, .bool false, .i 0, .i 0, .i 0, .sl .full 2 (([] : List api.Held).map api.Held.av), .str ([] : List UInt8), .i 0, .bool false, .bool false]), (t77, .spare)]) ?_ ?_
    ·have h := s121e.symm
     refine aw_block (xr (xm Z Z Z (xa (.bool (!decide (r76.2.2 = 0))) Z (pu_int (v := .bool (!decide (r76.2.2 = 0))) Z Z (tm Z) (AEv.int _ _) Z) (xm Z Z Z (xe (aw_cond (b := (!decide (r76.2.2 = 0))) (tm Z) (fun hb132 => ?_) (fun hb132 => ?_)))))))
     ·replace h := ite_f (ndec_t hb132) h
      refine aw_region (xa (.str [69, 82, 82, 32, 80, 114, 111, 116, 111, 99, 111, 108, 32, 101, 114, 114, 111, 114]) Z (pu_assign Z (AEv.const Z)) (xe ?_))
      subst h
      exact ⟨(), Weak.mkL [0, 2, 4] (by decide) ⟨⟨_, Z, cr, Z⟩, ⟨_, Z, cr, Z⟩, ⟨_, Z, Z⟩, trivial⟩ ⟨tm Z, tm Z, tm Z, tm Z, trivial⟩⟩
     ·replace h := ite_t (ndec_f hb132) h
      obtain ⟨s126, s126e, h127⟩ := letO_of h
      refine aw_meet (ν := Unit) (fun v => [(3, .ptr p67 0), (6, .ptr p69 0), (10, .sl (.own t77) 2 (r76.2.1.map api.Request.av)), (14, .str ([] : List UInt8)), (50, .bool s126)]) (fun v => [(p67, .cells (api.Conn.ct .no .no { c_ with In := r76.1, Asked := s94 })), (p69, .cells [.i 0, .i 0, .str ([] : List UInt8), .sl .full 1 (([] : List (List UInt8)).map AV.str), .i 0, .i 0, .bool false, .i 0, .i 0, .i 0, .sl .full 2 (([] : List api.Held).map api.Held.av), .str ([] : List UInt8), .i 0, .bool false, .bool false]), (t77, .spare)]) ?_ ?_
      ·have h := s126e.symm
       refine aw_region (xa (.ptr p67 9) Z (fa Z underlying56 Z sizeOf3 Z Z Z) (xc Z (op_load1 (i := 0) Z isAgg3 (tm Z) Z Z (xa (.ptr p68 5) Z (fa Z underlying53 Z sizeOf3 Z Z Z) (xc Z (op_load1 (i := 1) Z isAgg3 (tm Z) Z Z (xa (.bool (decide (t_.In < s94))) Z (pu_int (v := .bool (decide (t_.In < s94))) Z Z (tm Z) (tm Z) Z) (xm Z Z Z ?_))))))))
       rcases Bool.eq_false_or_eq_true (decide (t_.In < s94)) with hb129 | hb129
       ·replace h := ite_t (dec_t hb129) h
        refine aops_known 56 Z hb129 (xn Z Z Z (xn Z Z Z (xn Z Z Z (xn Z Z Z (xn Z Z Z (xn Z Z Z (xn Z Z Z (xn Z Z Z (xa (.bool true) Z (pu_pick (b := true) Z (tm Z) (fun _ => (AEv.bool _)) (fun h => nomatch h)) ?_)))))))))
        refine xm Z Z Z (xn Z Z Z (xn Z Z Z (xn Z Z Z (xn Z Z Z (xn Z Z Z (xn Z Z Z (xn Z Z Z (xn Z Z Z (xn Z Z Z ?_)))))))))
        refine xn Z Z Z (xn Z Z Z (xn Z Z Z (xa (.bool true) Z (pu_pick (b := true) Z (tm Z) (fun _ => (AEv.bool _)) (fun h => nomatch h)) (xm Z Z Z (xe ?_)))))
        subst h
        exact ⟨(), Weak.mkL [0, 2, 4] (by decide) ⟨⟨_, Z, cr, Z⟩, ⟨_, Z, cr, Z⟩, ⟨_, Z, Z⟩, trivial⟩ ⟨tm Z, tm Z, tm Z, tm Z, tm Z, trivial⟩⟩
       ·replace h := ite_f (dec_f hb129) h
        refine aops_known 56 Z hb129 (xp (.ptr p78 3) Z Z (fa Z underlying29 Z sizeOf3 Z Z Z) (xg Z Z (op_load1 (i := 3) Z isAgg3 (tm Z) Z Z (xp (.ptr p68 5) Z Z (fa Z underlying53 Z sizeOf3 Z Z Z) (xg Z Z (op_load1 (i := 1) Z isAgg3 (tm Z) Z Z (xp (.ptr p67 9) Z Z (fa Z underlying56 Z sizeOf3 Z Z Z) (xg Z Z (op_load1 (i := 0) Z isAgg3 (tm Z) Z Z (xp (.i (IntKind.wrap .i64 (t_.In - s94))) Z Z (pu_int (v := .i (IntKind.wrap .i64 (t_.In - s94))) Z Z (tm Z) (tm Z) Z) (xp (.bool (decide ((IntKind.wrap .i64 (t_.In - s94)) < r76.1.Size))) Z Z (pu_int (v := .bool (decide ((IntKind.wrap .i64 (t_.In - s94)) < r76.1.Size))) Z Z (tm Z) (tm Z) Z) (xa (.bool (decide ((IntKind.wrap .i64 (t_.In - s94)) < r76.1.Size))) Z (pu_pick (b := false) Z (tm Z) (fun h => nomatch h) (fun _ => (tm Z))) ?_))))))))))))
        refine xm Z Z Z ?_
        rcases Bool.eq_false_or_eq_true (decide ((IntKind.wrap .i64 (t_.In - s94)) < r76.1.Size)) with hb130 | hb130
        ·replace h := ite_t (dec_t hb130) h
         refine aops_known 66 Z hb130 (xn Z Z Z (xn Z Z Z (xn Z Z Z (xn Z Z Z (xn Z Z Z (xn Z Z Z (xn Z Z Z (xn Z Z Z (xn Z Z Z ?_)))))))))
         refine xn Z Z Z (xn Z Z Z (xn Z Z Z (xa (.bool true) Z (pu_pick (b := true) Z (tm Z) (fun _ => (AEv.bool _)) (fun h => nomatch h)) (xm Z Z Z (xe ?_)))))
         subst h
         exact ⟨(), Weak.mkL [0, 2, 4] (by decide) ⟨⟨_, Z, cr, Z⟩, ⟨_, Z, cr, Z⟩, ⟨_, Z, Z⟩, trivial⟩ ⟨tm Z, tm Z, tm Z, tm Z, tm Z, trivial⟩⟩
        ·replace h := ite_f (dec_f hb130) h
         refine aops_known 66 Z hb130 (xp (.ptr p78 0) Z Z (fa Z underlying29 Z sizeOf9 Z Z Z) (xg Z Z (op_load1 (i := 3) Z isAgg9 (tm Z) Z Z (xp (.i (r76.1.Rest.length : Int)) Z Z (pu_strLen Z underlying9 (tm Z)) (xp (.ptr p68 5) Z Z (fa Z underlying53 Z sizeOf3 Z Z Z) (xg Z Z (op_load1 (i := 1) Z isAgg3 (tm Z) Z Z (xp (.ptr p67 9) Z Z (fa Z underlying56 Z sizeOf3 Z Z Z) (xg Z Z (op_load1 (i := 0) Z isAgg3 (tm Z) Z Z (xp (.i (IntKind.wrap .i64 (t_.In - s94))) Z Z (pu_int (v := .i (IntKind.wrap .i64 (t_.In - s94))) Z Z (tm Z) (tm Z) Z) (xp (.ptr p78 3) Z Z (fa Z underlying29 Z sizeOf3 Z Z Z) ?_))))))))))))
         refine xg Z Z (op_load1 (i := 3) Z isAgg3 (tm Z) Z Z (xp (.i (IntKind.wrap .i64 ((IntKind.wrap .i64 (t_.In - s94)) - r76.1.Size))) Z Z (pu_int (v := .i (IntKind.wrap .i64 ((IntKind.wrap .i64 (t_.In - s94)) - r76.1.Size))) Z Z (tm Z) (tm Z) Z) (xp (.bool (decide ((IntKind.wrap .i64 ((IntKind.wrap .i64 (t_.In - s94)) - r76.1.Size)) < (r76.1.Rest.length : Int)))) Z Z (pu_int (v := .bool (decide ((IntKind.wrap .i64 ((IntKind.wrap .i64 (t_.In - s94)) - r76.1.Size)) < (r76.1.Rest.length : Int)))) Z Z (tm Z) (tm Z) Z) (xa (.bool (decide ((IntKind.wrap .i64 ((IntKind.wrap .i64 (t_.In - s94)) - r76.1.Size)) < (r76.1.Rest.length : Int)))) Z (pu_pick (b := false) Z (tm Z) (fun h => nomatch h) (fun _ => (tm Z))) (xm Z Z Z (xe ?_))))))
         subst h
         exact ⟨(), Weak.mkL [0, 2, 4] (by decide) ⟨⟨_, Z, cr, Z⟩, ⟨_, Z, cr, Z⟩, ⟨_, Z, Z⟩, trivial⟩ ⟨tm Z, tm Z, tm Z, tm Z, (AEv.le (tm Z) vr), trivial⟩⟩
      ·intro _
       have h := h127
       refine aw_cond (b := s126) (tm Z) (fun hb131 => ?_) (fun hb131 => ?_)
       ·replace h := ite_t hb131 h
        refine aw_region (xa (.str [69, 82, 82, 32, 105, 110, 112, 117, 116, 32, 98, 117, 102, 102, 101, 114, 32, 105, 115, 32, 102, 117, 108, 108]) Z (pu_assign Z (AEv.const Z)) (xe ?_))
        subst h
        exact ⟨(), Weak.mkL [0, 1, 2] (by decide) ⟨⟨_, Z, cr, Z⟩, ⟨_, Z, cr, Z⟩, ⟨_, Z, Z⟩, trivial⟩ ⟨tm Z, tm Z, tm Z, tm Z, trivial⟩⟩
       ·replace h := ite_fb hb131 h
        refine aw_skip ?_
        subst h
        exact ⟨(), Weak.mkL [0, 1, 2] (by decide) ⟨⟨_, Z, cr, Z⟩, ⟨_, Z, cr, Z⟩, ⟨_, Z, Z⟩, trivial⟩ ⟨tm Z, tm Z, tm Z, tm Z, trivial⟩⟩
    ·intro _
     have h := h122
     refine xr (xm Z Z Z (xa (.bool (!decide (s121 = ([] : List UInt8)))) Z (pu_str (v := .bool (!decide (s121 = ([] : List UInt8)))) Z Z (tm Z) (AEv.const Z) Z) (xa (.ptr p67 13) Z (fa Z underlying56 Z sizeOf4 Z Z Z) (ac0 Z Z (op_store (i := 0) (cs' := (api.Conn.ct .no .no { c_ with In := r76.1, Asked := s94, Shut := (!decide (s121 = ([] : List UInt8))) })) Z sizeOf4 (tm Z) (v := .bool (!decide (s121 = ([] : List UInt8)))) (tm Z) Z Z Z (nb Z) Z (xe (xr (xc Z (op_loadN (i := 0) Z isAgg56 sizeOf56 (tm Z) Z (nb Z) Z ?_)))))))))
     refine xm Z Z Z (xm Z Z Z (ac0 Z Z (op_store (i := 1) (cs' := (api.Conn.ct .no .no { c_ with In := r76.1, Asked := s94, Shut := (!decide (s121 = ([] : List UInt8))) })) Z sizeOf56 (tm Z) (v := .agg (api.Conn.ct .no .no { c_ with In := r76.1, Asked := s94, Shut := (!decide (s121 = ([] : List UInt8))) })) (tm Z) Z Z Z (nb Z) Z (xm Z Z Z (xm Z Z Z (xe (aw_ret ?_)))))))
     obtain rfl := some_of h
     exact ⟨[.agg (api.Conn.ct .no .no { c_ with In := r76.1, Asked := s94, Shut := (!decide (s121 = ([] : List UInt8))) }), .sl (.own t77) 2 (r76.2.1.map api.Request.av), .str s121], .tup [.agg (api.Conn.ct .no .no { c_ with In := r76.1, Asked := s94, Shut := (!decide (s121 = ([] : List UInt8))) }), .sl (.own t77) 2 (r76.2.1.map api.Request.av), .str s121], [(t77, .spare)], ⟨(CellOk.agg 1 (tm Z) Z isAgg56 sizeOf56 (nb Z) Z), (tm Z), (tm Z), trivial⟩, (AV.Le.tup cr), Weak.mkL [2] (by decide) ⟨⟨_, Z, Z⟩, trivial⟩ trivial, ⟨t77, Z, Z⟩⟩

theorem mewslaw43.alive.ok  {r : Bool} (h : mewslaw43.alive = some r) : Go.Lift.Spec prog 25 [] [] (fun v H => v = .bool r ∧ H = []) := by
 unfold mewslaw43.alive at h
 refine Go.Lift.Spec.of_body (rs := [.tmp 0]) func25 Z Z (nb Z) Z (xr (xa (.bool false) Z (pu_assign Z (AEv.bool _)) (xe (xr (xa (.agg [.i 9, .i 9, .i 9]) Z (pu_build (zs := [.i 0, .i 0, .i 0]) (szs := [1, 1, 1]) (aparts := [(0, .i 9), (1, .i 9), (2, .i 9)]) (cs := [.i 9, .i 9, .i 9]) Z underlying23 zeroValue23 Z ⟨sizeOf3, sizeOf3, sizeOf3, trivial⟩ ⟨Z, (AEv.int _ _), ⟨Z, (AEv.int _ _), ⟨Z, (AEv.int _ _), trivial⟩⟩⟩ Z) (xa (.agg [.str ([] : List UInt8), .str ([] : List UInt8), .i 0, .i 0, .i 0, .i 100, .i 100, .i 0, .i 0, .i 0, .i 0, .i 9, .i 9, .i 9]) Z (pu_build (zs := [.str ([] : List UInt8), .str ([] : List UInt8), .i 0, .i 0, .i 0, .i 0, .i 0, .i 0, .i 0, .i 0, .i 0, .i 0, .i 0, .i 0]) (szs := [1, 1, 1, 1, 1, 1, 1, 1, 1, 1, 1, 3]) (aparts := [(5, .i 100), (6, .i 100), (11, .agg [.i 9, .i 9, .i 9])]) (cs := [.str ([] : List UInt8), .str ([] : List UInt8), .i 0, .i 0, .i 0, .i 100, .i 100, .i 0, .i 0, .i 0, .i 0, .i 9, .i 9, .i 9]) Z underlying53 zeroValue53 Z ⟨sizeOf9, sizeOf9, sizeOf3, sizeOf3, sizeOf3, sizeOf3, sizeOf3, sizeOf3, sizeOf3, sizeOf3, sizeOf3, sizeOf23, trivial⟩ ⟨Z, (AEv.int _ _), ⟨Z, (AEv.int _ _), ⟨Z, (tm Z), trivial⟩⟩⟩ Z) (xc Z (op_alloc (cs := [.str ([] : List UInt8), .str ([] : List UInt8), .i 0, .i 0, .i 0, .i 0, .i 0, .i 0, .i 0, .i 0, .i 0, .i 0, .i 0, .i 0]) (v := .agg [.str ([] : List UInt8), .str ([] : List UInt8), .i 0, .i 0, .i 0, .i 0, .i 0, .i 0, .i 0, .i 0, .i 0, .i 0, .i 0, .i 0]) Z zeroValue53 Z Z Z ?_))))))))
 intro p30
 refine ac0 Z Z (op_store (i := 0) (cs' := [.str ([] : List UInt8), .str ([] : List UInt8), .i 0, .i 0, .i 0, .i 100, .i 100, .i 0, .i 0, .i 0, .i 0, .i 9, .i 9, .i 9]) Z sizeOf53 (tm Z) (v := .agg [.str ([] : List UInt8), .str ([] : List UInt8), .i 0, .i 0, .i 0, .i 100, .i 100, .i 0, .i 0, .i 0, .i 0, .i 9, .i 9, .i 9]) (tm Z) Z Z Z (nb Z) Z (xe (aw_seq ?_)))
 obtain ⟨r31, r31e, h⟩ := bind_some h
 obtain ⟨r32, r32e, h⟩ := bind_some h
 obtain ⟨r33, r33e, h⟩ := bind_some h
 refine aw_reserve fun p34 => (aw_planR (by decide +kernel) [[], [(1, 0, false)], [], [(1, 0, false)], [], [(0, 0, true)], [(0, 1, true)]] [[5, 6], []] [[[(p34, .resv)], [(p34, .cells [.i 0, .i 0, .str ([] : List UInt8), .sl .full 1 (([] : List (List UInt8)).map AV.str), .i 0, .i 0, .bool false, .i 0, .i 0, .i 0, .sl .full 2 (([] : List api.Held).map api.Held.av), .str ([] : List UInt8), .i 0, .bool false, .bool false])], [(p34, .cells (api.Conn.ct .no .no r33))]], [[(p30, .cells [.str ([] : List UInt8), .str ([] : List UInt8), .i 0, .i 0, .i 0, .i 100, .i 100, .i 0, .i 0, .i 0, .i 0, .i 9, .i 9, .i 9])]]] [.agg (api.Conn.ct .full .full r31), .agg [.str ([] : List UInt8), .str ([] : List UInt8), .i 0, .i 0, .i 0, .i 100, .i 100, .i 0, .i 0, .i 0, .i 0, .i 9, .i 9, .i 9], .agg (api.Conn.ct .no .no r32), .agg [.str ([] : List UInt8), .str ([] : List UInt8), .i 0, .i 0, .i 0, .i 100, .i 100, .i 0, .i 0, .i 0, .i 0, .i 9, .i 9, .i 9], .agg (api.Conn.ct .no .no r33), .ptr p34 0, .un] (by decide +kernel) Z Z ?_ ?_)
 ·exact ⟨stepg_plain Z (op_call (vs := [.i 7]) (H := []) Z call26 ⟨(AEv.int _ _), trivial⟩ (R := []) (List.Perm.refl _) (conn.Open.ok r31e) (by rintro _ _ ⟨rfl, rfl⟩; exact ⟨Z, Z⟩)), stepg_plain Z (op_loadN (i := 0) Z isAgg53 sizeOf53 (tm Z) Z (nb Z) Z ⟨Z, Z⟩), stepg_plain Z (op_call (vs := [.agg (api.Conn.ct .no .no r31), .str [97], .i 2, .i 0, .agg [.str ([] : List UInt8), .str ([] : List UInt8), .i 0, .i 0, .i 0, .i 100, .i 100, .i 0, .i 0, .i 0, .i 0, .i 9, .i 9, .i 9]]) (H := []) Z call27 ⟨(AEv.le (tm Z) (AV.Le.agg ⟨vr, vr, vr, (AV.Le.forget _ _ _), vr, vr, vr, vr, vr, vr, (AV.Le.forget _ _ _), vr, vr, vr, vr, trivial⟩)), (AEv.const Z), (AEv.int _ _), (AEv.int _ _), (tm Z), trivial⟩ (R := []) (List.Perm.refl _) (conn.Say.ok r32e) (by rintro _ _ ⟨rfl, rfl⟩; exact ⟨Z, Z⟩)), stepg_plain Z (op_loadN (i := 0) Z isAgg53 sizeOf53 (tm Z) Z (nb Z) Z ⟨Z, Z⟩), stepg_plain Z (op_call (vs := [.agg (api.Conn.ct .no .no r32), .str [98], .i 0, .i 0, .agg [.str ([] : List UInt8), .str ([] : List UInt8), .i 0, .i 0, .i 0, .i 100, .i 100, .i 0, .i 0, .i 0, .i 0, .i 9, .i 9, .i 9]]) (H := []) Z call27 ⟨(tm Z), (AEv.const Z), (AEv.int _ _), (AEv.int _ _), (tm Z), trivial⟩ (R := []) (List.Perm.refl _) (conn.Say.ok r33e) (by rintro _ _ ⟨rfl, rfl⟩; exact ⟨Z, Z⟩)), stepg_plain Z (aop_settleP (op_alloc (cs := [.i 0, .i 0, .str ([] : List UInt8), .sl .full 1 (([] : List (List UInt8)).map AV.str), .i 0, .i 0, .bool false, .i 0, .i 0, .i 0, .sl .full 2 (([] : List api.Held).map api.Held.av), .str ([] : List UInt8), .i 0, .bool false, .bool false]) (v := .agg [.i 0, .i 0, .str ([] : List UInt8), .sl .full 1 (([] : List (List UInt8)).map AV.str), .i 0, .i 0, .bool false, .i 0, .i 0, .i 0, .sl .full 2 (([] : List api.Held).map api.Held.av), .str ([] : List UInt8), .i 0, .bool false, .bool false]) Z zeroValue56 Z Z Z fun t => ⟨t, Z, Z⟩) ⟨Z, Z⟩), stepg_plain Z (op_store (i := 0) (cs' := (api.Conn.ct .no .no r33)) Z sizeOf56 (tm Z) (v := .agg (api.Conn.ct .no .no r33)) (tm Z) Z Z Z (nb Z) Z ⟨Z, Z⟩), trivial⟩
 refine xr (xc Z (op_loadN (i := 0) Z isAgg56 sizeOf56 (tm Z) Z (nb Z) Z ?_))
 obtain ⟨r35, r35e, h⟩ := bind_some h
 refine xc Z (op_call (vs := [.agg (api.Conn.ct .no .no r33), .i 2]) (H := []) Z call28 ⟨(tm Z), (AEv.int _ _), trivial⟩ (List.Perm.refl _) (conn.Free.ok r35e) ?_)
 rintro _ _ ⟨t36, rfl, rfl⟩
 obtain ⟨r37, r37e, h⟩ := bind_some h
 refine xc Z (op_call (vs := [.agg (api.Conn.ct .no .no r35), .i 9]) (H := []) Z call29 ⟨(AEv.le (tm Z) (AV.Le.agg ⟨vr, vr, vr, vr, vr, vr, vr, vr, vr, vr, (AV.Le.forget _ _ _), vr, vr, vr, vr, trivial⟩)), (AEv.int _ _), trivial⟩ (List.Perm.refl _) (conn.Take.ok r37e) ?_)
 rintro _ _ ⟨rfl, rfl⟩
 refine xm Z Z Z (xa (.agg (api.Conn.ct .no .no r37.1)) Z (pu_extract Z (tm Z) (nb Z) Z) (xa (.str r37.2) Z (pu_extract Z (tm Z) (nb Z) Z) (xc Z (op_alloc (cs := [.i 0, .i 0, .str ([] : List UInt8), .sl .full 1 (([] : List (List UInt8)).map AV.str), .i 0, .i 0, .bool false, .i 0, .i 0, .i 0, .sl .full 2 (([] : List api.Held).map api.Held.av), .str ([] : List UInt8), .i 0, .bool false, .bool false]) (v := .agg [.i 0, .i 0, .str ([] : List UInt8), .sl .full 1 (([] : List (List UInt8)).map AV.str), .i 0, .i 0, .bool false, .i 0, .i 0, .i 0, .sl .full 2 (([] : List api.Held).map api.Held.av), .str ([] : List UInt8), .i 0, .bool false, .bool false]) Z zeroValue56 Z Z Z ?_))))
 intro p38
 refine ac0 Z Z (op_store (i := 0) (cs' := (api.Conn.ct .no .no r37.1)) Z sizeOf56 (tm Z) (v := .agg (api.Conn.ct .no .no r37.1)) (tm Z) Z Z Z (nb Z) Z (xm Z Z Z (xe (aw_seq ?_))))
 obtain ⟨r39, r39e, h⟩ := bind_some h
 obtain ⟨r40, r40e, h⟩ := bind_some h
 refine aw_reserve fun p41 => (aw_planR (by decide +kernel) [[], [(4, 0, false)], [], [], [], [], [], [(0, 0, true)], [(0, 1, true)], [], []] [[7, 8], [], [], [], []] [[[(p41, .resv)], [(p41, .cells [.i 0, .i 0, .str ([] : List UInt8), .sl .full 1 (([] : List (List UInt8)).map AV.str), .i 0, .i 0, .bool false, .i 0, .i 0, .i 0, .sl .full 2 (([] : List api.Held).map api.Held.av), .str ([] : List UInt8), .i 0, .bool false, .bool false])], [(p41, .cells (api.Conn.ct .no .no r40.1))]], [[(p38, .cells (api.Conn.ct .no .no r37.1))]], [[(t36, .spare)]], [[(p34, .cells (api.Conn.ct .no .no r33))]], [[(p30, .cells [.str ([] : List UInt8), .str ([] : List UInt8), .i 0, .i 0, .i 0, .i 100, .i 100, .i 0, .i 0, .i 0, .i 0, .i 9, .i 9, .i 9])]]] [.agg (api.Conn.ct .full .full r39), .agg [.str ([] : List UInt8), .str ([] : List UInt8), .i 0, .i 0, .i 0, .i 100, .i 100, .i 0, .i 0, .i 0, .i 0, .i 9, .i 9, .i 9], .tup [.agg (api.Conn.ct .no .no r40.1), .sl .no 2 (r40.2.1.map api.Request.av), .str r40.2.2], .tup [.agg (api.Conn.ct .no .no r40.1), .sl .no 2 (r40.2.1.map api.Request.av), .str r40.2.2], .agg (api.Conn.ct .no .no r40.1), .sl .no 2 (r40.2.1.map api.Request.av), .str r40.2.2, .ptr p41 0, .un, .sl .no 2 (r40.2.1.map api.Request.av), .str r40.2.2] (by decide +kernel) Z Z ?_ ?_)
 ·exact ⟨stepg_plain Z (op_call (vs := [.i 7]) (H := []) Z call26 ⟨(AEv.int _ _), trivial⟩ (R := []) (List.Perm.refl _) (conn.Open.ok r39e) (by rintro _ _ ⟨rfl, rfl⟩; exact ⟨Z, Z⟩)), stepg_plain Z (op_loadN (i := 0) Z isAgg53 sizeOf53 (tm Z) Z (nb Z) Z ⟨Z, Z⟩), stepg_plain Z (aop_forget (.tup [.agg (api.Conn.ct .no .no r40.1), .sl .no 2 (r40.2.1.map api.Request.av), .str r40.2.2]) [] (op_call (vs := [.agg (api.Conn.ct .no .no r39), .str [71, 69, 84, 32, 97, 10, 120], .agg [.str ([] : List UInt8), .str ([] : List UInt8), .i 0, .i 0, .i 0, .i 100, .i 100, .i 0, .i 0, .i 0, .i 0, .i 9, .i 9, .i 9]]) (H := []) Z call32 ⟨(AEv.le (tm Z) (AV.Le.agg ⟨vr, vr, vr, (AV.Le.forget _ _ _), vr, vr, vr, vr, vr, vr, (AV.Le.forget _ _ _), vr, vr, vr, vr, trivial⟩)), (AEv.const Z), (tm Z), trivial⟩ (R := []) (List.Perm.refl _) (conn.Read.ok r40e) (by rintro _ _ ⟨_, rfl, rfl⟩; exact ⟨([] : List Nat), _, Z, Z, (AV.Le.tup ⟨vr, (AV.Le.forget _ _ _), vr, trivial⟩), List.nodup_nil, Z⟩)) ⟨Z, Z⟩), ym Z Z Z, yp Z (pu_extract Z (tm Z) (nb Z) Z), yp Z (pu_extract Z (tm Z) (nb Z) Z), yp Z (pu_extract Z (tm Z) (nb Z) Z), stepg_plain Z (aop_settleP (op_alloc (cs := [.i 0, .i 0, .str ([] : List UInt8), .sl .full 1 (([] : List (List UInt8)).map AV.str), .i 0, .i 0, .bool false, .i 0, .i 0, .i 0, .sl .full 2 (([] : List api.Held).map api.Held.av), .str ([] : List UInt8), .i 0, .bool false, .bool false]) (v := .agg [.i 0, .i 0, .str ([] : List UInt8), .sl .full 1 (([] : List (List UInt8)).map AV.str), .i 0, .i 0, .bool false, .i 0, .i 0, .i 0, .sl .full 2 (([] : List api.Held).map api.Held.av), .str ([] : List UInt8), .i 0, .bool false, .bool false]) Z zeroValue56 Z Z Z fun t => ⟨t, Z, Z⟩) ⟨Z, Z⟩), stepg_plain Z (op_store (i := 0) (cs' := (api.Conn.ct .no .no r40.1)) Z sizeOf56 (tm Z) (v := .agg (api.Conn.ct .no .no r40.1)) (tm Z) Z Z Z (nb Z) Z ⟨Z, Z⟩), ym Z Z Z, ym Z Z Z, trivial⟩
 obtain ⟨s49, s49e, h50⟩ := letO_of h
 refine aw_meet (ν := Unit) (fun v => [(0, .bool s49)]) (fun v => []) ?_ ?_
 ·have h := s49e.symm
  refine aw_region (xa (.ptr p34 11) Z (fa Z underlying56 Z sizeOf9 Z Z Z) (xc Z (op_load1 (i := 3) Z isAgg9 (tm Z) Z Z (xa (.bool (decide (r33.Out = ([] : List UInt8)))) Z (pu_str (v := .bool (decide (r33.Out = ([] : List UInt8)))) Z Z (tm Z) (AEv.const Z) Z) (xm Z Z Z ?_)))))
  rcases Bool.eq_false_or_eq_true (decide (r33.Out = ([] : List UInt8))) with hb52 | hb52
  ·replace h := ite_t (dec_t hb52) h
   refine aops_known 31 Z hb52 (xq Z Z Z Z (xp (.bool (decide (r37.2 = [97, 98]))) Z Z (pu_str (v := .bool (decide (r37.2 = [97, 98]))) Z Z (tm Z) (AEv.const Z) Z) (xa (.bool (decide (r37.2 = [97, 98]))) Z (pu_pick (b := true) Z (tm Z) (fun _ => (tm Z)) (fun h => nomatch h)) (xm Z Z Z ?_))))
   rcases Bool.eq_false_or_eq_true (decide (r37.2 = [97, 98])) with hb53 | hb53
   ·replace h := ite_t (dec_t hb53) h
    refine aops_known 35 Z hb53 (xp (.ptr p38 12) Z Z (fa Z underlying56 Z sizeOf3 Z Z Z) (xg Z Z (op_load1 (i := 1) Z isAgg3 (tm Z) Z Z (xp (.bool (decide (r37.1.Taken = 2))) Z Z (pu_int (v := .bool (decide (r37.1.Taken = 2))) Z Z (tm Z) (AEv.int _ _) Z) (xa (.bool (decide (r37.1.Taken = 2))) Z (pu_pick (b := true) Z (tm Z) (fun _ => (tm Z)) (fun h => nomatch h)) (xm Z Z Z ?_))))))
    rcases Bool.eq_false_or_eq_true (decide (r37.1.Taken = 2)) with hb54 | hb54
    ·replace h := ite_t (dec_t hb54) h
     refine aops_known 40 Z hb54 (xq Z Z Z Z (xp (.i (r40.2.1.length : Int)) Z Z (pu_lenM Z underlying30 (tm Z)) (xp (.bool (decide ((r40.2.1.length : Int) = 1))) Z Z (pu_int (v := .bool (decide ((r40.2.1.length : Int) = 1))) Z Z (tm Z) (AEv.int _ _) Z) (xa (.bool (decide ((r40.2.1.length : Int) = 1))) Z (pu_pick (b := true) Z (tm Z) (fun _ => (tm Z)) (fun h => nomatch h)) (xm Z Z Z ?_)))))
     rcases Bool.eq_false_or_eq_true (decide ((r40.2.1.length : Int) = 1)) with hb55 | hb55
     ·replace h := ite_t (dec_t hb55) h
      refine aops_known 45 Z hb55 (xq Z Z Z Z (xp (.bool (decide (r40.2.2 = ([] : List UInt8)))) Z Z (pu_str (v := .bool (decide (r40.2.2 = ([] : List UInt8)))) Z Z (tm Z) (AEv.const Z) Z) (xa (.bool (decide (r40.2.2 = ([] : List UInt8)))) Z (pu_pick (b := true) Z (tm Z) (fun _ => (tm Z)) (fun h => nomatch h)) (xm Z Z Z ?_))))
      rcases Bool.eq_false_or_eq_true (decide (r40.2.2 = ([] : List UInt8))) with hb56 | hb56
      ·replace h := ite_t (dec_t hb56) h
       refine aops_known 49 Z hb56 (xp (.ptr p41 9) Z Z (fa Z underlying56 Z sizeOf3 Z Z Z) (xg Z Z (op_load1 (i := 0) Z isAgg3 (tm Z) Z Z (xp (.bool (decide (r40.1.Asked = 6))) Z Z (pu_int (v := .bool (decide (r40.1.Asked = 6))) Z Z (tm Z) (AEv.int _ _) Z) (xa (.bool (decide (r40.1.Asked = 6))) Z (pu_pick (b := true) Z (tm Z) (fun _ => (tm Z)) (fun h => nomatch h)) (xm Z Z Z ?_))))))
       rcases Bool.eq_false_or_eq_true (decide (r40.1.Asked = 6)) with hb57 | hb57
       ·replace h := ite_t (dec_t hb57) h
        refine aops_known 54 Z hb57 (xp (.ptr p41 2) Z Z (fa Z underlying56 Z sizeOf29 Z Z Z) (xp (.ptr p41 2) Z Z (fa Z underlying29 Z sizeOf9 Z Z Z) (xg Z Z (op_load1 (i := 0) Z isAgg9 (tm Z) Z Z (xp (.bool (decide (r40.1.In.Rest = [120]))) Z Z (pu_str (v := .bool (decide (r40.1.In.Rest = [120]))) Z Z (tm Z) (AEv.const Z) Z) (xa (.bool (decide (r40.1.In.Rest = [120]))) Z (pu_pick (b := true) Z (tm Z) (fun _ => (tm Z)) (fun h => nomatch h)) (xm Z Z Z ?_)))))))
        rcases Bool.eq_false_or_eq_true (decide (r40.1.In.Rest = [120])) with hb58 | hb58
        ·replace h := ite_t (dec_t hb58) h
         refine aops_known 60 Z hb58 (xp (.ptr p41 1) Z Z (fa Z underlying56 Z sizeOf3 Z Z Z) (xg Z Z (op_load1 (i := 0) Z isAgg3 (tm Z) Z Z (xp (.bool (decide (r40.1.Tenant = (-1)))) Z Z (pu_int (v := .bool (decide (r40.1.Tenant = (-1)))) Z Z (tm Z) (AEv.int _ _) Z) (xa (.bool (decide (r40.1.Tenant = (-1)))) Z (pu_pick (b := true) Z (tm Z) (fun _ => (tm Z)) (fun h => nomatch h)) (xm Z Z Z (xe ?_)))))))
         subst h
         exact ⟨(), Weak.mkL [] (by decide) trivial ⟨(AEv.le (tm Z) vr), trivial⟩⟩
        ·replace h := ite_f (dec_f hb58) h
         refine aops_known 60 Z hb58 (xn Z Z Z (xn Z Z Z (xn Z Z Z (xa (.bool false) Z (pu_pick (b := false) Z (tm Z) (fun h => nomatch h) (fun _ => (AEv.bool _))) (xm Z Z Z (xe ?_))))))
         subst h
         exact ⟨(), Weak.mkL [] (by decide) trivial ⟨tm Z, trivial⟩⟩
       ·replace h := ite_f (dec_f hb57) h
        refine aops_known 54 Z hb57 (xn Z Z Z (xn Z Z Z (xn Z Z Z (xn Z Z Z (xa (.bool false) Z (pu_pick (b := false) Z (tm Z) (fun h => nomatch h) (fun _ => (AEv.bool _))) (xm Z Z Z (xn Z Z Z (xn Z Z Z (xn Z Z Z ?_)))))))))
        refine xa (.bool false) Z (pu_pick (b := false) Z (tm Z) (fun h => nomatch h) (fun _ => (AEv.bool _))) (xm Z Z Z (xe ?_))
        subst h
        exact ⟨(), Weak.mkL [] (by decide) trivial ⟨tm Z, trivial⟩⟩
      ·replace h := ite_f (dec_f hb56) h
       refine aops_known 49 Z hb56 (xn Z Z Z (xn Z Z Z (xn Z Z Z (xa (.bool false) Z (pu_pick (b := false) Z (tm Z) (fun h => nomatch h) (fun _ => (AEv.bool _))) (xm Z Z Z (xn Z Z Z (xn Z Z Z (xn Z Z Z (xn Z Z Z ?_)))))))))
       refine xa (.bool false) Z (pu_pick (b := false) Z (tm Z) (fun h => nomatch h) (fun _ => (AEv.bool _))) (xm Z Z Z (xn Z Z Z (xn Z Z Z (xn Z Z Z (xa (.bool false) Z (pu_pick (b := false) Z (tm Z) (fun h => nomatch h) (fun _ => (AEv.bool _))) (xm Z Z Z (xe ?_)))))))
       subst h
       exact ⟨(), Weak.mkL [] (by decide) trivial ⟨tm Z, trivial⟩⟩
     ·replace h := ite_f (dec_f hb55) h
      refine aops_known 45 Z hb55 (xn Z Z Z (xn Z Z Z (xa (.bool false) Z (pu_pick (b := false) Z (tm Z) (fun h => nomatch h) (fun _ => (AEv.bool _))) (xm Z Z Z (xn Z Z Z (xn Z Z Z (xn Z Z Z (xa (.bool false) Z (pu_pick (b := false) Z (tm Z) (fun h => nomatch h) (fun _ => (AEv.bool _))) (xm Z Z Z ?_)))))))))
      refine xn Z Z Z (xn Z Z Z (xn Z Z Z (xn Z Z Z (xa (.bool false) Z (pu_pick (b := false) Z (tm Z) (fun h => nomatch h) (fun _ => (AEv.bool _))) (xm Z Z Z (xn Z Z Z (xn Z Z Z (xn Z Z Z (xa (.bool false) Z (pu_pick (b := false) Z (tm Z) (fun h => nomatch h) (fun _ => (AEv.bool _))) ?_)))))))))
      refine xm Z Z Z (xe ?_)
      subst h
      exact ⟨(), Weak.mkL [] (by decide) trivial ⟨tm Z, trivial⟩⟩
    ·replace h := ite_f (dec_f hb54) h
     refine aops_known 40 Z hb54 (xn Z Z Z (xn Z Z Z (xn Z Z Z (xa (.bool false) Z (pu_pick (b := false) Z (tm Z) (fun h => nomatch h) (fun _ => (AEv.bool _))) (xm Z Z Z (xn Z Z Z (xn Z Z Z (xa (.bool false) Z (pu_pick (b := false) Z (tm Z) (fun h => nomatch h) (fun _ => (AEv.bool _))) (xm Z Z Z ?_)))))))))
     refine xn Z Z Z (xn Z Z Z (xn Z Z Z (xa (.bool false) Z (pu_pick (b := false) Z (tm Z) (fun h => nomatch h) (fun _ => (AEv.bool _))) (xm Z Z Z (xn Z Z Z (xn Z Z Z (xn Z Z Z (xn Z Z Z (xa (.bool false) Z (pu_pick (b := false) Z (tm Z) (fun h => nomatch h) (fun _ => (AEv.bool _))) ?_)))))))))
     refine xm Z Z Z (xn Z Z Z (xn Z Z Z (xn Z Z Z (xa (.bool false) Z (pu_pick (b := false) Z (tm Z) (fun h => nomatch h) (fun _ => (AEv.bool _))) (xm Z Z Z (xe ?_))))))
     subst h
     exact ⟨(), Weak.mkL [] (by decide) trivial ⟨tm Z, trivial⟩⟩
   ·replace h := ite_f (dec_f hb53) h
    refine aops_known 35 Z hb53 (xn Z Z Z (xn Z Z Z (xn Z Z Z (xa (.bool false) Z (pu_pick (b := false) Z (tm Z) (fun h => nomatch h) (fun _ => (AEv.bool _))) (xm Z Z Z (xn Z Z Z (xn Z Z Z (xn Z Z Z (xa (.bool false) Z (pu_pick (b := false) Z (tm Z) (fun h => nomatch h) (fun _ => (AEv.bool _))) ?_)))))))))
    refine xm Z Z Z (xn Z Z Z (xn Z Z Z (xa (.bool false) Z (pu_pick (b := false) Z (tm Z) (fun h => nomatch h) (fun _ => (AEv.bool _))) (xm Z Z Z (xn Z Z Z (xn Z Z Z (xn Z Z Z (xa (.bool false) Z (pu_pick (b := false) Z (tm Z) (fun h => nomatch h) (fun _ => (AEv.bool _))) (xm Z Z Z ?_)))))))))
    refine xn Z Z Z (xn Z Z Z (xn Z Z Z (xn Z Z Z (xa (.bool false) Z (pu_pick (b := false) Z (tm Z) (fun h => nomatch h) (fun _ => (AEv.bool _))) (xm Z Z Z (xn Z Z Z (xn Z Z Z (xn Z Z Z (xa (.bool false) Z (pu_pick (b := false) Z (tm Z) (fun h => nomatch h) (fun _ => (AEv.bool _))) ?_)))))))))
    refine xm Z Z Z (xe ?_)
    subst h
    exact ⟨(), Weak.mkL [] (by decide) trivial ⟨tm Z, trivial⟩⟩
  ·replace h := ite_f (dec_f hb52) h
   refine aops_known 31 Z hb52 (xn Z Z Z (xn Z Z Z (xa (.bool false) Z (pu_pick (b := false) Z (tm Z) (fun h => nomatch h) (fun _ => (AEv.bool _))) (xm Z Z Z (xn Z Z Z (xn Z Z Z (xn Z Z Z (xa (.bool false) Z (pu_pick (b := false) Z (tm Z) (fun h => nomatch h) (fun _ => (AEv.bool _))) (xm Z Z Z ?_)))))))))
   refine xn Z Z Z (xn Z Z Z (xn Z Z Z (xa (.bool false) Z (pu_pick (b := false) Z (tm Z) (fun h => nomatch h) (fun _ => (AEv.bool _))) (xm Z Z Z (xn Z Z Z (xn Z Z Z (xa (.bool false) Z (pu_pick (b := false) Z (tm Z) (fun h => nomatch h) (fun _ => (AEv.bool _))) (xm Z Z Z (xn Z Z Z ?_)))))))))
   refine xn Z Z Z (xn Z Z Z (xa (.bool false) Z (pu_pick (b := false) Z (tm Z) (fun h => nomatch h) (fun _ => (AEv.bool _))) (xm Z Z Z (xn Z Z Z (xn Z Z Z (xn Z Z Z (xn Z Z Z (xa (.bool false) Z (pu_pick (b := false) Z (tm Z) (fun h => nomatch h) (fun _ => (AEv.bool _))) (xm Z Z Z ?_)))))))))
   refine xn Z Z Z (xn Z Z Z (xn Z Z Z (xa (.bool false) Z (pu_pick (b := false) Z (tm Z) (fun h => nomatch h) (fun _ => (AEv.bool _))) (xm Z Z Z (xe ?_)))))
   subst h
   exact ⟨(), Weak.mkL [] (by decide) trivial ⟨tm Z, trivial⟩⟩
 ·intro _
  have h := h50
  refine aw_ret ?_
  obtain rfl := some_of h
  exact ⟨[.bool s49], _, [], ⟨(tm Z), trivial⟩, vr, Weak.mkL [] (by decide) trivial trivial, ⟨Z, Z⟩⟩

theorem mewslaw43.right_.ok {t_ : api.Tenant} {r : api.Tenant} (h : mewslaw43.right_ t_ = some r) : Go.Lift.Spec prog 31 [.agg (api.Tenant.ct t_)] [] (fun v H => v = .agg [.str r.Name, .str r.Token, .i r.Memory, .i r.Policy, .i r.Conns, .i r.In, .i r.Out, .i r.Burst, .i r.Rate, .i r.Disk, .i r.Sync, .i r.Limits.Args, .i r.Limits.Bulk, .i r.Limits.Line] ∧ H = []) := by
 unfold mewslaw43.right_ at h
 refine Go.Lift.Spec.of_body (rs := [.cell 2 53]) func31 Z Z (nb Z) Z (xr (xc Z (op_box (cs := (api.Tenant.ct t_)) (v := .agg (api.Tenant.ct t_)) Z (tm Z) Z Z ?_)))
 intro p3
 refine xc Z (op_alloc (cs := [.str ([] : List UInt8), .str ([] : List UInt8), .i 0, .i 0, .i 0, .i 0, .i 0, .i 0, .i 0, .i 0, .i 0, .i 0, .i 0, .i 0]) (v := .agg [.str ([] : List UInt8), .str ([] : List UInt8), .i 0, .i 0, .i 0, .i 0, .i 0, .i 0, .i 0, .i 0, .i 0, .i 0, .i 0, .i 0]) Z zeroValue53 Z Z Z ?_)
 intro p4
 refine xe (xr (xa (.ptr p3 5) Z (fa Z underlying53 Z sizeOf3 Z Z Z) (xc Z (op_load1 (i := 1) Z isAgg3 (tm Z) Z Z (xa (.i (if t_.In < 0 then 0 else t_.In)) Z (pu_max2 Z (tm Z) (AEv.int _ _)) (xa (.i (if 1048576 < (if t_.In < 0 then 0 else t_.In) then 1048576 else (if t_.In < 0 then 0 else t_.In))) Z (pu_min2 Z (tm Z) (AEv.int _ _)) (xa (.ptr p3 5) Z (fa Z underlying53 Z sizeOf3 Z Z Z) (ac0 Z Z (op_store (i := 1) (cs' := (api.Tenant.ct { t_ with In := if 1048576 < (if t_.In < 0 then 0 else t_.In) then 1048576 else (if t_.In < 0 then 0 else t_.In) })) Z sizeOf3 (tm Z) (v := .i (if 1048576 < (if t_.In < 0 then 0 else t_.In) then 1048576 else (if t_.In < 0 then 0 else t_.In))) (tm Z) Z Z Z (nb Z) Z (xe ?_))))))))))
 refine xr (xa (.ptr p3 6) Z (fa Z underlying53 Z sizeOf3 Z Z Z) (xc Z (op_load1 (i := 1) Z isAgg3 (tm Z) Z Z (xa (.i (if t_.Out < 0 then 0 else t_.Out)) Z (pu_max2 Z (tm Z) (AEv.int _ _)) (xa (.i (if 4194304 < (if t_.Out < 0 then 0 else t_.Out) then 4194304 else (if t_.Out < 0 then 0 else t_.Out))) Z (pu_min2 Z (tm Z) (AEv.int _ _)) (xa (.ptr p3 6) Z (fa Z underlying53 Z sizeOf3 Z Z Z) (ac0 Z Z (op_store (i := 1) (cs' := (api.Tenant.ct { t_ with In := if 1048576 < (if t_.In < 0 then 0 else t_.In) then 1048576 else (if t_.In < 0 then 0 else t_.In), Out := if 4194304 < (if t_.Out < 0 then 0 else t_.Out) then 4194304 else (if t_.Out < 0 then 0 else t_.Out) })) Z sizeOf3 (tm Z) (v := .i (if 4194304 < (if t_.Out < 0 then 0 else t_.Out) then 4194304 else (if t_.Out < 0 then 0 else t_.Out))) (tm Z) Z Z Z (nb Z) Z (xe (aw_seq ?_))))))))))
 refine aw_region (xc Z (op_loadN (i := 1) Z isAgg53 sizeOf53 (tm Z) Z (nb Z) Z (ac0 Z Z (op_store (i := 0) (cs' := (api.Tenant.ct { t_ with In := if 1048576 < (if t_.In < 0 then 0 else t_.In) then 1048576 else (if t_.In < 0 then 0 else t_.In), Out := if 4194304 < (if t_.Out < 0 then 0 else t_.Out) then 4194304 else (if t_.Out < 0 then 0 else t_.Out) })) Z sizeOf53 (tm Z) (v := .agg (api.Tenant.ct { t_ with In := if 1048576 < (if t_.In < 0 then 0 else t_.In) then 1048576 else (if t_.In < 0 then 0 else t_.In), Out := if 4194304 < (if t_.Out < 0 then 0 else t_.Out) then 4194304 else (if t_.Out < 0 then 0 else t_.Out) })) (tm Z) Z Z Z (nb Z) Z (xe (aw_ret ?_))))))
 obtain rfl := some_of h
 exact ⟨[.agg (api.Tenant.ct { t_ with In := if 1048576 < (if t_.In < 0 then 0 else t_.In) then 1048576 else (if t_.In < 0 then 0 else t_.In), Out := if 4194304 < (if t_.Out < 0 then 0 else t_.Out) then 4194304 else (if t_.Out < 0 then 0 else t_.Out) })], _, [], ⟨(CellOk.agg 0 (tm Z) Z isAgg53 sizeOf53 (nb Z) Z), trivial⟩, vr, Weak.mkL [] (by decide) trivial trivial, ⟨Z, Z⟩⟩

theorem mewslaw43.ConnPieces.ok {t_ : api.Tenant} {pieces : List (List UInt8)} {r : Bool} (h : mewslaw43.ConnPieces t_ pieces = some r) : Go.Lift.Spec prog 8 [.agg (api.Tenant.ct t_), .sl .no 1 (pieces.map AV.str)] [] (fun v H => v = .bool r ∧ H = []) := by
 unfold mewslaw43.ConnPieces at h
 refine Go.Lift.Spec.of_body (rs := [.tmp 4]) func8 Z Z (nb Z) Z (xr (xc Z (op_box (cs := (api.Tenant.ct t_)) (v := .agg (api.Tenant.ct t_)) Z (tm Z) Z Z ?_)))
 intro p193
 refine xa (.bool false) Z (pu_assign Z (AEv.bool _)) (xe (xr (xa (.sl .full 4 (([] : List mewslaw43.Op).map mewslaw43.Op.av)) Z (pu_assign Z (AEv.nil 4 (by decide))) (xe ?_))))
 obtain ⟨s215, s215e, h217⟩ := bind_some h
 refine aw_meet (ν := Nat) (fun v => [(1, .sl .no 1 (pieces.map AV.str)), (2, .ptr p193 0), (5, .sl (.own v) 4 (s215.map mewslaw43.Op.av))]) (fun v => [(p193, .cells (api.Tenant.ct t_)), (v, .spare)]) ?_ ?_
 ·have h := s215e
  refine xr (xm Z Z Z (xa (.i (pieces.length : Int)) Z (pu_lenM Z underlying26 (tm Z)) (xa (.i 0) Z (pu_move Z (AEv.int _ _)) (xe (aw_block (aw_claim 5 (tm Z) fun t239 => (aw_while (σ := mewslaw43.ConnPieces.S0) (ν := Nat) (mewslaw43.ConnPieces.body0 pieces) (fun s230 v => [(1, .sl .no 1 (pieces.map AV.str)), (2, .ptr p193 0), (5, .sl (.own v) 4 (s230.l.map mewslaw43.Op.av)), (19, .sl .no 1 (pieces.map AV.str)), (20, .i (pieces.length : Int)), (21, .i s230.t21)]) (fun s230 v => [(p193, .cells (api.Tenant.ct t_)), (v, .spare)]) ⟨([] : List mewslaw43.Op), 0⟩ t239 _ h (Weak.mkL [1, 0] (by decide) ⟨⟨_, Z, cr, Z⟩, ⟨_, Z, Z⟩, trivial⟩ ⟨tm Z, tm Z, tm Z, tm Z, tm Z, tm Z, trivial⟩) ?_)))))))
  rintro s230 n231 x233 h hx232
  unfold mewslaw43.ConnPieces.body0 at h
  refine xr (xa (.bool (decide (s230.t21 < (pieces.length : Int)))) Z (pu_int (v := .bool (decide (s230.t21 < (pieces.length : Int)))) Z Z (tm Z) (tm Z) Z) (xe (aw_seq (aw_cond (b := decide (s230.t21 < (pieces.length : Int))) (tm Z) (fun hb238 => ?_) (fun hb238 => ?_)))))
  ·replace h := ite_t (dec_t hb238) h
   refine aw_skip (aw_seq (aw_block (aw_seq (aw_region ?_))))
   obtain ⟨c235, h⟩ := need_of h
   refine xa (.vptr [.str (ix pieces s230.t21)]) Z (pu_indexAddrM Z underlying26 sizeOf9 (tm Z) (tm Z) c235 Z) (xc Z (op_loadV1 Z isAgg9 (tm Z) Z (xm Z Z Z (xe (aw_region (xm Z Z Z (xm Z Z Z (xa (.agg [.i 0, .str (ix pieces s230.t21), .i 0, .i 0]) Z (pu_build (zs := [.i 0, .str ([] : List UInt8), .i 0, .i 0]) (szs := [1, 1, 1, 1]) (aparts := [(1, .str (ix pieces s230.t21))]) (cs := [.i 0, .str (ix pieces s230.t21), .i 0, .i 0]) Z underlying59 zeroValue59 Z ⟨sizeOf3, sizeOf9, sizeOf3, sizeOf3, trivial⟩ ⟨Z, (tm Z), trivial⟩ Z) (xc Z (op_buildSlice (xs := ([({ Kind := 0, S := ix pieces s230.t21, N := 0, M := 0 } : mewslaw43.Op)] : List mewslaw43.Op).map mewslaw43.Op.av) (aparts := [(0, .agg [.i 0, .str (ix pieces s230.t21), .i 0, .i 0])]) Z underlying50 sizeOf59 zeroValue59 (by decide) (by decide) ⟨Z, (tm Z), trivial⟩ Z Z Z ?_))))))))))
   obtain ⟨c236, h⟩ := need_of h
   refine xc Z (op_appendOM (q := 1) Z underlying50 underlying50 (.inl Z) typeInfo59 Z Z Z (by decide) (tm Z) Z (given_sl (tm Z)) c236 ?_)
   intro t237
   refine xm Z Z Z (xe (aw_region (xa (.i (IntKind.wrap .i64 (s230.t21 + 1))) Z (pu_int (v := .i (IntKind.wrap .i64 (s230.t21 + 1))) Z Z (tm Z) (AEv.int _ _) Z) (xm Z Z Z (xe ?_)))))
   obtain rfl := some_of h
   exact ⟨_, t237, Z, Weak.mkL [0, 1] (by decide) ⟨⟨_, Z, cr, Z⟩, ⟨_, Z, Z⟩, trivial⟩ ⟨tm Z, tm Z, (AEv.le (tm Z) vr), tm Z, tm Z, (AEv.le (tm Z) vr), trivial⟩⟩
  ·replace h := ite_f (dec_f hb238) h
   refine aw_exit ?_
   obtain rfl := some_of h
   have h := congrArg some (hx232 _ rfl)
   obtain rfl := some_of h
   exact ⟨n231, Weak.mkL [0, 1] (by decide) ⟨⟨_, Z, cr, Z⟩, ⟨_, Z, Z⟩, trivial⟩ ⟨tm Z, tm Z, tm Z, trivial⟩⟩
 ·intro n216
  have h := h217
  refine aw_seq (xr (xm Z Z Z ?_))
  obtain ⟨r240, r240e, h⟩ := bind_some h
  refine xc Z (op_call (vs := [.sl .no 4 (s215.map mewslaw43.Op.av)]) (H := []) Z call24 ⟨(AEv.le (tm Z) (AV.Le.forget _ _ _)), trivial⟩ (List.Perm.refl _) (mewslaw43.far.ok r240e) ?_)
  rintro _ _ ⟨rfl, rfl⟩
  refine xe (aw_cond (b := r240) (tm Z) (fun hb384 => ?_) (fun hb384 => ?_))
  ·replace h := ite_t hb384 h
   refine aw_seq (aw_region ?_)
   obtain ⟨r241, r241e, h⟩ := bind_some h
   refine xc Z (op_call (vs := []) (H := []) Z call25 trivial (List.Perm.refl _) (mewslaw43.alive.ok r241e) ?_)
   rintro _ _ ⟨rfl, rfl⟩
   refine xm Z Z Z (xe (aw_ret ?_))
   obtain rfl := some_of h
   exact ⟨[.bool r241], _, [], ⟨(tm Z), trivial⟩, vr, Weak.mkL [] (by decide) trivial trivial, ⟨Z, Z⟩⟩
  ·replace h := ite_fb hb384 h
   refine aw_skip (xr (xc Z (op_loadN (i := 0) Z isAgg53 sizeOf53 (tm Z) Z (nb Z) Z ?_)))
   obtain ⟨r242, r242e, h⟩ := bind_some h
   refine xc Z (op_call (vs := [.agg (api.Tenant.ct t_)]) (H := []) Z call31 ⟨(tm Z), trivial⟩ (List.Perm.refl _) (mewslaw43.right_.ok r242e) ?_)
   rintro _ _ ⟨rfl, rfl⟩
   refine ac0 Z Z (op_store (i := 0) (cs' := (api.Tenant.ct r242)) Z sizeOf53 (tm Z) (v := .agg (api.Tenant.ct r242)) (tm Z) Z Z Z (nb Z) Z (xe (aw_seq (aw_region ?_))))
   obtain ⟨r243, r243e, h⟩ := bind_some h
   refine xc Z (op_call (vs := [.i 0]) (H := []) Z call26 ⟨(AEv.int _ _), trivial⟩ (List.Perm.refl _) (conn.Open.ok r243e) ?_)
   rintro _ _ ⟨rfl, rfl⟩
   refine xc Z (op_alloc (cs := [.i 0, .i 0, .str ([] : List UInt8), .sl .full 1 (([] : List (List UInt8)).map AV.str), .i 0, .i 0, .bool false, .i 0, .i 0, .i 0, .sl .full 2 (([] : List api.Held).map api.Held.av), .str ([] : List UInt8), .i 0, .bool false, .bool false]) (v := .agg [.i 0, .i 0, .str ([] : List UInt8), .sl .full 1 (([] : List (List UInt8)).map AV.str), .i 0, .i 0, .bool false, .i 0, .i 0, .i 0, .sl .full 2 (([] : List api.Held).map api.Held.av), .str ([] : List UInt8), .i 0, .bool false, .bool false]) Z zeroValue56 Z Z Z ?_)
   intro p244
   refine ac0 Z Z (op_store (i := 0) (cs' := (api.Conn.ct .full .full r243)) Z sizeOf56 (tm Z) (v := .agg (api.Conn.ct .full .full r243)) (tm Z) Z Z Z (nb Z) Z (xe (xr (xa (.sl .full 2 (([] : List api.Request).map api.Request.av)) Z (pu_assign Z (AEv.nil 2 (by decide))) (xe (xr (xa (.str ([] : List UInt8)) Z (pu_assign Z (AEv.const Z)) (xe ?_))))))))
   obtain ⟨s383, s383e, h304⟩ := bind_some h
   refine aw_join (σ := (List api.Request) × (List UInt8) × Int × Int × (List UInt8) × (List (List UInt8)) × Int × Int × Bool × Int × Int × Int × (List api.Held) × (List UInt8) × Int × Bool × Bool) (ν := Nat) (fun u v => [(2, .ptr p193 0), (8, .ptr p244 0), (9, .sl (.own v) 2 (u.1.map api.Request.av)), (10, .str u.2.1)]) (fun u v => [(p193, .cells (api.Tenant.ct r242)), (p244, .cells [.i u.2.2.1, .i u.2.2.2.1, .str u.2.2.2.2.1, .sl .no 1 (u.2.2.2.2.2.1.map AV.str), .i u.2.2.2.2.2.2.1, .i u.2.2.2.2.2.2.2.1, .bool u.2.2.2.2.2.2.2.2.1, .i u.2.2.2.2.2.2.2.2.2.1, .i u.2.2.2.2.2.2.2.2.2.2.1, .i u.2.2.2.2.2.2.2.2.2.2.2.1, .sl .no 2 (u.2.2.2.2.2.2.2.2.2.2.2.2.1.map api.Held.av), .str u.2.2.2.2.2.2.2.2.2.2.2.2.2.1, .i u.2.2.2.2.2.2.2.2.2.2.2.2.2.2.1, .bool u.2.2.2.2.2.2.2.2.2.2.2.2.2.2.2.1, .bool u.2.2.2.2.2.2.2.2.2.2.2.2.2.2.2.2]), (v, .spare)]) (fun u => s383 = .inl u) ?_ ?_
   ·intro s302
    intro n303
    rintro rfl
    have h := onSum_inl h304
    refine aw_seq ?_
    obtain ⟨r363, r363e, h⟩ := bind_some h
    obtain ⟨r364, r364e, h⟩ := bind_some h
    refine aw_reserve fun p365 => (aw_planR (by decide +kernel) [[], [], [(1, 0, false)], [], [], [], [], [], [(0, 0, true)], [(0, 1, true)], [], []] [[8, 9], [], [], []] [[[(p365, .resv)], [(p365, .cells [.i 0, .i 0, .str ([] : List UInt8), .sl .full 1 (([] : List (List UInt8)).map AV.str), .i 0, .i 0, .bool false, .i 0, .i 0, .i 0, .sl .full 2 (([] : List api.Held).map api.Held.av), .str ([] : List UInt8), .i 0, .bool false, .bool false])], [(p365, .cells (api.Conn.ct .no .no r364.1))]], [[(p193, .cells (api.Tenant.ct r242))]], [[(p244, .cells [.i s302.2.2.1, .i s302.2.2.2.1, .str s302.2.2.2.2.1, .sl .no 1 (s302.2.2.2.2.2.1.map AV.str), .i s302.2.2.2.2.2.2.1, .i s302.2.2.2.2.2.2.2.1, .bool s302.2.2.2.2.2.2.2.2.1, .i s302.2.2.2.2.2.2.2.2.2.1, .i s302.2.2.2.2.2.2.2.2.2.2.1, .i s302.2.2.2.2.2.2.2.2.2.2.2.1, .sl .no 2 (s302.2.2.2.2.2.2.2.2.2.2.2.2.1.map api.Held.av), .str s302.2.2.2.2.2.2.2.2.2.2.2.2.2.1, .i s302.2.2.2.2.2.2.2.2.2.2.2.2.2.2.1, .bool s302.2.2.2.2.2.2.2.2.2.2.2.2.2.2.2.1, .bool s302.2.2.2.2.2.2.2.2.2.2.2.2.2.2.2.2])]], [[(n303, .spare)]]] [.agg (api.Conn.ct .full .full r363), .str s302.2.1, .agg (api.Tenant.ct r242), .tup [.agg (api.Conn.ct .no .no r364.1), .sl .no 2 (r364.2.1.map api.Request.av), .str r364.2.2], .tup [.agg (api.Conn.ct .no .no r364.1), .sl .no 2 (r364.2.1.map api.Request.av), .str r364.2.2], .agg (api.Conn.ct .no .no r364.1), .sl .no 2 (r364.2.1.map api.Request.av), .str r364.2.2, .ptr p365 0, .un, .sl .no 2 (r364.2.1.map api.Request.av), .str r364.2.2] (by decide +kernel) Z Z ?_ ?_)
    ·exact ⟨stepg_plain Z (op_call (vs := [.i 0]) (H := []) Z call26 ⟨(AEv.int _ _), trivial⟩ (R := []) (List.Perm.refl _) (conn.Open.ok r363e) (by rintro _ _ ⟨rfl, rfl⟩; exact ⟨Z, Z⟩)), ym Z Z Z, stepg_plain Z (op_loadN (i := 0) Z isAgg53 sizeOf53 (tm Z) Z (nb Z) Z ⟨Z, Z⟩), stepg_plain Z (aop_forget (.tup [.agg (api.Conn.ct .no .no r364.1), .sl .no 2 (r364.2.1.map api.Request.av), .str r364.2.2]) [] (op_call (vs := [.agg (api.Conn.ct .no .no r363), .str s302.2.1, .agg (api.Tenant.ct r242)]) (H := []) Z call32 ⟨(AEv.le (tm Z) (AV.Le.agg ⟨vr, vr, vr, (AV.Le.forget _ _ _), vr, vr, vr, vr, vr, vr, (AV.Le.forget _ _ _), vr, vr, vr, vr, trivial⟩)), (tm Z), (tm Z), trivial⟩ (R := []) (List.Perm.refl _) (conn.Read.ok r364e) (by rintro _ _ ⟨_, rfl, rfl⟩; exact ⟨([] : List Nat), _, Z, Z, (AV.Le.tup ⟨vr, (AV.Le.forget _ _ _), vr, trivial⟩), List.nodup_nil, Z⟩)) ⟨Z, Z⟩), ym Z Z Z, yp Z (pu_extract Z (tm Z) (nb Z) Z), yp Z (pu_extract Z (tm Z) (nb Z) Z), yp Z (pu_extract Z (tm Z) (nb Z) Z), stepg_plain Z (aop_settleP (op_alloc (cs := [.i 0, .i 0, .str ([] : List UInt8), .sl .full 1 (([] : List (List UInt8)).map AV.str), .i 0, .i 0, .bool false, .i 0, .i 0, .i 0, .sl .full 2 (([] : List api.Held).map api.Held.av), .str ([] : List UInt8), .i 0, .bool false, .bool false]) (v := .agg [.i 0, .i 0, .str ([] : List UInt8), .sl .full 1 (([] : List (List UInt8)).map AV.str), .i 0, .i 0, .bool false, .i 0, .i 0, .i 0, .sl .full 2 (([] : List api.Held).map api.Held.av), .str ([] : List UInt8), .i 0, .bool false, .bool false]) Z zeroValue56 Z Z Z fun t => ⟨t, Z, Z⟩) ⟨Z, Z⟩), stepg_plain Z (op_store (i := 0) (cs' := (api.Conn.ct .no .no r364.1)) Z sizeOf56 (tm Z) (v := .agg (api.Conn.ct .no .no r364.1)) (tm Z) Z Z Z (nb Z) Z ⟨Z, Z⟩), ym Z Z Z, ym Z Z Z, trivial⟩
    obtain ⟨s373, s373e, h374⟩ := bind_some h
    refine aw_meet (ν := Unit) (fun v => [(4, .bool s373)]) (fun v => []) ?_ ?_
    ·have h := s373e
     refine aw_region (xm Z Z Z (xa (.bool (decide (r364.2.2 = ([] : List UInt8)))) Z (pu_str (v := .bool (decide (r364.2.2 = ([] : List UInt8)))) Z Z (tm Z) (AEv.const Z) Z) (xm Z Z Z ?_)))
     rcases Bool.eq_false_or_eq_true (decide (r364.2.2 = ([] : List UInt8))) with hb376 | hb376
     ·replace h := ite_t (dec_t hb376) h
      refine aops_known 76 Z hb376 (xq Z Z Z Z (xq Z Z Z Z ?_))
      obtain ⟨r377, r377e, h⟩ := bind_some h
      refine xg Z Z (op_call (vs := [.sl .no 2 (s302.1.map api.Request.av), .sl .no 2 (r364.2.1.map api.Request.av)]) (H := []) Z call18 ⟨(AEv.le (tm Z) (AV.Le.forget _ _ _)), (tm Z), trivial⟩ (List.Perm.refl _) (mewsref05.Same.ok r377e) ?_)
      rintro _ _ ⟨rfl, rfl⟩
      refine xa (.bool r377) Z (pu_pick (b := true) Z (tm Z) (fun _ => (tm Z)) (fun h => nomatch h)) (xm Z Z Z ?_)
      rcases Bool.eq_false_or_eq_true r377 with hb378 | hb378
      ·replace h := ite_t hb378 h
       refine aops_known 81 Z hb378 (xp (.ptr p244 9) Z Z (fa Z underlying56 Z sizeOf3 Z Z Z) (xg Z Z (op_load1 (i := 2) Z isAgg3 (tm Z) Z Z (xp (.ptr p365 9) Z Z (fa Z underlying56 Z sizeOf3 Z Z Z) (xg Z Z (op_load1 (i := 0) Z isAgg3 (tm Z) Z Z (xp (.bool (decide (s302.2.2.2.2.2.2.2.2.2.2.2.1 = r364.1.Asked))) Z Z (pu_int (v := .bool (decide (s302.2.2.2.2.2.2.2.2.2.2.2.1 = r364.1.Asked))) Z Z (tm Z) (tm Z) Z) (xa (.bool (decide (s302.2.2.2.2.2.2.2.2.2.2.2.1 = r364.1.Asked))) Z (pu_pick (b := true) Z (tm Z) (fun _ => (tm Z)) (fun h => nomatch h)) (xm Z Z Z ?_)))))))))
       rcases Bool.eq_false_or_eq_true (decide (s302.2.2.2.2.2.2.2.2.2.2.2.1 = r364.1.Asked)) with hb379 | hb379
       ·replace h := ite_t (dec_t hb379) h
        refine aops_known 88 Z hb379 (xp (.ptr p244 2) Z Z (fa Z underlying56 Z sizeOf29 Z Z Z) (xg Z Z (op_loadN (i := 2) Z isAgg29 sizeOf29 (tm Z) Z (nb Z) Z (xp (.ptr p365 2) Z Z (fa Z underlying56 Z sizeOf29 Z Z Z) (xg Z Z (op_loadN (i := 0) Z isAgg29 sizeOf29 (tm Z) Z (nb Z) Z ?_))))))
        obtain ⟨r380, r380e, h⟩ := bind_some h
        refine xg Z Z (op_call (vs := [.agg [.str s302.2.2.2.2.1, .sl .no 1 (s302.2.2.2.2.2.1.map AV.str), .i s302.2.2.2.2.2.2.1, .i s302.2.2.2.2.2.2.2.1, .bool s302.2.2.2.2.2.2.2.2.1, .i s302.2.2.2.2.2.2.2.2.2.1, .i s302.2.2.2.2.2.2.2.2.2.2.1], .agg (api.Input.ct .no r364.1.In)]) (H := []) Z call17 ⟨(tm Z), (tm Z), trivial⟩ (List.Perm.refl _) (mewsref05.SameInput.ok r380e) ?_)
        rintro _ _ ⟨rfl, rfl⟩
        refine xa (.bool r380) Z (pu_pick (b := true) Z (tm Z) (fun _ => (tm Z)) (fun h => nomatch h)) (xm Z Z Z ?_)
        rcases Bool.eq_false_or_eq_true r380 with hb381 | hb381
        ·replace h := ite_t hb381 h
         refine aops_known 95 Z hb381 ?_
         obtain ⟨r382, r382e, h⟩ := bind_some h
         refine xg Z Z (op_call (vs := []) (H := []) Z call25 trivial (List.Perm.refl _) (mewslaw43.alive.ok r382e) ?_)
         rintro _ _ ⟨rfl, rfl⟩
         refine xa (.bool r382) Z (pu_pick (b := true) Z (tm Z) (fun _ => (tm Z)) (fun h => nomatch h)) (xm Z Z Z (xe ?_))
         obtain rfl := some_of h
         exact ⟨(), Weak.mkL [] (by decide) trivial ⟨tm Z, trivial⟩⟩
        ·replace h := ite_fb hb381 h
         refine aops_known 95 Z hb381 (xn Z Z Z (xa (.bool false) Z (pu_pick (b := false) Z (tm Z) (fun h => nomatch h) (fun _ => (AEv.bool _))) (xm Z Z Z (xe ?_))))
         obtain rfl := some_of h
         exact ⟨(), Weak.mkL [] (by decide) trivial ⟨tm Z, trivial⟩⟩
       ·replace h := ite_f (dec_f hb379) h
        refine aops_known 88 Z hb379 (xn Z Z Z (xn Z Z Z (xn Z Z Z (xn Z Z Z (xn Z Z Z (xa (.bool false) Z (pu_pick (b := false) Z (tm Z) (fun h => nomatch h) (fun _ => (AEv.bool _))) (xm Z Z Z (xn Z Z Z (xa (.bool false) Z (pu_pick (b := false) Z (tm Z) (fun h => nomatch h) (fun _ => (AEv.bool _))) ?_)))))))))
        refine xm Z Z Z (xe ?_)
        obtain rfl := some_of h
        exact ⟨(), Weak.mkL [] (by decide) trivial ⟨tm Z, trivial⟩⟩
      ·replace h := ite_fb hb378 h
       refine aops_known 81 Z hb378 (xn Z Z Z (xn Z Z Z (xn Z Z Z (xn Z Z Z (xn Z Z Z (xa (.bool false) Z (pu_pick (b := false) Z (tm Z) (fun h => nomatch h) (fun _ => (AEv.bool _))) (xm Z Z Z (xn Z Z Z (xn Z Z Z ?_)))))))))
       refine xn Z Z Z (xn Z Z Z (xn Z Z Z (xa (.bool false) Z (pu_pick (b := false) Z (tm Z) (fun h => nomatch h) (fun _ => (AEv.bool _))) (xm Z Z Z (xn Z Z Z (xa (.bool false) Z (pu_pick (b := false) Z (tm Z) (fun h => nomatch h) (fun _ => (AEv.bool _))) (xm Z Z Z (xe ?_))))))))
       obtain rfl := some_of h
       exact ⟨(), Weak.mkL [] (by decide) trivial ⟨tm Z, trivial⟩⟩
     ·replace h := ite_f (dec_f hb376) h
      refine aops_known 76 Z hb376 (xn Z Z Z (xn Z Z Z (xn Z Z Z (xa (.bool false) Z (pu_pick (b := false) Z (tm Z) (fun h => nomatch h) (fun _ => (AEv.bool _))) (xm Z Z Z (xn Z Z Z (xn Z Z Z (xn Z Z Z (xn Z Z Z ?_)))))))))
      refine xn Z Z Z (xa (.bool false) Z (pu_pick (b := false) Z (tm Z) (fun h => nomatch h) (fun _ => (AEv.bool _))) (xm Z Z Z (xn Z Z Z (xn Z Z Z (xn Z Z Z (xn Z Z Z (xn Z Z Z (xa (.bool false) Z (pu_pick (b := false) Z (tm Z) (fun h => nomatch h) (fun _ => (AEv.bool _))) (xm Z Z Z ?_)))))))))
      refine xn Z Z Z (xa (.bool false) Z (pu_pick (b := false) Z (tm Z) (fun h => nomatch h) (fun _ => (AEv.bool _))) (xm Z Z Z (xe ?_)))
      obtain rfl := some_of h
      exact ⟨(), Weak.mkL [] (by decide) trivial ⟨tm Z, trivial⟩⟩
    ·intro _
     have h := h374
     refine aw_ret ?_
     obtain rfl := some_of h
     exact ⟨[.bool s373], _, [], ⟨(tm Z), trivial⟩, vr, Weak.mkL [] (by decide) trivial trivial, ⟨Z, Z⟩⟩
   ·have h := s383e
    refine xr (xm Z Z Z (xa (.i (pieces.length : Int)) Z (pu_lenM Z underlying26 (tm Z)) (xa (.i 0) Z (pu_move Z (AEv.int _ _)) (xe (aw_block (aw_claim 9 (tm Z) fun t362 => (aw_while (σ := mewslaw43.ConnPieces.S2) (ν := Nat) (mewslaw43.ConnPieces.body2 pieces r242) (fun s341 v => [(2, .ptr p193 0), (8, .ptr p244 0), (9, .sl (.own v) 2 (s341.got.map api.Request.av)), (10, .str s341.all_), (37, .sl .no 1 (pieces.map AV.str)), (38, .i (pieces.length : Int)), (39, .i s341.t39)]) (fun s341 v => [(p193, .cells (api.Tenant.ct r242)), (p244, .cells [.i s341.c, .i s341.c2, .str s341.c3, .sl .no 1 (s341.c4.map AV.str), .i s341.c5, .i s341.c6, .bool s341.c7, .i s341.c8, .i s341.c9, .i s341.c10, .sl .no 2 (s341.c11.map api.Held.av), .str s341.c12, .i s341.c13, .bool s341.c14, .bool s341.c15]), (v, .spare)]) ⟨([] : List api.Request), ([] : List UInt8), 0, r243.Born, r243.Tenant, r243.In.Rest, r243.In.Args, r243.In.Left, r243.In.Size, r243.In.Body, r243.In.Need, r243.In.Dead, r243.Asked, r243.Held, r243.Out, r243.Taken, r243.Shut, r243.Closed⟩ t362 _ h (Weak.mkL [2, 1, 0] (by decide) ⟨⟨_, Z, cr, Z⟩, ⟨_, Z, ⟨vr, vr, vr, (AV.Le.forget _ _ _), vr, vr, vr, vr, vr, vr, (AV.Le.forget _ _ _), vr, vr, vr, vr, trivial⟩, Z⟩, ⟨_, Z, Z⟩, trivial⟩ ⟨tm Z, tm Z, tm Z, tm Z, tm Z, tm Z, tm Z, trivial⟩) ?_)))))))
    rintro s341 n342 x344 h hx343
    unfold mewslaw43.ConnPieces.body2 at h
    refine xr (xa (.bool (decide (s341.t39 < (pieces.length : Int)))) Z (pu_int (v := .bool (decide (s341.t39 < (pieces.length : Int)))) Z Z (tm Z) (tm Z) Z) (xe (aw_seq (aw_cond (b := decide (s341.t39 < (pieces.length : Int))) (tm Z) (fun hb361 => ?_) (fun hb361 => ?_)))))
    ·replace h := ite_t (dec_t hb361) h
     refine aw_skip (aw_seq (aw_block (aw_seq (aw_region ?_))))
     obtain ⟨c346, h⟩ := need_of h
     refine xa (.vptr [.str (ix pieces s341.t39)]) Z (pu_indexAddrM Z underlying26 sizeOf9 (tm Z) (tm Z) c346 Z) (xc Z (op_loadV1 Z isAgg9 (tm Z) Z (xm Z Z Z (xe (xr (xc Z (op_loadN (i := 1) Z isAgg56 sizeOf56 (tm Z) Z (nb Z) Z (xm Z Z Z (xc Z (op_loadN (i := 0) Z isAgg53 sizeOf53 (tm Z) Z (nb Z) Z ?_))))))))))
     obtain ⟨r347, r347e, h⟩ := bind_some h
     refine xc Z (op_call (vs := [.agg [.i s341.c, .i s341.c2, .str s341.c3, .sl .no 1 (s341.c4.map AV.str), .i s341.c5, .i s341.c6, .bool s341.c7, .i s341.c8, .i s341.c9, .i s341.c10, .sl .no 2 (s341.c11.map api.Held.av), .str s341.c12, .i s341.c13, .bool s341.c14, .bool s341.c15], .str (ix pieces s341.t39), .agg (api.Tenant.ct r242)]) (H := []) Z call32 ⟨(tm Z), (tm Z), (tm Z), trivial⟩ (List.Perm.refl _) (conn.Read.ok r347e) ?_)
     rintro _ _ ⟨t348, rfl, rfl⟩
     refine xm Z Z Z (xa (.agg (api.Conn.ct .no .no r347.1)) Z (pu_extract Z (tm Z) (nb Z) Z) (xa (.sl (.own t348) 2 (r347.2.1.map api.Request.av)) Z (pu_extract Z (tm Z) (nb Z) Z) (xa (.str r347.2.2) Z (pu_extract Z (tm Z) (nb Z) Z) (xc Z (op_alloc (cs := [.i 0, .i 0, .str ([] : List UInt8), .sl .full 1 (([] : List (List UInt8)).map AV.str), .i 0, .i 0, .bool false, .i 0, .i 0, .i 0, .sl .full 2 (([] : List api.Held).map api.Held.av), .str ([] : List UInt8), .i 0, .bool false, .bool false]) (v := .agg [.i 0, .i 0, .str ([] : List UInt8), .sl .full 1 (([] : List (List UInt8)).map AV.str), .i 0, .i 0, .bool false, .i 0, .i 0, .i 0, .sl .full 2 (([] : List api.Held).map api.Held.av), .str ([] : List UInt8), .i 0, .bool false, .bool false]) Z zeroValue56 Z Z Z ?_)))))
     intro p349
     refine ac0 Z Z (op_store (i := 0) (cs' := (api.Conn.ct .no .no r347.1)) Z sizeOf56 (tm Z) (v := .agg (api.Conn.ct .no .no r347.1)) (tm Z) Z Z Z (nb Z) Z (xm Z Z Z (xm Z Z Z (xe (aw_seq (xr (xm Z Z Z (xa (.bool (!decide (r347.2.2 = ([] : List UInt8)))) Z (pu_str (v := .bool (!decide (r347.2.2 = ([] : List UInt8)))) Z Z (tm Z) (AEv.const Z) Z) (xe ?_)))))))))
     refine aw_cond (b := (!decide (r347.2.2 = ([] : List UInt8)))) (tm Z) (fun hb360 => ?_) (fun hb360 => ?_)
     ·replace h := ite_f (ndec_t hb360) h
      obtain ⟨s352, s352e, h353⟩ := bind_some h
      refine aw_meet (ν := Unit) (fun v => [(4, .bool s352)]) (fun v => []) ?_ ?_
      ·have h := s352e
       refine aw_region (xa (.ptr p349 13) Z (fa Z underlying56 Z sizeOf4 Z Z Z) (xc Z (op_load1 (i := 0) Z isAgg4 (tm Z) Z Z (xm Z Z Z ?_))))
       rcases Bool.eq_false_or_eq_true r347.1.Shut with hb355 | hb355
       ·replace h := ite_t hb355 h
        refine aops_known 55 Z hb355 ?_
        obtain ⟨r356, r356e, h⟩ := bind_some h
        refine xg Z Z (op_call (vs := []) (H := []) Z call25 trivial (List.Perm.refl _) (mewslaw43.alive.ok r356e) ?_)
        rintro _ _ ⟨rfl, rfl⟩
        refine xa (.bool r356) Z (pu_pick (b := true) Z (tm Z) (fun _ => (tm Z)) (fun h => nomatch h)) (xm Z Z Z (xe ?_))
        obtain rfl := some_of h
        exact ⟨(), Weak.mkL [] (by decide) trivial ⟨tm Z, trivial⟩⟩
       ·replace h := ite_fb hb355 h
        refine aops_known 55 Z hb355 (xn Z Z Z (xa (.bool false) Z (pu_pick (b := false) Z (tm Z) (fun h => nomatch h) (fun _ => (AEv.bool _))) (xm Z Z Z (xe ?_))))
        obtain rfl := some_of h
        exact ⟨(), Weak.mkL [] (by decide) trivial ⟨tm Z, trivial⟩⟩
      ·intro _
       have h := h353
       refine aw_ret ?_
       obtain rfl := some_of h
       have h := congrArg some (hx343 _ rfl)
       obtain rfl := some_of h
       have h := onSum_inr h304
       obtain rfl := some_of h
       exact ⟨[.bool s352], _, [], ⟨(tm Z), trivial⟩, vr, Weak.mkL [] (by decide) trivial trivial, ⟨Z, Z⟩⟩
     ·replace h := ite_t (ndec_f hb360) h
      refine aw_skip (xr (xc Z (op_loadN (i := 0) Z isAgg56 sizeOf56 (tm Z) Z (nb Z) Z (ac0 Z Z (op_store (i := 3) (cs' := (api.Conn.ct .no .no r347.1)) Z sizeOf56 (tm Z) (v := .agg (api.Conn.ct .no .no r347.1)) (tm Z) Z Z Z (nb Z) Z (xe (xr (xm Z Z Z (xm Z Z Z ?_)))))))))
      obtain ⟨c357, h⟩ := need_of h
      refine xc Z (op_appendOM (q := 4) Z underlying30 underlying30 (.inl Z) typeInfo44 Z Z Z (by decide) (tm Z) Z (given_sl (tm Z)) c357 ?_)
      intro t358
      refine xm Z Z Z (xe (aw_region (xm Z Z Z (xm Z Z Z ?_))))
      obtain ⟨c359, h⟩ := need_of h
      refine xa (.str (s341.all_ ++ (ix pieces s341.t39))) Z (pu_strAdd Z (tm Z) (tm Z) c359) (xm Z Z Z (xe (aw_region (xa (.i (IntKind.wrap .i64 (s341.t39 + 1))) Z (pu_int (v := .i (IntKind.wrap .i64 (s341.t39 + 1))) Z Z (tm Z) (AEv.int _ _) Z) (xm Z Z Z (xe ?_))))))
      obtain rfl := some_of h
      exact ⟨_, t358, Z, Weak.mkL [2, 3, 4] (by decide) ⟨⟨_, Z, cr, Z⟩, ⟨_, Z, cr, Z⟩, ⟨_, Z, Z⟩, trivial⟩ ⟨tm Z, tm Z, (AEv.le (tm Z) vr), (AEv.le (tm Z) vr), tm Z, tm Z, (AEv.le (tm Z) vr), trivial⟩⟩
    ·replace h := ite_f (dec_f hb361) h
     refine aw_exit ?_
     obtain rfl := some_of h
     have h := congrArg some (hx343 _ rfl)
     exact ⟨(s341.got, s341.all_, s341.c, s341.c2, s341.c3, s341.c4, s341.c5, s341.c6, s341.c7, s341.c8, s341.c9, s341.c10, s341.c11, s341.c12, s341.c13, s341.c14, s341.c15), n342, (some_of h).symm, Weak.mkL [0, 1, 2] (by decide) ⟨⟨_, Z, cr, Z⟩, ⟨_, Z, cr, Z⟩, ⟨_, Z, Z⟩, trivial⟩ ⟨tm Z, tm Z, tm Z, tm Z, trivial⟩⟩

end Go.Pu
