/- Printed by lift.py: the functions come to them. -/
import Derived.Test.YtnlnolbgakfofaaGreatLiftW
import Derived.Test.YtnlnolbgakfofaaGreatMKP
import Derived.Test.YtnlnolbgakfofaaGreatProg
import Derived.Test.YtnlnolbgakfofaaGreatLiftZS
import Derived.Test.YtnlnolbgakfofaaGreatShelf
import Derived.Test.YtnlnolbgakfofaaGreatLiftZT
import Derived.Test.YtnlnolbgakfofaaGreatLiftZU
import Derived.WalkKit
set_option maxRecDepth 100000
set_option maxHeartbeats 0
namespace Go.Pu
open Go.Lift Go.Proofs.Tryz Go.RowKit Go.Proofs

theorem mewsref19.Size.ok {v_ : api.Value} {r : Int} (h : mewsref19.Size v_ = some r) : Go.Lift.Spec prog 15 [.agg (api.Value.ct .no .no .no v_)] [] (fun v H => v = .i r ∧ H = []) := by
 unfold mewsref19.Size at h
 refine Go.Lift.Spec.of_body (rs := [.tmp 2]) func15 Z Z (nb Z) Z (xr (xc Z (op_box (cs := (api.Value.ct .no .no .no v_)) (v := .agg (api.Value.ct .no .no .no v_)) Z (tm Z) Z Z ?_)))
 intro p179
 refine xa (.i 0) Z (pu_assign Z (AEv.int _ _)) (xe (xr (xa (.ptr p179 1) Z (fa Z underlying26 Z sizeOf9 Z Z Z) (xc Z (op_load1 (i := 0) Z isAgg9 (tm Z) Z Z (xa (.i (v_.Text.length : Int)) Z (pu_strLen Z underlying9 (tm Z)) (xm Z Z Z (xe ?_))))))))
 obtain ⟨s207, s207e, h208⟩ := bind_some h
 refine aw_meet (ν := Unit) (fun v => [(1, .ptr p179 0), (3, .i s207)]) (fun v => [(p179, .cells (api.Value.ct .no .no .no v_))]) ?_ ?_
 ·have h := s207e
  refine xr (xa (.i 0) Z (pu_assign Z (AEv.int _ _)) (xe (aw_block (aw_while (σ := mewsref19.Size.S0) (ν := Unit) (mewsref19.Size.body0 v_) (fun s226 v => [(1, .ptr p179 0), (3, .i s226.n), (4, .i s226.i)]) (fun s226 v => [(p179, .cells (api.Value.ct .no .no .no v_))]) ⟨(v_.Text.length : Int), 0⟩ () _ h (Weak.mkL [0] (by decide) ⟨⟨_, Z, cr, Z⟩, trivial⟩ ⟨tm Z, tm Z, tm Z, trivial⟩) ?_))))
  rintro s226 _ x228 h hx227
  unfold mewsref19.Size.body0 at h
  refine aw_seq ?_
  obtain ⟨s231, s231e, h232⟩ := letO_of h
  refine aw_meet (ν := Unit) (fun v => [(1, .ptr p179 0), (3, .i s226.n), (4, .i s226.i), (18, .bool s231)]) (fun v => [(p179, .cells (api.Value.ct .no .no .no v_))]) ?_ ?_
  ·have h := s231e.symm
   refine aw_region (xm Z Z Z (xa (.ptr p179 2) Z (fa Z underlying26 Z sizeOf22 Z Z Z) (xc Z (op_load1 (i := 0) Z isAgg22 (tm Z) Z Z (xa (.i (v_.List_.length : Int)) Z (pu_lenM Z underlying22 (tm Z)) (xa (.bool (decide (s226.i < (v_.List_.length : Int)))) Z (pu_int (v := .bool (decide (s226.i < (v_.List_.length : Int)))) Z Z (tm Z) (tm Z) Z) (xm Z Z Z ?_)))))))
   rcases Bool.eq_false_or_eq_true (decide (s226.i < (v_.List_.length : Int))) with hb234 | hb234
   ·replace h := ite_t (dec_t hb234) h
    refine aops_known 15 Z hb234 (xq Z Z Z Z (xp (.bool (decide (s226.n < 100000))) Z Z (pu_int (v := .bool (decide (s226.n < 100000))) Z Z (tm Z) (AEv.int _ _) Z) (xa (.bool (decide (s226.n < 100000))) Z (pu_pick (b := true) Z (tm Z) (fun _ => (tm Z)) (fun h => nomatch h)) (xe ?_))))
    subst h
    exact ⟨(), Weak.mkL [0] (by decide) ⟨⟨_, Z, cr, Z⟩, trivial⟩ ⟨tm Z, tm Z, tm Z, (AEv.le (tm Z) vr), trivial⟩⟩
   ·replace h := ite_f (dec_f hb234) h
    refine aops_known 15 Z hb234 (xn Z Z Z (xn Z Z Z (xa (.bool false) Z (pu_pick (b := false) Z (tm Z) (fun h => nomatch h) (fun _ => (AEv.bool _))) (xe ?_))))
    subst h
    exact ⟨(), Weak.mkL [0] (by decide) ⟨⟨_, Z, cr, Z⟩, trivial⟩ ⟨tm Z, tm Z, tm Z, tm Z, trivial⟩⟩
  ·intro _
   have h := h232
   refine aw_cond (b := s231) (tm Z) (fun hb236 => ?_) (fun hb236 => ?_)
   ·replace h := ite_t hb236 h
    refine aw_skip (aw_seq (aw_block (aw_region (xm Z Z Z (xa (.ptr p179 2) Z (fa Z underlying26 Z sizeOf22 Z Z Z) (xc Z (op_load1 (i := 0) Z isAgg22 (tm Z) Z Z (xm Z Z Z ?_))))))))
    obtain ⟨c235, h⟩ := need_of h
    refine xa (.vptr [.str (ix v_.List_ s226.i)]) Z (pu_indexAddrM Z underlying22 sizeOf9 (tm Z) (tm Z) c235 Z) (xc Z (op_loadV1 Z isAgg9 (tm Z) Z (xa (.i ((ix v_.List_ s226.i).length : Int)) Z (pu_strLen Z underlying9 (tm Z)) (xa (.i (IntKind.wrap .i64 (1 + ((ix v_.List_ s226.i).length : Int)))) Z (pu_int (v := .i (IntKind.wrap .i64 (1 + ((ix v_.List_ s226.i).length : Int)))) Z Z (AEv.int _ _) (tm Z) Z) (xa (.i (IntKind.wrap .i64 (s226.n + (IntKind.wrap .i64 (1 + ((ix v_.List_ s226.i).length : Int)))))) Z (pu_int (v := .i (IntKind.wrap .i64 (s226.n + (IntKind.wrap .i64 (1 + ((ix v_.List_ s226.i).length : Int)))))) Z Z (tm Z) (tm Z) Z) (xm Z Z Z (xe (aw_region (xm Z Z Z (xa (.i (IntKind.wrap .i64 (s226.i + 1))) Z (pu_int (v := .i (IntKind.wrap .i64 (s226.i + 1))) Z Z (tm Z) (AEv.int _ _) Z) ?_))))))))))
    refine xm Z Z Z (xe ?_)
    obtain rfl := some_of h
    exact ⟨_, (), Z, Weak.mkL [0] (by decide) ⟨⟨_, Z, cr, Z⟩, trivial⟩ ⟨tm Z, (AEv.le (tm Z) vr), (AEv.le (tm Z) vr), trivial⟩⟩
   ·replace h := ite_fb hb236 h
    refine aw_exit ?_
    obtain rfl := some_of h
    have h := congrArg some (hx227 _ rfl)
    obtain rfl := some_of h
    exact ⟨(), Weak.mkL [0] (by decide) ⟨⟨_, Z, cr, Z⟩, trivial⟩ ⟨tm Z, tm Z, trivial⟩⟩
 ·intro _
  have h := h208
  obtain ⟨s267, s267e, h268⟩ := bind_some h
  refine aw_meet (ν := Unit) (fun v => [(1, .ptr p179 0), (3, .i s267)]) (fun v => [(p179, .cells (api.Value.ct .no .no .no v_))]) ?_ ?_
  ·have h := s267e
   refine xr (xa (.i 0) Z (pu_assign Z (AEv.int _ _)) (xe (aw_block (aw_while (σ := mewsref19.Size.S2) (ν := Unit) (mewsref19.Size.body2 v_) (fun s288 v => [(1, .ptr p179 0), (3, .i s288.n), (5, .i s288.i)]) (fun s288 v => [(p179, .cells (api.Value.ct .no .no .no v_))]) ⟨s207, 0⟩ () _ h (Weak.mkL [0] (by decide) ⟨⟨_, Z, cr, Z⟩, trivial⟩ ⟨tm Z, tm Z, tm Z, trivial⟩) ?_))))
   rintro s288 _ x290 h hx289
   unfold mewsref19.Size.body2 at h
   refine aw_seq ?_
   obtain ⟨s293, s293e, h294⟩ := letO_of h
   refine aw_meet (ν := Unit) (fun v => [(1, .ptr p179 0), (3, .i s288.n), (5, .i s288.i), (38, .bool s293)]) (fun v => [(p179, .cells (api.Value.ct .no .no .no v_))]) ?_ ?_
   ·have h := s293e.symm
    refine aw_region (xm Z Z Z (xa (.ptr p179 3) Z (fa Z underlying26 Z sizeOf23 Z Z Z) (xc Z (op_load1 (i := 0) Z isAgg23 (tm Z) Z Z (xa (.i (v_.Hash.length : Int)) Z (pu_lenM Z underlying23 (tm Z)) (xa (.bool (decide (s288.i < (v_.Hash.length : Int)))) Z (pu_int (v := .bool (decide (s288.i < (v_.Hash.length : Int)))) Z Z (tm Z) (tm Z) Z) (xm Z Z Z ?_)))))))
    rcases Bool.eq_false_or_eq_true (decide (s288.i < (v_.Hash.length : Int))) with hb296 | hb296
    ·replace h := ite_t (dec_t hb296) h
     refine aops_known 35 Z hb296 (xq Z Z Z Z (xp (.bool (decide (s288.n < 100000))) Z Z (pu_int (v := .bool (decide (s288.n < 100000))) Z Z (tm Z) (AEv.int _ _) Z) (xa (.bool (decide (s288.n < 100000))) Z (pu_pick (b := true) Z (tm Z) (fun _ => (tm Z)) (fun h => nomatch h)) (xe ?_))))
     subst h
     exact ⟨(), Weak.mkL [0] (by decide) ⟨⟨_, Z, cr, Z⟩, trivial⟩ ⟨tm Z, tm Z, tm Z, (AEv.le (tm Z) vr), trivial⟩⟩
    ·replace h := ite_f (dec_f hb296) h
     refine aops_known 35 Z hb296 (xn Z Z Z (xn Z Z Z (xa (.bool false) Z (pu_pick (b := false) Z (tm Z) (fun h => nomatch h) (fun _ => (AEv.bool _))) (xe ?_))))
     subst h
     exact ⟨(), Weak.mkL [0] (by decide) ⟨⟨_, Z, cr, Z⟩, trivial⟩ ⟨tm Z, tm Z, tm Z, tm Z, trivial⟩⟩
   ·intro _
    have h := h294
    refine aw_cond (b := s293) (tm Z) (fun hb299 => ?_) (fun hb299 => ?_)
    ·replace h := ite_t hb299 h
     refine aw_skip (aw_seq (aw_block ?_))
     obtain ⟨c297, h⟩ := need_of h
     obtain ⟨c298, h⟩ := need_of h
     refine aw_planR (by decide +kernel) [[], [], [(0, 0, false)], [], [], [], [], [], [], [], [(0, 0, false)], [], [], [], [], [], [], [], []] [[]] [[[(p179, .cells (api.Value.ct .no .no .no v_))]]] [.i s288.n, .ptr p179 3, .sl .no 2 (v_.Hash.map api.Field.av), .i s288.i, .vptr [.str (ix v_.Hash s288.i).Key, .str (ix v_.Hash s288.i).Val], .vptr [.str (ix v_.Hash s288.i).Key, .str (ix v_.Hash s288.i).Val], .str (ix v_.Hash s288.i).Key, .i ((ix v_.Hash s288.i).Key.length : Int), .i (IntKind.wrap .i64 (1 + ((ix v_.Hash s288.i).Key.length : Int))), .ptr p179 3, .sl .no 2 (v_.Hash.map api.Field.av), .i s288.i, .vptr [.str (ix v_.Hash s288.i).Key, .str (ix v_.Hash s288.i).Val], .vptr [.str (ix v_.Hash s288.i).Val], .str (ix v_.Hash s288.i).Val, .i ((ix v_.Hash s288.i).Val.length : Int), .i (IntKind.wrap .i64 ((IntKind.wrap .i64 (1 + ((ix v_.Hash s288.i).Key.length : Int))) + ((ix v_.Hash s288.i).Val.length : Int))), .i (IntKind.wrap .i64 (s288.n + (IntKind.wrap .i64 ((IntKind.wrap .i64 (1 + ((ix v_.Hash s288.i).Key.length : Int))) + ((ix v_.Hash s288.i).Val.length : Int))))), .i (IntKind.wrap .i64 (s288.n + (IntKind.wrap .i64 ((IntKind.wrap .i64 (1 + ((ix v_.Hash s288.i).Key.length : Int))) + ((ix v_.Hash s288.i).Val.length : Int)))))] (by decide +kernel) Z Z ?_ ?_
     ·exact ⟨ym Z Z Z, yp Z (fa Z underlying26 Z sizeOf23 Z Z Z), stepg_plain Z (op_load1 (i := 0) Z isAgg23 (tm Z) Z Z ⟨Z, Z⟩), ym Z Z Z, yp Z (pu_indexAddrM Z underlying23 sizeOf54 (tm Z) (tm Z) c297 Z), yp Z (fa Z underlying54 Z sizeOf9 Z Z Z), stepg_plain Z (op_loadV1 Z isAgg9 (tm Z) Z ⟨Z, Z⟩), yp Z (pu_strLen Z underlying9 (tm Z)), yp Z (pu_int (v := .i (IntKind.wrap .i64 (1 + ((ix v_.Hash s288.i).Key.length : Int)))) Z Z (AEv.int _ _) (tm Z) Z), yp Z (fa Z underlying26 Z sizeOf23 Z Z Z), stepg_plain Z (op_load1 (i := 0) Z isAgg23 (tm Z) Z Z ⟨Z, Z⟩), ym Z Z Z, yp Z (pu_indexAddrM Z underlying23 sizeOf54 (tm Z) (tm Z) c298 Z), yp Z (fa Z underlying54 Z sizeOf9 Z Z Z), stepg_plain Z (op_loadV1 Z isAgg9 (tm Z) Z ⟨Z, Z⟩), yp Z (pu_strLen Z underlying9 (tm Z)), yp Z (pu_int (v := .i (IntKind.wrap .i64 ((IntKind.wrap .i64 (1 + ((ix v_.Hash s288.i).Key.length : Int))) + ((ix v_.Hash s288.i).Val.length : Int)))) Z Z (tm Z) (tm Z) Z), yp Z (pu_int (v := .i (IntKind.wrap .i64 (s288.n + (IntKind.wrap .i64 ((IntKind.wrap .i64 (1 + ((ix v_.Hash s288.i).Key.length : Int))) + ((ix v_.Hash s288.i).Val.length : Int)))))) Z Z (tm Z) (tm Z) Z), ym Z Z Z, trivial⟩
     refine aw_region (xm Z Z Z (xa (.i (IntKind.wrap .i64 (s288.i + 1))) Z (pu_int (v := .i (IntKind.wrap .i64 (s288.i + 1))) Z Z (tm Z) (AEv.int _ _) Z) (xm Z Z Z (xe ?_))))
     obtain rfl := some_of h
     exact ⟨_, (), Z, Weak.mkL [0] (by decide) ⟨⟨_, Z, cr, Z⟩, trivial⟩ ⟨tm Z, (AEv.le (tm Z) vr), (AEv.le (tm Z) vr), trivial⟩⟩
    ·replace h := ite_fb hb299 h
     refine aw_exit ?_
     obtain rfl := some_of h
     have h := congrArg some (hx289 _ rfl)
     obtain rfl := some_of h
     exact ⟨(), Weak.mkL [0] (by decide) ⟨⟨_, Z, cr, Z⟩, trivial⟩ ⟨tm Z, tm Z, trivial⟩⟩
  ·intro _
   have h := h268
   obtain ⟨s327, s327e, h328⟩ := bind_some h
   refine aw_meet (ν := Unit) (fun v => [(3, .i s327)]) (fun v => []) ?_ ?_
   ·have h := s327e
    refine xr (xa (.i 0) Z (pu_assign Z (AEv.int _ _)) (xe (aw_block (aw_while (σ := mewsref19.Size.S4) (ν := Unit) (mewsref19.Size.body4 v_) (fun s346 v => [(1, .ptr p179 0), (3, .i s346.n), (6, .i s346.i)]) (fun s346 v => [(p179, .cells (api.Value.ct .no .no .no v_))]) ⟨s267, 0⟩ () _ h (Weak.mkL [0] (by decide) ⟨⟨_, Z, cr, Z⟩, trivial⟩ ⟨tm Z, tm Z, tm Z, trivial⟩) ?_))))
    rintro s346 _ x348 h hx347
    unfold mewsref19.Size.body4 at h
    refine aw_seq ?_
    obtain ⟨s351, s351e, h352⟩ := letO_of h
    refine aw_meet (ν := Unit) (fun v => [(1, .ptr p179 0), (3, .i s346.n), (6, .i s346.i), (67, .bool s351)]) (fun v => [(p179, .cells (api.Value.ct .no .no .no v_))]) ?_ ?_
    ·have h := s351e.symm
     refine aw_region (xm Z Z Z (xa (.ptr p179 4) Z (fa Z underlying26 Z sizeOf24 Z Z Z) (xc Z (op_load1 (i := 0) Z isAgg24 (tm Z) Z Z (xa (.i (v_.ZSet.length : Int)) Z (pu_lenM Z underlying24 (tm Z)) (xa (.bool (decide (s346.i < (v_.ZSet.length : Int)))) Z (pu_int (v := .bool (decide (s346.i < (v_.ZSet.length : Int)))) Z Z (tm Z) (tm Z) Z) (xm Z Z Z ?_)))))))
     rcases Bool.eq_false_or_eq_true (decide (s346.i < (v_.ZSet.length : Int))) with hb354 | hb354
     ·replace h := ite_t (dec_t hb354) h
      refine aops_known 64 Z hb354 (xq Z Z Z Z (xp (.bool (decide (s346.n < 100000))) Z Z (pu_int (v := .bool (decide (s346.n < 100000))) Z Z (tm Z) (AEv.int _ _) Z) (xa (.bool (decide (s346.n < 100000))) Z (pu_pick (b := true) Z (tm Z) (fun _ => (tm Z)) (fun h => nomatch h)) (xe ?_))))
      subst h
      exact ⟨(), Weak.mkL [0] (by decide) ⟨⟨_, Z, cr, Z⟩, trivial⟩ ⟨tm Z, tm Z, tm Z, (AEv.le (tm Z) vr), trivial⟩⟩
     ·replace h := ite_f (dec_f hb354) h
      refine aops_known 64 Z hb354 (xn Z Z Z (xn Z Z Z (xa (.bool false) Z (pu_pick (b := false) Z (tm Z) (fun h => nomatch h) (fun _ => (AEv.bool _))) (xe ?_))))
      subst h
      exact ⟨(), Weak.mkL [0] (by decide) ⟨⟨_, Z, cr, Z⟩, trivial⟩ ⟨tm Z, tm Z, tm Z, tm Z, trivial⟩⟩
    ·intro _
     have h := h352
     refine aw_cond (b := s351) (tm Z) (fun hb356 => ?_) (fun hb356 => ?_)
     ·replace h := ite_t hb356 h
      refine aw_skip (aw_seq (aw_block (aw_region (xm Z Z Z (xa (.ptr p179 4) Z (fa Z underlying26 Z sizeOf24 Z Z Z) (xc Z (op_load1 (i := 0) Z isAgg24 (tm Z) Z Z (xm Z Z Z ?_))))))))
      obtain ⟨c355, h⟩ := need_of h
      refine xa (.vptr [.str (ix v_.ZSet s346.i).Member, .i (ix v_.ZSet s346.i).Score]) Z (pu_indexAddrM Z underlying24 sizeOf64 (tm Z) (tm Z) c355 Z) (xa (.vptr [.str (ix v_.ZSet s346.i).Member, .i (ix v_.ZSet s346.i).Score]) Z (fa Z underlying64 Z sizeOf9 Z Z Z) (xc Z (op_loadV1 Z isAgg9 (tm Z) Z (xa (.i ((ix v_.ZSet s346.i).Member.length : Int)) Z (pu_strLen Z underlying9 (tm Z)) (xa (.i (IntKind.wrap .i64 (1 + ((ix v_.ZSet s346.i).Member.length : Int)))) Z (pu_int (v := .i (IntKind.wrap .i64 (1 + ((ix v_.ZSet s346.i).Member.length : Int)))) Z Z (AEv.int _ _) (tm Z) Z) (xa (.i (IntKind.wrap .i64 (s346.n + (IntKind.wrap .i64 (1 + ((ix v_.ZSet s346.i).Member.length : Int)))))) Z (pu_int (v := .i (IntKind.wrap .i64 (s346.n + (IntKind.wrap .i64 (1 + ((ix v_.ZSet s346.i).Member.length : Int)))))) Z Z (tm Z) (tm Z) Z) (xm Z Z Z (xe (aw_region (xm Z Z Z ?_))))))))))
      refine xa (.i (IntKind.wrap .i64 (s346.i + 1))) Z (pu_int (v := .i (IntKind.wrap .i64 (s346.i + 1))) Z Z (tm Z) (AEv.int _ _) Z) (xm Z Z Z (xe ?_))
      obtain rfl := some_of h
      exact ⟨_, (), Z, Weak.mkL [0] (by decide) ⟨⟨_, Z, cr, Z⟩, trivial⟩ ⟨tm Z, (AEv.le (tm Z) vr), (AEv.le (tm Z) vr), trivial⟩⟩
     ·replace h := ite_fb hb356 h
      refine aw_exit ?_
      obtain rfl := some_of h
      have h := congrArg some (hx347 _ rfl)
      obtain rfl := some_of h
      exact ⟨(), Weak.mkL [] (by decide) trivial ⟨tm Z, trivial⟩⟩
   ·intro _
    have h := h328
    refine xr (xm Z Z Z (xm Z Z Z (xe (aw_ret ?_))))
    obtain rfl := some_of h
    exact ⟨[.i s327], _, [], ⟨(tm Z), trivial⟩, vr, Weak.mkL [] (by decide) trivial trivial, ⟨Z, Z⟩⟩

theorem mewslaw19.Far.ok {l : List api.Value} {r : Bool} (h : mewslaw19.Far l = some r) : Go.Lift.Spec prog 4 [.sl .no 5 (l.map api.Value.av)] [] (fun v H => v = .bool r ∧ H = []) := by
 unfold mewslaw19.Far at h
 refine Go.Lift.Spec.of_body (rs := [.tmp 2]) func4 Z Z (nb Z) Z (xr (xa (.bool false) Z (pu_assign Z (AEv.bool _)) (xe (xr (xa (.i 0) Z (pu_assign Z (AEv.int _ _)) (xe ?_))))))
 obtain ⟨s92, s92e, h69⟩ := bind_some h
 refine aw_join (σ := Unit) (ν := Unit) (fun u v => [(0, .sl .no 5 (l.map api.Value.av))]) (fun u v => []) (fun u => s92 = .inl u) ?_ ?_
 ·intro s68
  intro _
  rintro rfl
  have h := onSum_inl h69
  refine xr (xm Z Z Z (xa (.i (l.length : Int)) Z (pu_lenM Z underlying37 (tm Z)) (xa (.bool (decide (100 < (l.length : Int)))) Z (pu_int (v := .bool (decide (100 < (l.length : Int)))) Z Z (tm Z) (AEv.int _ _) Z) (xm Z Z Z (xe (aw_ret ?_))))))
  obtain rfl := some_of h
  exact ⟨[.bool (decide (100 < (l.length : Int)))], _, [], ⟨(tm Z), trivial⟩, vr, Weak.mkL [] (by decide) trivial trivial, ⟨Z, Z⟩⟩
 ·have h := s92e
  refine xr (xm Z Z Z (xa (.i (l.length : Int)) Z (pu_lenM Z underlying37 (tm Z)) (xa (.i 0) Z (pu_move Z (AEv.int _ _)) (xe (aw_block (aw_while (σ := mewslaw19.Far.S0) (ν := Unit) (mewslaw19.Far.body0 l) (fun s83 v => [(0, .sl .no 5 (l.map api.Value.av)), (3, .i s83.n), (6, .sl .no 5 (l.map api.Value.av)), (7, .i (l.length : Int)), (8, .i s83.t8)]) (fun s83 v => []) ⟨0, 0⟩ () _ h (Weak.mkL [] (by decide) trivial ⟨tm Z, tm Z, tm Z, tm Z, tm Z, trivial⟩) ?_))))))
  rintro s83 _ x85 h hx84
  unfold mewslaw19.Far.body0 at h
  refine xr (xa (.bool (decide (s83.t8 < (l.length : Int)))) Z (pu_int (v := .bool (decide (s83.t8 < (l.length : Int)))) Z Z (tm Z) (tm Z) Z) (xe (aw_seq (aw_cond (b := decide (s83.t8 < (l.length : Int))) (tm Z) (fun hb91 => ?_) (fun hb91 => ?_)))))
  ·replace h := ite_t (dec_t hb91) h
   refine aw_skip (aw_seq (aw_block (aw_seq (aw_region ?_))))
   obtain ⟨c87, h⟩ := need_of h
   refine xa (.vptr [.i (ix l s83.t8).Kind, .str (ix l s83.t8).Text, .sl .no 1 ((ix l s83.t8).List_.map AV.str), .sl .no 2 ((ix l s83.t8).Hash.map api.Field.av), .sl .no 2 ((ix l s83.t8).ZSet.map api.Scored.av)]) Z (pu_indexAddrM Z underlying37 sizeOf26 (tm Z) (tm Z) c87 Z) (xc Z (op_loadVN Z isAgg26 sizeOf26 (tm Z) (nb Z) Z (xc Z (op_alloc (cs := (api.Value.ct .full .full .full ({ Kind := 0, Text := ([] : List UInt8), List_ := ([] : List (List UInt8)), Hash := ([] : List api.Field), ZSet := ([] : List api.Scored) } : api.Value))) (v := .agg (api.Value.ct .full .full .full ({ Kind := 0, Text := ([] : List UInt8), List_ := ([] : List (List UInt8)), Hash := ([] : List api.Field), ZSet := ([] : List api.Scored) } : api.Value))) Z zeroValue26 Z Z Z ?_))))
   intro p88
   refine ac0 Z Z (op_store (i := 0) (cs' := (api.Value.ct .no .no .no (ix l s83.t8))) Z sizeOf26 (tm Z) (v := .agg (api.Value.ct .no .no .no (ix l s83.t8))) (tm Z) Z Z Z (nb Z) Z (xe (xr (xm Z Z Z (xc Z (op_loadN (i := 0) Z isAgg26 sizeOf26 (tm Z) Z (nb Z) Z ?_))))))
   obtain ⟨r89, r89e, h⟩ := bind_some h
   refine xc Z (op_call (vs := [.agg (api.Value.ct .no .no .no (ix l s83.t8))]) (H := []) Z call15 ⟨(tm Z), trivial⟩ (List.Perm.refl _) (mewsref19.Size.ok r89e) ?_)
   rintro _ _ ⟨rfl, rfl⟩
   refine xa (.i (IntKind.wrap .i64 (s83.n + r89))) Z (pu_int (v := .i (IntKind.wrap .i64 (s83.n + r89))) Z Z (tm Z) (tm Z) Z) (xm Z Z Z (xe (xr (xm Z Z Z (xa (.bool (decide (3000 < (IntKind.wrap .i64 (s83.n + r89))))) Z (pu_int (v := .bool (decide (3000 < (IntKind.wrap .i64 (s83.n + r89))))) Z Z (tm Z) (AEv.int _ _) Z) (xe (aw_cond (b := decide (3000 < (IntKind.wrap .i64 (s83.n + r89)))) (tm Z) (fun hb90 => ?_) (fun hb90 => ?_))))))))
   ·replace h := ite_t (dec_t hb90) h
    refine xr (xa (.bool true) Z (pu_assign Z (AEv.bool _)) (xe (aw_ret ?_)))
    obtain rfl := some_of h
    have h := congrArg some (hx84 _ rfl)
    obtain rfl := some_of h
    have h := onSum_inr h69
    obtain rfl := some_of h
    exact ⟨[.bool true], _, [], ⟨(tm Z), trivial⟩, vr, Weak.mkL [] (by decide) trivial trivial, ⟨Z, Z⟩⟩
   ·replace h := ite_f (dec_f hb90) h
    refine aw_skip (aw_region (xa (.i (IntKind.wrap .i64 (s83.t8 + 1))) Z (pu_int (v := .i (IntKind.wrap .i64 (s83.t8 + 1))) Z Z (tm Z) (AEv.int _ _) Z) (xm Z Z Z (xe ?_))))
    obtain rfl := some_of h
    exact ⟨_, (), Z, Weak.mkL [] (by decide) trivial ⟨tm Z, (AEv.le (tm Z) vr), tm Z, tm Z, (AEv.le (tm Z) vr), trivial⟩⟩
  ·replace h := ite_f (dec_f hb91) h
   refine aw_exit ?_
   obtain rfl := some_of h
   have h := congrArg some (hx84 _ rfl)
   exact ⟨(), (), (some_of h).symm, Weak.mkL [] (by decide) trivial ⟨tm Z, trivial⟩⟩

theorem charge.Text.ok {s_ : List UInt8} {r : api.Value} (h : charge.Text s_ = some r) : Go.Lift.Spec prog 16 [.str s_] [] (fun v H => v = .agg (api.Value.ct .full .full .full ({ Kind := r.Kind, Text := r.Text, List_ := r.List_, Hash := r.Hash, ZSet := r.ZSet } : api.Value)) ∧ H = []) := by
 unfold charge.Text at h
 refine Go.Lift.Spec.of_body (rs := [.cell 2 26]) func16 Z Z (nb Z) Z (xr (xc Z (op_alloc (cs := (api.Value.ct .full .full .full ({ Kind := 0, Text := ([] : List UInt8), List_ := ([] : List (List UInt8)), Hash := ([] : List api.Field), ZSet := ([] : List api.Scored) } : api.Value))) (v := .agg (api.Value.ct .full .full .full ({ Kind := 0, Text := ([] : List UInt8), List_ := ([] : List (List UInt8)), Hash := ([] : List api.Field), ZSet := ([] : List api.Scored) } : api.Value))) Z zeroValue26 Z Z Z ?_)))
 intro p2
 refine xe (xr (xm Z Z Z (xa (.agg (api.Value.ct .full .full .full ({ Kind := 1, Text := s_, List_ := ([] : List (List UInt8)), Hash := ([] : List api.Field), ZSet := ([] : List api.Scored) } : api.Value))) Z (pu_build (zs := [.i 0, .str ([] : List UInt8), .sl .full 1 (([] : List (List UInt8)).map AV.str), .sl .full 2 (([] : List api.Field).map api.Field.av), .sl .full 2 (([] : List api.Scored).map api.Scored.av)]) (szs := [1, 1, 1, 1, 1]) (aparts := [(0, .i 1), (1, .str s_)]) (cs := [.i 1, .str s_, .sl .full 1 (([] : List (List UInt8)).map AV.str), .sl .full 2 (([] : List api.Field).map api.Field.av), .sl .full 2 (([] : List api.Scored).map api.Scored.av)]) Z underlying26 zeroValue26 Z ⟨sizeOf3, sizeOf9, sizeOf22, sizeOf23, sizeOf24, trivial⟩ ⟨Z, (AEv.int _ _), ⟨Z, (tm Z), trivial⟩⟩ Z) (ac0 Z Z (op_store (i := 0) (cs' := (api.Value.ct .full .full .full ({ Kind := 1, Text := s_, List_ := ([] : List (List UInt8)), Hash := ([] : List api.Field), ZSet := ([] : List api.Scored) } : api.Value))) Z sizeOf26 (tm Z) (v := .agg (api.Value.ct .full .full .full ({ Kind := 1, Text := s_, List_ := ([] : List (List UInt8)), Hash := ([] : List api.Field), ZSet := ([] : List api.Scored) } : api.Value))) (tm Z) Z Z Z (nb Z) Z (xe (aw_ret ?_)))))))
 obtain rfl := some_of h
 exact ⟨[.agg (api.Value.ct .full .full .full ({ Kind := 1, Text := s_, List_ := ([] : List (List UInt8)), Hash := ([] : List api.Field), ZSet := ([] : List api.Scored) } : api.Value))], _, [], ⟨(CellOk.agg 0 (tm Z) Z isAgg26 sizeOf26 (nb Z) Z), trivial⟩, vr, Weak.mkL [] (by decide) trivial trivial, ⟨Z, Z⟩⟩

theorem charge.Of.ok {e : api.Entry} {r : Int} (h : charge.Of e = some r) : Go.Lift.Spec prog 17 [.agg (api.Entry.ct .no .no .no e)] [] (fun v H => v = .i r ∧ H = []) := by
 unfold charge.Of at h
 refine Go.Lift.Spec.of_body (rs := [.tmp 2]) func17 Z Z (nb Z) Z (xr (xc Z (op_box (cs := (api.Entry.ct .no .no .no e)) (v := .agg (api.Entry.ct .no .no .no e)) Z (tm Z) Z Z ?_)))
 intro p128
 refine xa (.i 0) Z (pu_assign Z (AEv.int _ _)) (xe (xr (xa (.ptr p128 0) Z (fa Z underlying41 Z sizeOf9 Z Z Z) (xc Z (op_load1 (i := 0) Z isAgg9 (tm Z) Z Z (xa (.i (e.Key.length : Int)) Z (pu_strLen Z underlying9 (tm Z)) (xa (.i (IntKind.wrap .i64 (56 + (e.Key.length : Int)))) Z (pu_int (v := .i (IntKind.wrap .i64 (56 + (e.Key.length : Int)))) Z Z (AEv.int _ _) (tm Z) Z) (xm Z Z Z (xe ?_)))))))))
 obtain ⟨s130, s130e, h131⟩ := letO_of h
 refine aw_meet (ν := Unit) (fun v => [(1, .ptr p128 0), (3, .i s130)]) (fun v => [(p128, .cells (api.Entry.ct .no .no .no e))]) ?_ ?_
 ·have h := s130e.symm
  refine xr (xa (.ptr p128 6) Z (fa Z underlying41 Z sizeOf2 Z Z Z) (xc Z (op_load1 (i := 0) Z isAgg2 (tm Z) Z Z (xa (.bool (!decide (e.At = 0))) Z (pu_int (v := .bool (!decide (e.At = 0))) Z Z (tm Z) (AEv.int _ _) Z) (xe (aw_cond (b := (!decide (e.At = 0))) (tm Z) (fun hb133 => ?_) (fun hb133 => ?_)))))))
  ·replace h := ite_f (ndec_t hb133) h
   refine aw_region (xm Z Z Z (xa (.i (IntKind.wrap .i64 ((IntKind.wrap .i64 (56 + (e.Key.length : Int))) + 16))) Z (pu_int (v := .i (IntKind.wrap .i64 ((IntKind.wrap .i64 (56 + (e.Key.length : Int))) + 16))) Z Z (tm Z) (AEv.int _ _) Z) (xm Z Z Z (xe ?_))))
   subst h
   exact ⟨(), Weak.mkL [0] (by decide) ⟨⟨_, Z, cr, Z⟩, trivial⟩ ⟨tm Z, (AEv.le (tm Z) vr), trivial⟩⟩
  ·replace h := ite_t (ndec_f hb133) h
   refine aw_skip ?_
   subst h
   exact ⟨(), Weak.mkL [0] (by decide) ⟨⟨_, Z, cr, Z⟩, trivial⟩ ⟨tm Z, (AEv.le (tm Z) vr), trivial⟩⟩
 ·intro _
  have h := h131
  obtain ⟨s193, s193e, h194⟩ := bind_some h
  refine aw_meet (ν := Unit) (fun v => [(3, .i s193)]) (fun v => []) ?_ ?_
  ·have h := s193e
   refine xr (xa (.ptr p128 1) Z (fa Z underlying41 Z sizeOf26 Z Z Z) (xa (.ptr p128 1) Z (fa Z underlying26 Z sizeOf3 Z Z Z) (xc Z (op_load1 (i := 0) Z isAgg3 (tm Z) Z Z (xe (aw_block (xr (xa (.bool (decide (e.Val.Kind = 1))) Z (pu_int (v := .bool (decide (e.Val.Kind = 1))) Z Z (tm Z) (AEv.int _ _) Z) ?_))))))))
   refine xm Z Z Z (xe (aw_cond (b := decide (e.Val.Kind = 1)) (tm Z) (fun hb254 => ?_) (fun hb254 => ?_)))
   ·replace h := ite_t (dec_t hb254) h
    refine aw_region (xm Z Z Z (xa (.ptr p128 1) Z (fa Z underlying41 Z sizeOf26 Z Z Z) (xa (.ptr p128 2) Z (fa Z underlying26 Z sizeOf9 Z Z Z) (xc Z (op_load1 (i := 0) Z isAgg9 (tm Z) Z Z (xa (.i (e.Val.Text.length : Int)) Z (pu_strLen Z underlying9 (tm Z)) (xa (.i (IntKind.wrap .i64 (s130 + (e.Val.Text.length : Int)))) Z (pu_int (v := .i (IntKind.wrap .i64 (s130 + (e.Val.Text.length : Int)))) Z Z (tm Z) (tm Z) Z) (xm Z Z Z (xe ?_)))))))))
    obtain rfl := some_of h
    exact ⟨(), Weak.mkL [] (by decide) trivial ⟨(AEv.le (tm Z) vr), trivial⟩⟩
   ·replace h := ite_f (dec_f hb254) h
    refine xr (xa (.bool (decide (e.Val.Kind = 2))) Z (pu_int (v := .bool (decide (e.Val.Kind = 2))) Z Z (tm Z) (AEv.int _ _) Z) (xm Z Z Z (xe (aw_cond (b := decide (e.Val.Kind = 2)) (tm Z) (fun hb253 => ?_) (fun hb253 => ?_)))))
    ·replace h := ite_t (dec_t hb253) h
     refine xr (xa (.ptr p128 1) Z (fa Z underlying41 Z sizeOf26 Z Z Z) (xa (.ptr p128 3) Z (fa Z underlying26 Z sizeOf22 Z Z Z) (xc Z (op_load1 (i := 0) Z isAgg22 (tm Z) Z Z (xa (.i (e.Val.List_.length : Int)) Z (pu_lenM Z underlying22 (tm Z)) (xa (.i 0) Z (pu_move Z (AEv.int _ _)) (xe (aw_block (aw_while (σ := charge.Of.S1) (ν := Unit) (charge.Of.body1 e) (fun s202 v => [(3, .i s202.n), (36, .sl .no 1 (e.Val.List_.map AV.str)), (37, .i (e.Val.List_.length : Int)), (38, .i s202.t38)]) (fun s202 v => []) ⟨s130, 0⟩ () _ h (Weak.mkL [] (by decide) trivial ⟨tm Z, tm Z, tm Z, tm Z, trivial⟩) ?_)))))))))
     rintro s202 _ x204 h hx203
     unfold charge.Of.body1 at h
     refine xr (xa (.bool (decide (s202.t38 < (e.Val.List_.length : Int)))) Z (pu_int (v := .bool (decide (s202.t38 < (e.Val.List_.length : Int)))) Z Z (tm Z) (tm Z) Z) (xe (aw_seq (aw_cond (b := decide (s202.t38 < (e.Val.List_.length : Int))) (tm Z) (fun hb207 => ?_) (fun hb207 => ?_)))))
     ·replace h := ite_t (dec_t hb207) h
      refine aw_skip (aw_seq (aw_block (aw_seq (aw_region ?_))))
      obtain ⟨c206, h⟩ := need_of h
      refine xa (.vptr [.str (ix e.Val.List_ s202.t38)]) Z (pu_indexAddrM Z underlying22 sizeOf9 (tm Z) (tm Z) c206 Z) (xc Z (op_loadV1 Z isAgg9 (tm Z) Z (xm Z Z Z (xe (aw_region (xm Z Z Z (xm Z Z Z (xa (.i ((ix e.Val.List_ s202.t38).length : Int)) Z (pu_strLen Z underlying9 (tm Z)) (xa (.i (IntKind.wrap .i64 (16 + ((ix e.Val.List_ s202.t38).length : Int)))) Z (pu_int (v := .i (IntKind.wrap .i64 (16 + ((ix e.Val.List_ s202.t38).length : Int)))) Z Z (AEv.int _ _) (tm Z) Z) (xa (.i (IntKind.wrap .i64 (s202.n + (IntKind.wrap .i64 (16 + ((ix e.Val.List_ s202.t38).length : Int)))))) Z (pu_int (v := .i (IntKind.wrap .i64 (s202.n + (IntKind.wrap .i64 (16 + ((ix e.Val.List_ s202.t38).length : Int)))))) Z Z (tm Z) (tm Z) Z) ?_))))))))))
      refine xm Z Z Z (xe (aw_region (xa (.i (IntKind.wrap .i64 (s202.t38 + 1))) Z (pu_int (v := .i (IntKind.wrap .i64 (s202.t38 + 1))) Z Z (tm Z) (AEv.int _ _) Z) (xm Z Z Z (xe ?_)))))
      obtain rfl := some_of h
      exact ⟨_, (), Z, Weak.mkL [] (by decide) trivial ⟨(AEv.le (tm Z) vr), tm Z, tm Z, (AEv.le (tm Z) vr), trivial⟩⟩
     ·replace h := ite_f (dec_f hb207) h
      refine aw_exit ?_
      obtain rfl := some_of h
      have h := congrArg some (hx203 _ rfl)
      obtain rfl := some_of h
      exact ⟨(), Weak.mkL [] (by decide) trivial ⟨tm Z, trivial⟩⟩
    ·replace h := ite_f (dec_f hb253) h
     refine xr (xa (.bool (decide (e.Val.Kind = 4))) Z (pu_int (v := .bool (decide (e.Val.Kind = 4))) Z Z (tm Z) (AEv.int _ _) Z) (xm Z Z Z (xe (aw_cond (b := decide (e.Val.Kind = 4)) (tm Z) (fun hb252 => ?_) (fun hb252 => ?_)))))
     ·replace h := ite_t (dec_t hb252) h
      refine xr (xa (.ptr p128 1) Z (fa Z underlying41 Z sizeOf26 Z Z Z) (xa (.ptr p128 3) Z (fa Z underlying26 Z sizeOf22 Z Z Z) (xc Z (op_load1 (i := 0) Z isAgg22 (tm Z) Z Z (xa (.i (e.Val.List_.length : Int)) Z (pu_lenM Z underlying22 (tm Z)) (xa (.i 0) Z (pu_move Z (AEv.int _ _)) (xe (aw_block (aw_while (σ := charge.Of.S3) (ν := Unit) (charge.Of.body3 e) (fun s214 v => [(3, .i s214.n), (52, .sl .no 1 (e.Val.List_.map AV.str)), (53, .i (e.Val.List_.length : Int)), (54, .i s214.t54)]) (fun s214 v => []) ⟨s130, 0⟩ () _ h (Weak.mkL [] (by decide) trivial ⟨tm Z, tm Z, tm Z, tm Z, trivial⟩) ?_)))))))))
      rintro s214 _ x216 h hx215
      unfold charge.Of.body3 at h
      refine xr (xa (.bool (decide (s214.t54 < (e.Val.List_.length : Int)))) Z (pu_int (v := .bool (decide (s214.t54 < (e.Val.List_.length : Int)))) Z Z (tm Z) (tm Z) Z) (xe (aw_seq (aw_cond (b := decide (s214.t54 < (e.Val.List_.length : Int))) (tm Z) (fun hb219 => ?_) (fun hb219 => ?_)))))
      ·replace h := ite_t (dec_t hb219) h
       refine aw_skip (aw_seq (aw_block (aw_seq (aw_region ?_))))
       obtain ⟨c218, h⟩ := need_of h
       refine xa (.vptr [.str (ix e.Val.List_ s214.t54)]) Z (pu_indexAddrM Z underlying22 sizeOf9 (tm Z) (tm Z) c218 Z) (xc Z (op_loadV1 Z isAgg9 (tm Z) Z (xm Z Z Z (xe (aw_region (xm Z Z Z (xm Z Z Z (xa (.i ((ix e.Val.List_ s214.t54).length : Int)) Z (pu_strLen Z underlying9 (tm Z)) (xa (.i (IntKind.wrap .i64 (24 + ((ix e.Val.List_ s214.t54).length : Int)))) Z (pu_int (v := .i (IntKind.wrap .i64 (24 + ((ix e.Val.List_ s214.t54).length : Int)))) Z Z (AEv.int _ _) (tm Z) Z) (xa (.i (IntKind.wrap .i64 (s214.n + (IntKind.wrap .i64 (24 + ((ix e.Val.List_ s214.t54).length : Int)))))) Z (pu_int (v := .i (IntKind.wrap .i64 (s214.n + (IntKind.wrap .i64 (24 + ((ix e.Val.List_ s214.t54).length : Int)))))) Z Z (tm Z) (tm Z) Z) ?_))))))))))
       refine xm Z Z Z (xe (aw_region (xa (.i (IntKind.wrap .i64 (s214.t54 + 1))) Z (pu_int (v := .i (IntKind.wrap .i64 (s214.t54 + 1))) Z Z (tm Z) (AEv.int _ _) Z) (xm Z Z Z (xe ?_)))))
       obtain rfl := some_of h
       exact ⟨_, (), Z, Weak.mkL [] (by decide) trivial ⟨(AEv.le (tm Z) vr), tm Z, tm Z, (AEv.le (tm Z) vr), trivial⟩⟩
      ·replace h := ite_f (dec_f hb219) h
       refine aw_exit ?_
       obtain rfl := some_of h
       have h := congrArg some (hx215 _ rfl)
       obtain rfl := some_of h
       exact ⟨(), Weak.mkL [] (by decide) trivial ⟨tm Z, trivial⟩⟩
     ·replace h := ite_f (dec_f hb252) h
      refine xr (xa (.bool (decide (e.Val.Kind = 3))) Z (pu_int (v := .bool (decide (e.Val.Kind = 3))) Z Z (tm Z) (AEv.int _ _) Z) (xm Z Z Z (xe (aw_cond (b := decide (e.Val.Kind = 3)) (tm Z) (fun hb251 => ?_) (fun hb251 => ?_)))))
      ·replace h := ite_t (dec_t hb251) h
       refine xr (xa (.ptr p128 1) Z (fa Z underlying41 Z sizeOf26 Z Z Z) (xa (.ptr p128 4) Z (fa Z underlying26 Z sizeOf23 Z Z Z) (xc Z (op_load1 (i := 0) Z isAgg23 (tm Z) Z Z (xa (.i (e.Val.Hash.length : Int)) Z (pu_lenM Z underlying23 (tm Z)) (xa (.i 0) Z (pu_move Z (AEv.int _ _)) (xe (aw_block (aw_while (σ := charge.Of.S5) (ν := Unit) (charge.Of.body5 e) (fun s228 v => [(3, .i s228.n), (68, .sl .no 2 (e.Val.Hash.map api.Field.av)), (69, .i (e.Val.Hash.length : Int)), (70, .i s228.t70)]) (fun s228 v => []) ⟨s130, 0⟩ () _ h (Weak.mkL [] (by decide) trivial ⟨tm Z, tm Z, tm Z, tm Z, trivial⟩) ?_)))))))))
       rintro s228 _ x230 h hx229
       unfold charge.Of.body5 at h
       refine xr (xa (.bool (decide (s228.t70 < (e.Val.Hash.length : Int)))) Z (pu_int (v := .bool (decide (s228.t70 < (e.Val.Hash.length : Int)))) Z Z (tm Z) (tm Z) Z) (xe (aw_seq (aw_cond (b := decide (s228.t70 < (e.Val.Hash.length : Int))) (tm Z) (fun hb234 => ?_) (fun hb234 => ?_)))))
       ·replace h := ite_t (dec_t hb234) h
        refine aw_skip (aw_seq (aw_block (aw_seq (aw_region ?_))))
        obtain ⟨c232, h⟩ := need_of h
        refine xa (.vptr [.str (ix e.Val.Hash s228.t70).Key, .str (ix e.Val.Hash s228.t70).Val]) Z (pu_indexAddrM Z underlying23 sizeOf54 (tm Z) (tm Z) c232 Z) (xc Z (op_loadVN Z isAgg54 sizeOf54 (tm Z) (nb Z) Z (xc Z (op_alloc (cs := [.str ([] : List UInt8), .str ([] : List UInt8)]) (v := .agg [.str ([] : List UInt8), .str ([] : List UInt8)]) Z zeroValue54 Z Z Z ?_))))
        intro p233
        refine ac0 Z Z (op_store (i := 0) (cs' := [.str (ix e.Val.Hash s228.t70).Key, .str (ix e.Val.Hash s228.t70).Val]) Z sizeOf54 (tm Z) (v := .agg [.str (ix e.Val.Hash s228.t70).Key, .str (ix e.Val.Hash s228.t70).Val]) (tm Z) Z Z Z (nb Z) Z (xe (aw_region (xm Z Z Z (xa (.ptr p233 0) Z (fa Z underlying54 Z sizeOf9 Z Z Z) (xc Z (op_load1 (i := 0) Z isAgg9 (tm Z) Z Z (xa (.i ((ix e.Val.Hash s228.t70).Key.length : Int)) Z (pu_strLen Z underlying9 (tm Z)) (xa (.i (IntKind.wrap .i64 (32 + ((ix e.Val.Hash s228.t70).Key.length : Int)))) Z (pu_int (v := .i (IntKind.wrap .i64 (32 + ((ix e.Val.Hash s228.t70).Key.length : Int)))) Z Z (AEv.int _ _) (tm Z) Z) (xa (.ptr p233 1) Z (fa Z underlying54 Z sizeOf9 Z Z Z) (xc Z (op_load1 (i := 0) Z isAgg9 (tm Z) Z Z ?_))))))))))))
        refine xa (.i ((ix e.Val.Hash s228.t70).Val.length : Int)) Z (pu_strLen Z underlying9 (tm Z)) (xa (.i (IntKind.wrap .i64 ((IntKind.wrap .i64 (32 + ((ix e.Val.Hash s228.t70).Key.length : Int))) + ((ix e.Val.Hash s228.t70).Val.length : Int)))) Z (pu_int (v := .i (IntKind.wrap .i64 ((IntKind.wrap .i64 (32 + ((ix e.Val.Hash s228.t70).Key.length : Int))) + ((ix e.Val.Hash s228.t70).Val.length : Int)))) Z Z (tm Z) (tm Z) Z) (xa (.i (IntKind.wrap .i64 (s228.n + (IntKind.wrap .i64 ((IntKind.wrap .i64 (32 + ((ix e.Val.Hash s228.t70).Key.length : Int))) + ((ix e.Val.Hash s228.t70).Val.length : Int)))))) Z (pu_int (v := .i (IntKind.wrap .i64 (s228.n + (IntKind.wrap .i64 ((IntKind.wrap .i64 (32 + ((ix e.Val.Hash s228.t70).Key.length : Int))) + ((ix e.Val.Hash s228.t70).Val.length : Int)))))) Z Z (tm Z) (tm Z) Z) (xm Z Z Z (xe (aw_region (xa (.i (IntKind.wrap .i64 (s228.t70 + 1))) Z (pu_int (v := .i (IntKind.wrap .i64 (s228.t70 + 1))) Z Z (tm Z) (AEv.int _ _) Z) (xm Z Z Z (xe ?_))))))))
        obtain rfl := some_of h
        exact ⟨_, (), Z, Weak.mkL [] (by decide) trivial ⟨(AEv.le (tm Z) vr), tm Z, tm Z, (AEv.le (tm Z) vr), trivial⟩⟩
       ·replace h := ite_f (dec_f hb234) h
        refine aw_exit ?_
        obtain rfl := some_of h
        have h := congrArg some (hx229 _ rfl)
        obtain rfl := some_of h
        exact ⟨(), Weak.mkL [] (by decide) trivial ⟨tm Z, trivial⟩⟩
      ·replace h := ite_f (dec_f hb251) h
       refine xr (xa (.bool (decide (e.Val.Kind = 5))) Z (pu_int (v := .bool (decide (e.Val.Kind = 5))) Z Z (tm Z) (AEv.int _ _) Z) (xm Z Z Z (xe (aw_cond (b := decide (e.Val.Kind = 5)) (tm Z) (fun hb250 => ?_) (fun hb250 => ?_)))))
       ·replace h := ite_t (dec_t hb250) h
        refine xr (xa (.ptr p128 1) Z (fa Z underlying41 Z sizeOf26 Z Z Z) (xa (.ptr p128 5) Z (fa Z underlying26 Z sizeOf24 Z Z Z) (xc Z (op_load1 (i := 0) Z isAgg24 (tm Z) Z Z (xa (.i (e.Val.ZSet.length : Int)) Z (pu_lenM Z underlying24 (tm Z)) (xa (.i 0) Z (pu_move Z (AEv.int _ _)) (xe (aw_block (aw_while (σ := charge.Of.S7) (ν := Unit) (charge.Of.body7 e) (fun s243 v => [(3, .i s243.n), (89, .sl .no 2 (e.Val.ZSet.map api.Scored.av)), (90, .i (e.Val.ZSet.length : Int)), (91, .i s243.t91)]) (fun s243 v => []) ⟨s130, 0⟩ () _ h (Weak.mkL [] (by decide) trivial ⟨tm Z, tm Z, tm Z, tm Z, trivial⟩) ?_)))))))))
        rintro s243 _ x245 h hx244
        unfold charge.Of.body7 at h
        refine xr (xa (.bool (decide (s243.t91 < (e.Val.ZSet.length : Int)))) Z (pu_int (v := .bool (decide (s243.t91 < (e.Val.ZSet.length : Int)))) Z Z (tm Z) (tm Z) Z) (xe (aw_seq (aw_cond (b := decide (s243.t91 < (e.Val.ZSet.length : Int))) (tm Z) (fun hb249 => ?_) (fun hb249 => ?_)))))
        ·replace h := ite_t (dec_t hb249) h
         refine aw_skip (aw_seq (aw_block (aw_seq (aw_region ?_))))
         obtain ⟨c247, h⟩ := need_of h
         refine xa (.vptr [.str (ix e.Val.ZSet s243.t91).Member, .i (ix e.Val.ZSet s243.t91).Score]) Z (pu_indexAddrM Z underlying24 sizeOf64 (tm Z) (tm Z) c247 Z) (xc Z (op_loadVN Z isAgg64 sizeOf64 (tm Z) (nb Z) Z (xc Z (op_alloc (cs := [.str ([] : List UInt8), .i 0]) (v := .agg [.str ([] : List UInt8), .i 0]) Z zeroValue64 Z Z Z ?_))))
         intro p248
         refine ac0 Z Z (op_store (i := 0) (cs' := [.str (ix e.Val.ZSet s243.t91).Member, .i (ix e.Val.ZSet s243.t91).Score]) Z sizeOf64 (tm Z) (v := .agg [.str (ix e.Val.ZSet s243.t91).Member, .i (ix e.Val.ZSet s243.t91).Score]) (tm Z) Z Z Z (nb Z) Z (xe (aw_region (xm Z Z Z (xa (.ptr p248 0) Z (fa Z underlying64 Z sizeOf9 Z Z Z) (xc Z (op_load1 (i := 0) Z isAgg9 (tm Z) Z Z (xa (.i ((ix e.Val.ZSet s243.t91).Member.length : Int)) Z (pu_strLen Z underlying9 (tm Z)) (xa (.i (IntKind.wrap .i64 (40 + ((ix e.Val.ZSet s243.t91).Member.length : Int)))) Z (pu_int (v := .i (IntKind.wrap .i64 (40 + ((ix e.Val.ZSet s243.t91).Member.length : Int)))) Z Z (AEv.int _ _) (tm Z) Z) (xa (.i (IntKind.wrap .i64 (s243.n + (IntKind.wrap .i64 (40 + ((ix e.Val.ZSet s243.t91).Member.length : Int)))))) Z (pu_int (v := .i (IntKind.wrap .i64 (s243.n + (IntKind.wrap .i64 (40 + ((ix e.Val.ZSet s243.t91).Member.length : Int)))))) Z Z (tm Z) (tm Z) Z) (xm Z Z Z ?_)))))))))))
         refine xe (aw_region (xa (.i (IntKind.wrap .i64 (s243.t91 + 1))) Z (pu_int (v := .i (IntKind.wrap .i64 (s243.t91 + 1))) Z Z (tm Z) (AEv.int _ _) Z) (xm Z Z Z (xe ?_))))
         obtain rfl := some_of h
         exact ⟨_, (), Z, Weak.mkL [] (by decide) trivial ⟨(AEv.le (tm Z) vr), tm Z, tm Z, (AEv.le (tm Z) vr), trivial⟩⟩
        ·replace h := ite_f (dec_f hb249) h
         refine aw_exit ?_
         obtain rfl := some_of h
         have h := congrArg some (hx244 _ rfl)
         obtain rfl := some_of h
         exact ⟨(), Weak.mkL [] (by decide) trivial ⟨tm Z, trivial⟩⟩
       ·replace h := ite_f (dec_f hb250) h
        refine aw_skip ?_
        obtain rfl := some_of h
        exact ⟨(), Weak.mkL [] (by decide) trivial ⟨tm Z, trivial⟩⟩
  ·intro _
   have h := h194
   refine xr (xm Z Z Z (xm Z Z Z (xe (aw_ret ?_))))
   obtain rfl := some_of h
   exact ⟨[.i s193], _, [], ⟨(tm Z), trivial⟩, vr, Weak.mkL [] (by decide) trivial trivial, ⟨Z, Z⟩⟩

theorem charge.All.ok {l : List api.Entry} {r : Int} (h : charge.All l = some r) : Go.Lift.Spec prog 18 [.sl .no 7 (l.map api.Entry.av)] [] (fun v H => v = .i r ∧ H = []) := by
 unfold charge.All at h
 refine Go.Lift.Spec.of_body (rs := [.tmp 2]) func18 Z Z (nb Z) Z (xr (xa (.i 0) Z (pu_assign Z (AEv.int _ _)) (xe (xr (xa (.i 0) Z (pu_assign Z (AEv.int _ _)) (xe ?_))))))
 obtain ⟨s58, s58e, h59⟩ := bind_some h
 refine aw_meet (ν := Unit) (fun v => [(3, .i s58)]) (fun v => []) ?_ ?_
 ·have h := s58e
  refine xr (xm Z Z Z (xa (.i (l.length : Int)) Z (pu_lenM Z underlying71 (tm Z)) (xa (.i 0) Z (pu_move Z (AEv.int _ _)) (xe (aw_block (aw_while (σ := charge.All.S0) (ν := Unit) (charge.All.body0 l) (fun s71 v => [(3, .i s71.n), (6, .sl .no 7 (l.map api.Entry.av)), (7, .i (l.length : Int)), (8, .i s71.t8)]) (fun s71 v => []) ⟨0, 0⟩ () _ h (Weak.mkL [] (by decide) trivial ⟨tm Z, tm Z, tm Z, tm Z, trivial⟩) ?_))))))
  rintro s71 _ x73 h hx72
  unfold charge.All.body0 at h
  refine xr (xa (.bool (decide (s71.t8 < (l.length : Int)))) Z (pu_int (v := .bool (decide (s71.t8 < (l.length : Int)))) Z Z (tm Z) (tm Z) Z) (xe (aw_seq (aw_cond (b := decide (s71.t8 < (l.length : Int))) (tm Z) (fun hb78 => ?_) (fun hb78 => ?_)))))
  ·replace h := ite_t (dec_t hb78) h
   refine aw_skip (aw_seq (aw_block (aw_seq (aw_region ?_))))
   obtain ⟨c75, h⟩ := need_of h
   refine xa (.vptr [.str (ix l s71.t8).Key, .i (ix l s71.t8).Val.Kind, .str (ix l s71.t8).Val.Text, .sl .no 1 ((ix l s71.t8).Val.List_.map AV.str), .sl .no 2 ((ix l s71.t8).Val.Hash.map api.Field.av), .sl .no 2 ((ix l s71.t8).Val.ZSet.map api.Scored.av), .i (ix l s71.t8).At]) Z (pu_indexAddrM Z underlying71 sizeOf41 (tm Z) (tm Z) c75 Z) (xc Z (op_loadVN Z isAgg41 sizeOf41 (tm Z) (nb Z) Z (xc Z (op_alloc (cs := [.str ([] : List UInt8), .i 0, .str ([] : List UInt8), .sl .full 1 (([] : List (List UInt8)).map AV.str), .sl .full 2 (([] : List api.Field).map api.Field.av), .sl .full 2 (([] : List api.Scored).map api.Scored.av), .i 0]) (v := .agg [.str ([] : List UInt8), .i 0, .str ([] : List UInt8), .sl .full 1 (([] : List (List UInt8)).map AV.str), .sl .full 2 (([] : List api.Field).map api.Field.av), .sl .full 2 (([] : List api.Scored).map api.Scored.av), .i 0]) Z zeroValue41 Z Z Z ?_))))
   intro p76
   refine ac0 Z Z (op_store (i := 0) (cs' := (api.Entry.ct .no .no .no (ix l s71.t8))) Z sizeOf41 (tm Z) (v := .agg (api.Entry.ct .no .no .no (ix l s71.t8))) (tm Z) Z Z Z (nb Z) Z (xe (aw_region (xm Z Z Z (xc Z (op_loadN (i := 0) Z isAgg41 sizeOf41 (tm Z) Z (nb Z) Z ?_))))))
   obtain ⟨r77, r77e, h⟩ := bind_some h
   refine xc Z (op_call (vs := [.agg (api.Entry.ct .no .no .no (ix l s71.t8))]) (H := []) Z call17 ⟨(tm Z), trivial⟩ (List.Perm.refl _) (charge.Of.ok r77e) ?_)
   rintro _ _ ⟨rfl, rfl⟩
   refine xa (.i (IntKind.wrap .i64 (s71.n + r77))) Z (pu_int (v := .i (IntKind.wrap .i64 (s71.n + r77))) Z Z (tm Z) (tm Z) Z) (xm Z Z Z (xe (aw_region (xa (.i (IntKind.wrap .i64 (s71.t8 + 1))) Z (pu_int (v := .i (IntKind.wrap .i64 (s71.t8 + 1))) Z Z (tm Z) (AEv.int _ _) Z) (xm Z Z Z (xe ?_))))))
   obtain rfl := some_of h
   exact ⟨_, (), Z, Weak.mkL [] (by decide) trivial ⟨(AEv.le (tm Z) vr), tm Z, tm Z, (AEv.le (tm Z) vr), trivial⟩⟩
  ·replace h := ite_f (dec_f hb78) h
   refine aw_exit ?_
   obtain rfl := some_of h
   have h := congrArg some (hx72 _ rfl)
   obtain rfl := some_of h
   exact ⟨(), Weak.mkL [] (by decide) trivial ⟨tm Z, trivial⟩⟩
 ·intro _
  have h := h59
  refine xr (xm Z Z Z (xm Z Z Z (xe (aw_ret ?_))))
  obtain rfl := some_of h
  exact ⟨[.i s58], _, [], ⟨(tm Z), trivial⟩, vr, Weak.mkL [] (by decide) trivial trivial, ⟨Z, Z⟩⟩

theorem slices.Clone_string.ok {s : List (List UInt8)} {r : List (List UInt8)} (h : slices.Clone_string s = some r) : Go.Lift.Spec prog 24 [.sl .no 1 (s.map AV.str)] [] (fun v H => ∃ n0, v = .vec n0 ∧ H = [(n0, .vec 1 (r.map AV.str))]) := by
 unfold slices.Clone_string at h
 obtain ⟨c, h⟩ := need_of h
 obtain rfl := some_of h
 refine Go.Lift.Spec.of_body (rs := [.tmp 2]) func24 Z Z (nb Z) Z (xr (xa (.sl .full 1 (([] : List (List UInt8)).map AV.str)) Z (pu_assign Z (AEv.nil 1 (by decide))) (xe (aw_seq (xr (xm Z Z Z (xc Z (op_nilSlice Z underlying22 (tm Z) fun b hb => ?_))))))))
 refine xe (aw_cond (b := b) (tm Z) (fun hb2 => ?_) (fun hb2 => ?_))
 ·have hs : s = [] := List.map_eq_nil_iff.1 (hb hb2)
  subst hs
  refine xr (xa (.sl .full 1 (([] : List (List UInt8)).map AV.str)) Z (pu_assign Z (AEv.nil 1 (by decide))) (xe (aw_vecNil 2 (tm Z) fun t => (aw_ret ?_))))
  exact ⟨[.vec t], _, [(t, .vec 1 (([] : List (List UInt8)).map AV.str))], ⟨tm Z, trivial⟩, AV.Le.refl _, Weak.mkL [0] (by decide) ⟨⟨_, Z, Z⟩, trivial⟩ trivial, ⟨t, Z, Z⟩⟩
 ·refine aw_skip (xr (xc Z (op_buildSlice (xs := ([] : List (List UInt8)).map AV.str) (aparts := []) Z underlying22 sizeOf9 zeroValue9 (by decide) (by decide) trivial Z Z Z (xm Z Z Z (xc Z (op_appendNVM (sz := 1) Z underlying22 underlying22 (.inl Z) typeInfo9 Z Z Z (by decide) (tm Z) (given_sl (tm Z)) c ?_))))))
  intro t
  refine xm Z Z Z (xe (aw_ret ?_))
  exact ⟨[.vec t], _, [(t, .vec 1 ((([] : List (List UInt8)) ++ s).map AV.str))], ⟨tm Z, trivial⟩, AV.Le.refl _, Weak.mkL [0] (by decide) ⟨⟨_, Z, Z⟩, trivial⟩ trivial, ⟨t, Z, Z⟩⟩

theorem slices.Sort_string.ok {x : List (List UInt8)} {r : List (List UInt8)} (h : slices.Sort_string x = some r) (o0 : Nat) : Go.Lift.Spec prog 25 [.vec o0] [(o0, .vec 1 (x.map AV.str))] (fun v H => v = .tup [] ∧ H = [(o0, .vec 1 (r.map AV.str))]) := by
 unfold slices.Sort_string at h
 obtain ⟨c, h⟩ := need_of h
 obtain rfl := some_of h
 exact spec_sortS (fun blk off cap ss w => Go.Proofs.Tryz.slices_Sort_string blk off cap ss w) (fun p cap w => Go.Proofs.Tryz.slices_Sort_string_none p cap w) c o0

theorem slices.Compact_string.ok {x : List (List UInt8)} {r : List (List UInt8)} (h : slices.Compact_string x = some r) (o0 : Nat) : Go.Lift.Spec prog 27 [.vec o0] [(o0, .vec 1 (x.map AV.str))] (fun v H => ∃ n0, v = .vec n0 ∧ H = [(n0, .vec 1 (r.map AV.str))]) := by
 unfold slices.Compact_string at h
 obtain ⟨c, h⟩ := need_of h
 obtain rfl := some_of h
 exact spec_compactS (fun blk off cap zs w => Go.Proofs.Tryz.slices_Compact_string blk off cap zs w) (fun p cap w => Go.Proofs.Tryz.slices_Compact_string_empty p cap w) c o0

theorem slices.Clip_string.ok {s_ : List (List UInt8)} {r : List (List UInt8)} (h : slices.Clip_string s_ = some r) : Go.Lift.Spec prog 26 [.sl .no 1 (s_.map AV.str)] [] (fun v H => v = .sl .full 1 (r.map AV.str) ∧ H = []) := by
 unfold slices.Clip_string at h
 refine Go.Lift.Spec.of_body (rs := [.tmp 2]) func26 Z Z (nb Z) Z (xr (xa (.sl .full 1 (([] : List (List UInt8)).map AV.str)) Z (pu_assign Z (AEv.nil 1 (by decide))) (xe (xr (xm Z Z Z (xm Z Z Z (xa (.i (s_.length : Int)) Z (pu_lenM Z underlying22 (tm Z)) ?_)))))))
 refine xm Z Z Z (xa (.i (s_.length : Int)) Z (pu_lenM Z underlying22 (tm Z)) ?_)
 obtain ⟨c2, h⟩ := need_of h
 refine xa (.sl .full 1 ((sub s_ 0 (s_.length : Int)).map AV.str)) Z (pu_slice3 Z underlying22 sizeOf9 (tm Z) Z (tm Z) (tm Z) c2) (xm Z Z Z (xe (aw_ret ?_)))
 obtain rfl := some_of h
 exact ⟨[.sl .full 1 ((sub s_ 0 (s_.length : Int)).map AV.str)], _, [], ⟨(tm Z), trivial⟩, vr, Weak.mkL [] (by decide) trivial trivial, ⟨Z, Z⟩⟩

theorem charge.Set.ok {l : List (List UInt8)} {r : api.Value} (h : charge.Set l = some r) : Go.Lift.Spec prog 9 [.sl .no 1 (l.map AV.str)] [] (fun v H => v = .agg (api.Value.ct .full .full .full ({ Kind := r.Kind, Text := r.Text, List_ := r.List_, Hash := r.Hash, ZSet := r.ZSet } : api.Value)) ∧ H = []) := by
 unfold charge.Set at h
 refine Go.Lift.Spec.of_body (rs := [.cell 2 26]) func9 Z Z (nb Z) Z (xr (xc Z (op_alloc (cs := (api.Value.ct .full .full .full ({ Kind := 0, Text := ([] : List UInt8), List_ := ([] : List (List UInt8)), Hash := ([] : List api.Field), ZSet := ([] : List api.Scored) } : api.Value))) (v := .agg (api.Value.ct .full .full .full ({ Kind := 0, Text := ([] : List UInt8), List_ := ([] : List (List UInt8)), Hash := ([] : List api.Field), ZSet := ([] : List api.Scored) } : api.Value))) Z zeroValue26 Z Z Z ?_)))
 intro p9
 refine xe (aw_seq (xr (xm Z Z Z (xa (.i (l.length : Int)) Z (pu_lenM Z underlying22 (tm Z)) (xa (.bool (decide ((l.length : Int) = 0))) Z (pu_int (v := .bool (decide ((l.length : Int) = 0))) Z Z (tm Z) (AEv.int _ _) Z) (xe (aw_cond (b := decide ((l.length : Int) = 0)) (tm Z) (fun hb16 => ?_) (fun hb16 => ?_))))))))
 ·replace h := ite_t (dec_t hb16) h
  refine xr (xa (.agg (api.Value.ct .full .full .full ({ Kind := 0, Text := ([] : List UInt8), List_ := ([] : List (List UInt8)), Hash := ([] : List api.Field), ZSet := ([] : List api.Scored) } : api.Value))) Z (pu_build (zs := [.i 0, .str ([] : List UInt8), .sl .full 1 (([] : List (List UInt8)).map AV.str), .sl .full 2 (([] : List api.Field).map api.Field.av), .sl .full 2 (([] : List api.Scored).map api.Scored.av)]) (szs := [1, 1, 1, 1, 1]) (aparts := []) (cs := [.i 0, .str ([] : List UInt8), .sl .full 1 (([] : List (List UInt8)).map AV.str), .sl .full 2 (([] : List api.Field).map api.Field.av), .sl .full 2 (([] : List api.Scored).map api.Scored.av)]) Z underlying26 zeroValue26 Z ⟨sizeOf3, sizeOf9, sizeOf22, sizeOf23, sizeOf24, trivial⟩ trivial Z) (ac0 Z Z (op_store (i := 0) (cs' := (api.Value.ct .full .full .full ({ Kind := 0, Text := ([] : List UInt8), List_ := ([] : List (List UInt8)), Hash := ([] : List api.Field), ZSet := ([] : List api.Scored) } : api.Value))) Z sizeOf26 (tm Z) (v := .agg (api.Value.ct .full .full .full ({ Kind := 0, Text := ([] : List UInt8), List_ := ([] : List (List UInt8)), Hash := ([] : List api.Field), ZSet := ([] : List api.Scored) } : api.Value))) (tm Z) Z Z Z (nb Z) Z (xe (aw_ret ?_)))))
  obtain rfl := some_of h
  exact ⟨[.agg (api.Value.ct .full .full .full ({ Kind := 0, Text := ([] : List UInt8), List_ := ([] : List (List UInt8)), Hash := ([] : List api.Field), ZSet := ([] : List api.Scored) } : api.Value))], _, [], ⟨(CellOk.agg 0 (tm Z) Z isAgg26 sizeOf26 (nb Z) Z), trivial⟩, vr, Weak.mkL [] (by decide) trivial trivial, ⟨Z, Z⟩⟩
 ·replace h := ite_f (dec_f hb16) h
  refine aw_skip (xr (xm Z Z Z ?_))
  obtain ⟨r10, r10e, h⟩ := bind_some h
  refine xc Z (op_call (vs := [.sl .no 1 (l.map AV.str)]) (H := []) Z call24 ⟨(tm Z), trivial⟩ (List.Perm.refl _) (slices.Clone_string.ok r10e) ?_)
  rintro _ _ ⟨t11, rfl, rfl⟩
  refine xm Z Z Z (xe (xr (xm Z Z Z ?_)))
  obtain ⟨r12, r12e, h⟩ := bind_some h
  refine xc Z (op_call (vs := [.vec t11]) (H := [(t11, .vec 1 (r10.map AV.str))]) Z call25 ⟨(tm Z), trivial⟩ (List.Perm.refl _) (slices.Sort_string.ok r12e t11) ?_)
  rintro _ _ ⟨rfl, rfl⟩
  refine xe (xr (xm Z Z Z ?_))
  obtain ⟨r13, r13e, h⟩ := bind_some h
  refine xc Z (op_call (vs := [.vec t11]) (H := [(t11, .vec 1 (r12.map AV.str))]) Z call27 ⟨(tm Z), trivial⟩ (List.Perm.refl _) (slices.Compact_string.ok r13e t11) ?_)
  rintro _ _ ⟨t14, rfl, rfl⟩
  refine aops_publish 13 0 (tm Z) Z ?_
  obtain ⟨r15, r15e, h⟩ := bind_some h
  refine xc Z (op_call (vs := [.sl .no 1 (r13.map AV.str)]) (H := []) Z call26 ⟨(tm Z), trivial⟩ (List.Perm.refl _) (slices.Clip_string.ok r15e) ?_)
  rintro _ _ ⟨rfl, rfl⟩
  refine xa (.agg (api.Value.ct .full .full .full ({ Kind := 4, Text := ([] : List UInt8), List_ := r15, Hash := ([] : List api.Field), ZSet := ([] : List api.Scored) } : api.Value))) Z (pu_build (zs := [.i 0, .str ([] : List UInt8), .sl .full 1 (([] : List (List UInt8)).map AV.str), .sl .full 2 (([] : List api.Field).map api.Field.av), .sl .full 2 (([] : List api.Scored).map api.Scored.av)]) (szs := [1, 1, 1, 1, 1]) (aparts := [(0, .i 4), (2, .sl .full 1 (r15.map AV.str))]) (cs := [.i 4, .str ([] : List UInt8), .sl .full 1 (r15.map AV.str), .sl .full 2 (([] : List api.Field).map api.Field.av), .sl .full 2 (([] : List api.Scored).map api.Scored.av)]) Z underlying26 zeroValue26 Z ⟨sizeOf3, sizeOf9, sizeOf22, sizeOf23, sizeOf24, trivial⟩ ⟨Z, (AEv.int _ _), ⟨Z, (tm Z), trivial⟩⟩ Z) (ac0 Z Z (op_store (i := 0) (cs' := (api.Value.ct .full .full .full ({ Kind := 4, Text := ([] : List UInt8), List_ := r15, Hash := ([] : List api.Field), ZSet := ([] : List api.Scored) } : api.Value))) Z sizeOf26 (tm Z) (v := .agg (api.Value.ct .full .full .full ({ Kind := 4, Text := ([] : List UInt8), List_ := r15, Hash := ([] : List api.Field), ZSet := ([] : List api.Scored) } : api.Value))) (tm Z) Z Z Z (nb Z) Z (xe (aw_ret ?_))))
  obtain rfl := some_of h
  exact ⟨[.agg (api.Value.ct .full .full .full ({ Kind := 4, Text := ([] : List UInt8), List_ := r15, Hash := ([] : List api.Field), ZSet := ([] : List api.Scored) } : api.Value))], _, [], ⟨(CellOk.agg 0 (tm Z) Z isAgg26 sizeOf26 (nb Z) Z), trivial⟩, vr, Weak.mkL [] (by decide) trivial trivial, ⟨Z, Z⟩⟩

theorem charge.May_1.ok {i : Int} {k_ : Int} {a2_ : api.Value} {r : Bool} (h : charge.May_1 i k_ a2_ = some r) (o0 : Nat) : Go.Lift.Spec prog 48 [.i i, .i k_, .ptr o0 0] [(o0, .cells (api.Value.ct .no .no .no a2_))] (fun v H => v = .bool r ∧ H = [(o0, .cells (api.Value.ct .no .no .no a2_))]) := by
 unfold charge.May_1 at h
 refine Go.Lift.Spec.of_body (rs := [.tmp 5]) func48 Z Z (nb Z) Z (xr (xa (.bool false) Z (pu_assign Z (AEv.bool _)) (xe (aw_seq ?_))))
 obtain ⟨c3, h⟩ := need_of h
 obtain ⟨c4, h⟩ := need_of h
 refine aw_planR (by decide +kernel) [[], [(0, 0, false)], [], [], [], [], [(0, 0, false)], [], [], [], [], []] [[]] [[[(o0, .cells (api.Value.ct .no .no .no a2_))]]] [.ptr o0 2, .sl .no 1 (a2_.List_.map AV.str), .i i, .vptr [.str (ix a2_.List_ i)], .str (ix a2_.List_ i), .ptr o0 2, .sl .no 1 (a2_.List_.map AV.str), .i k_, .vptr [.str (ix a2_.List_ k_)], .str (ix a2_.List_ k_), .bool (strLt (ix a2_.List_ i) (ix a2_.List_ k_)), .bool (strLt (ix a2_.List_ i) (ix a2_.List_ k_))] (by decide +kernel) Z Z ?_ ?_
 ·exact ⟨yp Z (fa Z underlying26 Z sizeOf22 Z Z Z), stepg_plain Z (op_load1 (i := 0) Z isAgg22 (tm Z) Z Z ⟨Z, Z⟩), ym Z Z Z, yp Z (pu_indexAddrM Z underlying22 sizeOf9 (tm Z) (tm Z) c3 Z), stepg_plain Z (op_loadV1 Z isAgg9 (tm Z) Z ⟨Z, Z⟩), yp Z (fa Z underlying26 Z sizeOf22 Z Z Z), stepg_plain Z (op_load1 (i := 0) Z isAgg22 (tm Z) Z Z ⟨Z, Z⟩), ym Z Z Z, yp Z (pu_indexAddrM Z underlying22 sizeOf9 (tm Z) (tm Z) c4 Z), stepg_plain Z (op_loadV1 Z isAgg9 (tm Z) Z ⟨Z, Z⟩), yp Z (pu_str (v := .bool (strLt (ix a2_.List_ i) (ix a2_.List_ k_))) Z Z (tm Z) (tm Z) Z), ym Z Z Z, trivial⟩
 refine aw_ret ?_
 obtain rfl := some_of h
 exact ⟨[.bool (strLt (ix a2_.List_ i) (ix a2_.List_ k_))], _, [(o0, .cells (api.Value.ct .no .no .no a2_))], ⟨(tm Z), trivial⟩, vr, Weak.mkL [0] (by decide) ⟨⟨_, Z, cr, Z⟩, trivial⟩ trivial, ⟨Z, Z⟩⟩

theorem charge.rises_charge_May_1.ok {n_ : Int} {b0_ : api.Value} {r : Bool} (h : charge.rises_charge_May_1 n_ b0_ = some r) (o0 : Nat) : Go.Lift.Spec prog 47 [.i n_, .fn 48 [.ptr o0 0]] [(o0, .cells (api.Value.ct .no .no .no b0_))] (fun v H => v = .bool r ∧ H = [(o0, .cells (api.Value.ct .no .no .no b0_))]) := by
 unfold charge.rises_charge_May_1 at h
 refine Go.Lift.Spec.of_body (rs := [.tmp 4]) func47 Z Z (nb Z) Z (xr (xa (.bool false) Z (pu_assign Z (AEv.bool _)) (xe ?_)))
 obtain ⟨s68, s68e, h51⟩ := bind_some h
 refine aw_join (σ := Unit) (ν := Unit) (fun u v => []) (fun u v => [(o0, .cells (api.Value.ct .no .no .no b0_))]) (fun u => s68 = .inl u) ?_ ?_
 ·intro s50
  intro _
  rintro rfl
  have h := onSum_inl h51
  refine xr (xa (.bool true) Z (pu_assign Z (AEv.bool _)) (xe (aw_ret ?_)))
  obtain rfl := some_of h
  exact ⟨[.bool true], _, [(o0, .cells (api.Value.ct .no .no .no b0_))], ⟨(tm Z), trivial⟩, vr, Weak.mkL [0] (by decide) ⟨⟨_, Z, cr, Z⟩, trivial⟩ trivial, ⟨Z, Z⟩⟩
 ·have h := s68e
  refine xr (xa (.i 1) Z (pu_assign Z (AEv.int _ _)) (xe (aw_block (aw_while (σ := charge.rises_charge_May_1.S0) (ν := Unit) (charge.rises_charge_May_1.body0 n_ b0_) (fun s61 v => [(0, .i n_), (1, .fn 48 [.ptr o0 0]), (5, .i s61.i)]) (fun s61 v => [(o0, .cells (api.Value.ct .no .no .no b0_))]) ⟨1⟩ () _ h (Weak.mkL [0] (by decide) ⟨⟨_, Z, cr, Z⟩, trivial⟩ ⟨tm Z, tm Z, tm Z, trivial⟩) ?_))))
  rintro s61 _ x63 h hx62
  unfold charge.rises_charge_May_1.body0 at h
  refine aw_seq (xr (xm Z Z Z (xm Z Z Z (xa (.bool (decide (s61.i < n_))) Z (pu_int (v := .bool (decide (s61.i < n_))) Z Z (tm Z) (tm Z) Z) (xe (aw_cond (b := decide (s61.i < n_)) (tm Z) (fun hb67 => ?_) (fun hb67 => ?_)))))))
  ·replace h := ite_t (dec_t hb67) h
   refine aw_skip (aw_seq (aw_block (xr (xm Z Z Z (xm Z Z Z (xa (.i (IntKind.wrap .i64 (s61.i - 1))) Z (pu_int (v := .i (IntKind.wrap .i64 (s61.i - 1))) Z Z (tm Z) (AEv.int _ _) Z) (xm Z Z Z ?_)))))))
   obtain ⟨r65, r65e, h⟩ := bind_some h
   refine xc Z (op_callV (vs := [.i (IntKind.wrap .i64 (s61.i - 1)), .i s61.i]) (H := [(o0, .cells (api.Value.ct .no .no .no b0_))]) Z (tm Z) call48 ⟨(tm Z), (tm Z), trivial⟩ (List.Perm.refl _) (charge.May_1.ok r65e o0) ?_)
   rintro _ _ ⟨rfl, rfl⟩
   refine xa (.bool (!r65)) Z (pu_not Z (tm Z)) (xe (aw_cond (b := (!r65)) (tm Z) (fun hb66 => ?_) (fun hb66 => ?_)))
   ·replace h := ite_t hb66 h
    refine xr (xa (.bool false) Z (pu_assign Z (AEv.bool _)) (xe (aw_ret ?_)))
    obtain rfl := some_of h
    have h := congrArg some (hx62 _ rfl)
    obtain rfl := some_of h
    have h := onSum_inr h51
    obtain rfl := some_of h
    exact ⟨[.bool false], _, [(o0, .cells (api.Value.ct .no .no .no b0_))], ⟨(tm Z), trivial⟩, vr, Weak.mkL [0] (by decide) ⟨⟨_, Z, cr, Z⟩, trivial⟩ trivial, ⟨Z, Z⟩⟩
   ·replace h := ite_fb hb66 h
    refine aw_skip (aw_region (xm Z Z Z (xa (.i (IntKind.wrap .i64 (s61.i + 1))) Z (pu_int (v := .i (IntKind.wrap .i64 (s61.i + 1))) Z Z (tm Z) (AEv.int _ _) Z) (xm Z Z Z (xe ?_)))))
    obtain rfl := some_of h
    exact ⟨_, (), Z, Weak.mkL [0] (by decide) ⟨⟨_, Z, cr, Z⟩, trivial⟩ ⟨tm Z, tm Z, (AEv.le (tm Z) vr), trivial⟩⟩
  ·replace h := ite_f (dec_f hb67) h
   refine aw_exit ?_
   obtain rfl := some_of h
   have h := congrArg some (hx62 _ rfl)
   exact ⟨(), (), (some_of h).symm, Weak.mkL [0] (by decide) ⟨⟨_, Z, cr, Z⟩, trivial⟩ trivial⟩

theorem charge.May_2.ok {i : Int} {k_ : Int} {a2_ : api.Value} {r : Bool} (h : charge.May_2 i k_ a2_ = some r) (o0 : Nat) : Go.Lift.Spec prog 49 [.i i, .i k_, .ptr o0 0] [(o0, .cells (api.Value.ct .no .no .no a2_))] (fun v H => v = .bool r ∧ H = [(o0, .cells (api.Value.ct .no .no .no a2_))]) := by
 unfold charge.May_2 at h
 refine Go.Lift.Spec.of_body (rs := [.tmp 5]) func49 Z Z (nb Z) Z (xr (xa (.bool false) Z (pu_assign Z (AEv.bool _)) (xe (aw_seq ?_))))
 obtain ⟨c3, h⟩ := need_of h
 obtain ⟨c4, h⟩ := need_of h
 refine aw_planR (by decide +kernel) [[], [(0, 0, false)], [], [], [], [], [], [(0, 0, false)], [], [], [], [], [], []] [[]] [[[(o0, .cells (api.Value.ct .no .no .no a2_))]]] [.ptr o0 3, .sl .no 2 (a2_.Hash.map api.Field.av), .i i, .vptr [.str (ix a2_.Hash i).Key, .str (ix a2_.Hash i).Val], .vptr [.str (ix a2_.Hash i).Key, .str (ix a2_.Hash i).Val], .str (ix a2_.Hash i).Key, .ptr o0 3, .sl .no 2 (a2_.Hash.map api.Field.av), .i k_, .vptr [.str (ix a2_.Hash k_).Key, .str (ix a2_.Hash k_).Val], .vptr [.str (ix a2_.Hash k_).Key, .str (ix a2_.Hash k_).Val], .str (ix a2_.Hash k_).Key, .bool (strLt (ix a2_.Hash i).Key (ix a2_.Hash k_).Key), .bool (strLt (ix a2_.Hash i).Key (ix a2_.Hash k_).Key)] (by decide +kernel) Z Z ?_ ?_
 ·exact ⟨yp Z (fa Z underlying26 Z sizeOf23 Z Z Z), stepg_plain Z (op_load1 (i := 0) Z isAgg23 (tm Z) Z Z ⟨Z, Z⟩), ym Z Z Z, yp Z (pu_indexAddrM Z underlying23 sizeOf54 (tm Z) (tm Z) c3 Z), yp Z (fa Z underlying54 Z sizeOf9 Z Z Z), stepg_plain Z (op_loadV1 Z isAgg9 (tm Z) Z ⟨Z, Z⟩), yp Z (fa Z underlying26 Z sizeOf23 Z Z Z), stepg_plain Z (op_load1 (i := 0) Z isAgg23 (tm Z) Z Z ⟨Z, Z⟩), ym Z Z Z, yp Z (pu_indexAddrM Z underlying23 sizeOf54 (tm Z) (tm Z) c4 Z), yp Z (fa Z underlying54 Z sizeOf9 Z Z Z), stepg_plain Z (op_loadV1 Z isAgg9 (tm Z) Z ⟨Z, Z⟩), yp Z (pu_str (v := .bool (strLt (ix a2_.Hash i).Key (ix a2_.Hash k_).Key)) Z Z (tm Z) (tm Z) Z), ym Z Z Z, trivial⟩
 refine aw_ret ?_
 obtain rfl := some_of h
 exact ⟨[.bool (strLt (ix a2_.Hash i).Key (ix a2_.Hash k_).Key)], _, [(o0, .cells (api.Value.ct .no .no .no a2_))], ⟨(tm Z), trivial⟩, vr, Weak.mkL [0] (by decide) ⟨⟨_, Z, cr, Z⟩, trivial⟩ trivial, ⟨Z, Z⟩⟩

theorem charge.rises_charge_May_2.ok {n_ : Int} {b0_ : api.Value} {r : Bool} (h : charge.rises_charge_May_2 n_ b0_ = some r) (o0 : Nat) : Go.Lift.Spec prog 47 [.i n_, .fn 49 [.ptr o0 0]] [(o0, .cells (api.Value.ct .no .no .no b0_))] (fun v H => v = .bool r ∧ H = [(o0, .cells (api.Value.ct .no .no .no b0_))]) := by
 unfold charge.rises_charge_May_2 at h
 refine Go.Lift.Spec.of_body (rs := [.tmp 4]) func47 Z Z (nb Z) Z (xr (xa (.bool false) Z (pu_assign Z (AEv.bool _)) (xe ?_)))
 obtain ⟨s68, s68e, h51⟩ := bind_some h
 refine aw_join (σ := Unit) (ν := Unit) (fun u v => []) (fun u v => [(o0, .cells (api.Value.ct .no .no .no b0_))]) (fun u => s68 = .inl u) ?_ ?_
 ·intro s50
  intro _
  rintro rfl
  have h := onSum_inl h51
  refine xr (xa (.bool true) Z (pu_assign Z (AEv.bool _)) (xe (aw_ret ?_)))
  obtain rfl := some_of h
  exact ⟨[.bool true], _, [(o0, .cells (api.Value.ct .no .no .no b0_))], ⟨(tm Z), trivial⟩, vr, Weak.mkL [0] (by decide) ⟨⟨_, Z, cr, Z⟩, trivial⟩ trivial, ⟨Z, Z⟩⟩
 ·have h := s68e
  refine xr (xa (.i 1) Z (pu_assign Z (AEv.int _ _)) (xe (aw_block (aw_while (σ := charge.rises_charge_May_2.S0) (ν := Unit) (charge.rises_charge_May_2.body0 n_ b0_) (fun s61 v => [(0, .i n_), (1, .fn 49 [.ptr o0 0]), (5, .i s61.i)]) (fun s61 v => [(o0, .cells (api.Value.ct .no .no .no b0_))]) ⟨1⟩ () _ h (Weak.mkL [0] (by decide) ⟨⟨_, Z, cr, Z⟩, trivial⟩ ⟨tm Z, tm Z, tm Z, trivial⟩) ?_))))
  rintro s61 _ x63 h hx62
  unfold charge.rises_charge_May_2.body0 at h
  refine aw_seq (xr (xm Z Z Z (xm Z Z Z (xa (.bool (decide (s61.i < n_))) Z (pu_int (v := .bool (decide (s61.i < n_))) Z Z (tm Z) (tm Z) Z) (xe (aw_cond (b := decide (s61.i < n_)) (tm Z) (fun hb67 => ?_) (fun hb67 => ?_)))))))
  ·replace h := ite_t (dec_t hb67) h
   refine aw_skip (aw_seq (aw_block (xr (xm Z Z Z (xm Z Z Z (xa (.i (IntKind.wrap .i64 (s61.i - 1))) Z (pu_int (v := .i (IntKind.wrap .i64 (s61.i - 1))) Z Z (tm Z) (AEv.int _ _) Z) (xm Z Z Z ?_)))))))
   obtain ⟨r65, r65e, h⟩ := bind_some h
   refine xc Z (op_callV (vs := [.i (IntKind.wrap .i64 (s61.i - 1)), .i s61.i]) (H := [(o0, .cells (api.Value.ct .no .no .no b0_))]) Z (tm Z) call49 ⟨(tm Z), (tm Z), trivial⟩ (List.Perm.refl _) (charge.May_2.ok r65e o0) ?_)
   rintro _ _ ⟨rfl, rfl⟩
   refine xa (.bool (!r65)) Z (pu_not Z (tm Z)) (xe (aw_cond (b := (!r65)) (tm Z) (fun hb66 => ?_) (fun hb66 => ?_)))
   ·replace h := ite_t hb66 h
    refine xr (xa (.bool false) Z (pu_assign Z (AEv.bool _)) (xe (aw_ret ?_)))
    obtain rfl := some_of h
    have h := congrArg some (hx62 _ rfl)
    obtain rfl := some_of h
    have h := onSum_inr h51
    obtain rfl := some_of h
    exact ⟨[.bool false], _, [(o0, .cells (api.Value.ct .no .no .no b0_))], ⟨(tm Z), trivial⟩, vr, Weak.mkL [0] (by decide) ⟨⟨_, Z, cr, Z⟩, trivial⟩ trivial, ⟨Z, Z⟩⟩
   ·replace h := ite_fb hb66 h
    refine aw_skip (aw_region (xm Z Z Z (xa (.i (IntKind.wrap .i64 (s61.i + 1))) Z (pu_int (v := .i (IntKind.wrap .i64 (s61.i + 1))) Z Z (tm Z) (AEv.int _ _) Z) (xm Z Z Z (xe ?_)))))
    obtain rfl := some_of h
    exact ⟨_, (), Z, Weak.mkL [0] (by decide) ⟨⟨_, Z, cr, Z⟩, trivial⟩ ⟨tm Z, tm Z, (AEv.le (tm Z) vr), trivial⟩⟩
  ·replace h := ite_f (dec_f hb67) h
   refine aw_exit ?_
   obtain rfl := some_of h
   have h := congrArg some (hx62 _ rfl)
   exact ⟨(), (), (some_of h).symm, Weak.mkL [0] (by decide) ⟨⟨_, Z, cr, Z⟩, trivial⟩ trivial⟩

theorem charge.less.ok {a : api.Scored} {b : api.Scored} {r : Bool} (h : charge.less a b = some r) : Go.Lift.Spec prog 45 [.agg [.str a.Member, .i a.Score], .agg [.str b.Member, .i b.Score]] [] (fun v H => v = .bool r ∧ H = []) := by
 unfold charge.less at h
 refine Go.Lift.Spec.of_body (rs := [.tmp 4]) func45 Z Z (nb Z) Z (xr (xc Z (op_box (cs := [.str a.Member, .i a.Score]) (v := .agg [.str a.Member, .i a.Score]) Z (tm Z) Z Z ?_)))
 intro p10
 refine xc Z (op_box (cs := [.str b.Member, .i b.Score]) (v := .agg [.str b.Member, .i b.Score]) Z (tm Z) Z Z ?_)
 intro p11
 refine xa (.bool false) Z (pu_assign Z (AEv.bool _)) (xe ?_)
 obtain ⟨s14, s14e, h15⟩ := letO_of h
 refine aw_meet (ν := Unit) (fun v => [(4, .bool s14)]) (fun v => []) ?_ ?_
 ·have h := s14e.symm
  refine aw_region (xa (.ptr p10 1) Z (fa Z underlying64 Z sizeOf2 Z Z Z) (xc Z (op_load1 (i := 1) Z isAgg2 (tm Z) Z Z (xa (.ptr p11 1) Z (fa Z underlying64 Z sizeOf2 Z Z Z) (xc Z (op_load1 (i := 0) Z isAgg2 (tm Z) Z Z (xa (.bool (decide (a.Score < b.Score))) Z (pu_int (v := .bool (decide (a.Score < b.Score))) Z Z (tm Z) (tm Z) Z) (xm Z Z Z ?_))))))))
  rcases Bool.eq_false_or_eq_true (decide (a.Score < b.Score)) with hb17 | hb17
  ·replace h := ite_t (dec_t hb17) h
   refine aops_known 10 Z hb17 (xn Z Z Z (xn Z Z Z (xn Z Z Z (xn Z Z Z (xn Z Z Z (xn Z Z Z (xv Z Z (xv Z Z (xv Z Z ?_)))))))))
   refine xv Z Z (xv Z Z (xn Z Z Z (xa (.bool true) Z (pu_pick (b := true) Z (tm Z) (fun _ => (AEv.bool _)) (fun h => nomatch h)) (xm Z Z Z (xe ?_)))))
   subst h
   exact ⟨(), Weak.mkL [] (by decide) trivial ⟨tm Z, trivial⟩⟩
  ·replace h := ite_f (dec_f hb17) h
   refine aops_known 10 Z hb17 (xp (.ptr p10 1) Z Z (fa Z underlying64 Z sizeOf2 Z Z Z) (xg Z Z (op_load1 (i := 1) Z isAgg2 (tm Z) Z Z (xp (.ptr p11 1) Z Z (fa Z underlying64 Z sizeOf2 Z Z Z) (xg Z Z (op_load1 (i := 0) Z isAgg2 (tm Z) Z Z (xp (.bool (decide (a.Score = b.Score))) Z Z (pu_int (v := .bool (decide (a.Score = b.Score))) Z Z (tm Z) (tm Z) Z) (xq Z Z Z Z ?_))))))))
   rcases Bool.eq_false_or_eq_true (decide (a.Score = b.Score)) with hb18 | hb18
   ·replace h := ite_t (dec_t hb18) h
    refine aops_known 16 Z hb18 (xp (.ptr p10 0) Z Z (fa Z underlying64 Z sizeOf9 Z Z Z) (xg Z Z (op_load1 (i := 1) Z isAgg9 (tm Z) Z Z (xp (.ptr p11 0) Z Z (fa Z underlying64 Z sizeOf9 Z Z Z) (xg Z Z (op_load1 (i := 0) Z isAgg9 (tm Z) Z Z (xp (.bool (strLt a.Member b.Member)) Z Z (pu_str (v := .bool (strLt a.Member b.Member)) Z Z (tm Z) (tm Z) Z) (xp (.bool (strLt a.Member b.Member)) Z Z (pu_pick (b := true) Z (tm Z) (fun _ => (tm Z)) (fun h => nomatch h)) (xa (.bool (strLt a.Member b.Member)) Z (pu_pick (b := false) Z (tm Z) (fun h => nomatch h) (fun _ => (tm Z))) (xm Z Z Z (xe ?_)))))))))))
    subst h
    exact ⟨(), Weak.mkL [] (by decide) trivial ⟨(AEv.le (tm Z) vr), trivial⟩⟩
   ·replace h := ite_f (dec_f hb18) h
    refine aops_known 16 Z hb18 (xn Z Z Z (xn Z Z Z (xn Z Z Z (xn Z Z Z (xn Z Z Z (xp (.bool false) Z Z (pu_pick (b := false) Z (tm Z) (fun h => nomatch h) (fun _ => (AEv.bool _))) (xa (.bool false) Z (pu_pick (b := false) Z (tm Z) (fun h => nomatch h) (fun _ => (tm Z))) (xm Z Z Z (xe ?_)))))))))
    subst h
    exact ⟨(), Weak.mkL [] (by decide) trivial ⟨tm Z, trivial⟩⟩
 ·intro _
  have h := h15
  refine aw_ret ?_
  obtain rfl := some_of h
  exact ⟨[.bool s14], _, [], ⟨(tm Z), trivial⟩, vr, Weak.mkL [] (by decide) trivial trivial, ⟨Z, Z⟩⟩

theorem charge.May_3.ok {i : Int} {k_ : Int} {a2_ : api.Value} {r : Bool} (h : charge.May_3 i k_ a2_ = some r) (o0 : Nat) : Go.Lift.Spec prog 50 [.i i, .i k_, .ptr o0 0] [(o0, .cells (api.Value.ct .no .no .no a2_))] (fun v H => v = .bool r ∧ H = [(o0, .cells (api.Value.ct .no .no .no a2_))]) := by
 unfold charge.May_3 at h
 refine Go.Lift.Spec.of_body (rs := [.tmp 5]) func50 Z Z (nb Z) Z (xr (xa (.bool false) Z (pu_assign Z (AEv.bool _)) (xe (aw_seq ?_))))
 obtain ⟨c4, h⟩ := need_of h
 obtain ⟨c5, h⟩ := need_of h
 obtain ⟨r6, r6e, h⟩ := bind_some h
 refine aw_planR (by decide +kernel) [[], [(0, 0, false)], [], [], [], [], [(0, 0, false)], [], [], [], [], []] [[]] [[[(o0, .cells (api.Value.ct .no .no .no a2_))]]] [.ptr o0 4, .sl .no 2 (a2_.ZSet.map api.Scored.av), .i i, .vptr [.str (ix a2_.ZSet i).Member, .i (ix a2_.ZSet i).Score], .agg [.str (ix a2_.ZSet i).Member, .i (ix a2_.ZSet i).Score], .ptr o0 4, .sl .no 2 (a2_.ZSet.map api.Scored.av), .i k_, .vptr [.str (ix a2_.ZSet k_).Member, .i (ix a2_.ZSet k_).Score], .agg [.str (ix a2_.ZSet k_).Member, .i (ix a2_.ZSet k_).Score], .bool r6, .bool r6] (by decide +kernel) Z Z ?_ ?_
 ·exact ⟨yp Z (fa Z underlying26 Z sizeOf24 Z Z Z), stepg_plain Z (op_load1 (i := 0) Z isAgg24 (tm Z) Z Z ⟨Z, Z⟩), ym Z Z Z, yp Z (pu_indexAddrM Z underlying24 sizeOf64 (tm Z) (tm Z) c4 Z), stepg_plain Z (op_loadVN Z isAgg64 sizeOf64 (tm Z) (nb Z) Z ⟨Z, Z⟩), yp Z (fa Z underlying26 Z sizeOf24 Z Z Z), stepg_plain Z (op_load1 (i := 0) Z isAgg24 (tm Z) Z Z ⟨Z, Z⟩), ym Z Z Z, yp Z (pu_indexAddrM Z underlying24 sizeOf64 (tm Z) (tm Z) c5 Z), stepg_plain Z (op_loadVN Z isAgg64 sizeOf64 (tm Z) (nb Z) Z ⟨Z, Z⟩), stepg_plain Z (op_call (vs := [.agg [.str (ix a2_.ZSet i).Member, .i (ix a2_.ZSet i).Score], .agg [.str (ix a2_.ZSet k_).Member, .i (ix a2_.ZSet k_).Score]]) (H := []) Z call45 ⟨(tm Z), (tm Z), trivial⟩ (R := []) (List.Perm.refl _) (charge.less.ok r6e) (by rintro _ _ ⟨rfl, rfl⟩; exact ⟨Z, Z⟩)), ym Z Z Z, trivial⟩
 refine aw_ret ?_
 obtain rfl := some_of h
 exact ⟨[.bool r6], _, [(o0, .cells (api.Value.ct .no .no .no a2_))], ⟨(tm Z), trivial⟩, vr, Weak.mkL [0] (by decide) ⟨⟨_, Z, cr, Z⟩, trivial⟩ trivial, ⟨Z, Z⟩⟩

theorem charge.rises_charge_May_3.ok {n_ : Int} {b0_ : api.Value} {r : Bool} (h : charge.rises_charge_May_3 n_ b0_ = some r) (o0 : Nat) : Go.Lift.Spec prog 47 [.i n_, .fn 50 [.ptr o0 0]] [(o0, .cells (api.Value.ct .no .no .no b0_))] (fun v H => v = .bool r ∧ H = [(o0, .cells (api.Value.ct .no .no .no b0_))]) := by
 unfold charge.rises_charge_May_3 at h
 refine Go.Lift.Spec.of_body (rs := [.tmp 4]) func47 Z Z (nb Z) Z (xr (xa (.bool false) Z (pu_assign Z (AEv.bool _)) (xe ?_)))
 obtain ⟨s68, s68e, h51⟩ := bind_some h
 refine aw_join (σ := Unit) (ν := Unit) (fun u v => []) (fun u v => [(o0, .cells (api.Value.ct .no .no .no b0_))]) (fun u => s68 = .inl u) ?_ ?_
 ·intro s50
  intro _
  rintro rfl
  have h := onSum_inl h51
  refine xr (xa (.bool true) Z (pu_assign Z (AEv.bool _)) (xe (aw_ret ?_)))
  obtain rfl := some_of h
  exact ⟨[.bool true], _, [(o0, .cells (api.Value.ct .no .no .no b0_))], ⟨(tm Z), trivial⟩, vr, Weak.mkL [0] (by decide) ⟨⟨_, Z, cr, Z⟩, trivial⟩ trivial, ⟨Z, Z⟩⟩
 ·have h := s68e
  refine xr (xa (.i 1) Z (pu_assign Z (AEv.int _ _)) (xe (aw_block (aw_while (σ := charge.rises_charge_May_3.S0) (ν := Unit) (charge.rises_charge_May_3.body0 n_ b0_) (fun s61 v => [(0, .i n_), (1, .fn 50 [.ptr o0 0]), (5, .i s61.i)]) (fun s61 v => [(o0, .cells (api.Value.ct .no .no .no b0_))]) ⟨1⟩ () _ h (Weak.mkL [0] (by decide) ⟨⟨_, Z, cr, Z⟩, trivial⟩ ⟨tm Z, tm Z, tm Z, trivial⟩) ?_))))
  rintro s61 _ x63 h hx62
  unfold charge.rises_charge_May_3.body0 at h
  refine aw_seq (xr (xm Z Z Z (xm Z Z Z (xa (.bool (decide (s61.i < n_))) Z (pu_int (v := .bool (decide (s61.i < n_))) Z Z (tm Z) (tm Z) Z) (xe (aw_cond (b := decide (s61.i < n_)) (tm Z) (fun hb67 => ?_) (fun hb67 => ?_)))))))
  ·replace h := ite_t (dec_t hb67) h
   refine aw_skip (aw_seq (aw_block (xr (xm Z Z Z (xm Z Z Z (xa (.i (IntKind.wrap .i64 (s61.i - 1))) Z (pu_int (v := .i (IntKind.wrap .i64 (s61.i - 1))) Z Z (tm Z) (AEv.int _ _) Z) (xm Z Z Z ?_)))))))
   obtain ⟨r65, r65e, h⟩ := bind_some h
   refine xc Z (op_callV (vs := [.i (IntKind.wrap .i64 (s61.i - 1)), .i s61.i]) (H := [(o0, .cells (api.Value.ct .no .no .no b0_))]) Z (tm Z) call50 ⟨(tm Z), (tm Z), trivial⟩ (List.Perm.refl _) (charge.May_3.ok r65e o0) ?_)
   rintro _ _ ⟨rfl, rfl⟩
   refine xa (.bool (!r65)) Z (pu_not Z (tm Z)) (xe (aw_cond (b := (!r65)) (tm Z) (fun hb66 => ?_) (fun hb66 => ?_)))
   ·replace h := ite_t hb66 h
    refine xr (xa (.bool false) Z (pu_assign Z (AEv.bool _)) (xe (aw_ret ?_)))
    obtain rfl := some_of h
    have h := congrArg some (hx62 _ rfl)
    obtain rfl := some_of h
    have h := onSum_inr h51
    obtain rfl := some_of h
    exact ⟨[.bool false], _, [(o0, .cells (api.Value.ct .no .no .no b0_))], ⟨(tm Z), trivial⟩, vr, Weak.mkL [0] (by decide) ⟨⟨_, Z, cr, Z⟩, trivial⟩ trivial, ⟨Z, Z⟩⟩
   ·replace h := ite_fb hb66 h
    refine aw_skip (aw_region (xm Z Z Z (xa (.i (IntKind.wrap .i64 (s61.i + 1))) Z (pu_int (v := .i (IntKind.wrap .i64 (s61.i + 1))) Z Z (tm Z) (AEv.int _ _) Z) (xm Z Z Z (xe ?_)))))
    obtain rfl := some_of h
    exact ⟨_, (), Z, Weak.mkL [0] (by decide) ⟨⟨_, Z, cr, Z⟩, trivial⟩ ⟨tm Z, tm Z, (AEv.le (tm Z) vr), trivial⟩⟩
  ·replace h := ite_f (dec_f hb67) h
   refine aw_exit ?_
   obtain rfl := some_of h
   have h := congrArg some (hx62 _ rfl)
   exact ⟨(), (), (some_of h).symm, Weak.mkL [0] (by decide) ⟨⟨_, Z, cr, Z⟩, trivial⟩ trivial⟩

theorem charge.once.ok {l : List api.Scored} {r : Bool} (h : charge.once l = some r) : Go.Lift.Spec prog 51 [.sl .no 2 (l.map api.Scored.av)] [] (fun v H => v = .bool r ∧ H = []) := by
 unfold charge.once at h
 refine Go.Lift.Spec.of_body (rs := [.tmp 2]) func51 Z Z (nb Z) Z (xr (xa (.bool false) Z (pu_assign Z (AEv.bool _)) (xe (xr (xa (.sl .full 1 (([] : List (List UInt8)).map AV.str)) Z (pu_assign Z (AEv.nil 1 (by decide))) (xe ?_))))))
 obtain ⟨s80, s80e, h82⟩ := bind_some h
 refine aw_meet (ν := Nat) (fun v => [(0, .sl .no 2 (l.map api.Scored.av)), (3, .vec v)]) (fun v => [(v, .vec 1 (s80.map AV.str))]) ?_ ?_
 ·have h := s80e
  refine xr (xm Z Z Z (xa (.i (l.length : Int)) Z (pu_lenM Z underlying24 (tm Z)) (xa (.i 0) Z (pu_move Z (AEv.int _ _)) (xe (aw_block (aw_vecNil 3 (tm Z) fun t107 => (aw_while (σ := charge.once.S0) (ν := Nat) (charge.once.body0 l) (fun s97 v => [(0, .sl .no 2 (l.map api.Scored.av)), (3, .vec v), (6, .sl .no 2 (l.map api.Scored.av)), (7, .i (l.length : Int)), (8, .i s97.t8)]) (fun s97 v => [(v, .vec 1 (s97.v.map AV.str))]) ⟨0, ([] : List (List UInt8))⟩ t107 _ h (Weak.mkL [0] (by decide) ⟨⟨_, Z, Z⟩, trivial⟩ ⟨tm Z, tm Z, tm Z, tm Z, tm Z, trivial⟩) ?_)))))))
  rintro s97 n98 x100 h hx99
  unfold charge.once.body0 at h
  refine xr (xa (.bool (decide (s97.t8 < (l.length : Int)))) Z (pu_int (v := .bool (decide (s97.t8 < (l.length : Int)))) Z Z (tm Z) (tm Z) Z) (xe (aw_seq (aw_cond (b := decide (s97.t8 < (l.length : Int))) (tm Z) (fun hb106 => ?_) (fun hb106 => ?_)))))
  ·replace h := ite_t (dec_t hb106) h
   refine aw_skip (aw_seq (aw_block (aw_seq (aw_region ?_))))
   obtain ⟨c102, h⟩ := need_of h
   refine xa (.vptr [.str (ix l s97.t8).Member, .i (ix l s97.t8).Score]) Z (pu_indexAddrM Z underlying24 sizeOf64 (tm Z) (tm Z) c102 Z) (xc Z (op_loadVN Z isAgg64 sizeOf64 (tm Z) (nb Z) Z (xc Z (op_alloc (cs := [.str ([] : List UInt8), .i 0]) (v := .agg [.str ([] : List UInt8), .i 0]) Z zeroValue64 Z Z Z ?_))))
   intro p103
   refine ac0 Z Z (op_store (i := 0) (cs' := [.str (ix l s97.t8).Member, .i (ix l s97.t8).Score]) Z sizeOf64 (tm Z) (v := .agg [.str (ix l s97.t8).Member, .i (ix l s97.t8).Score]) (tm Z) Z Z Z (nb Z) Z (xe (aw_region (xm Z Z Z (xa (.ptr p103 0) Z (fa Z underlying64 Z sizeOf9 Z Z Z) (xc Z (op_load1 (i := 0) Z isAgg9 (tm Z) Z Z (xc Z (op_buildSlice (xs := ([(ix l s97.t8).Member] : List (List UInt8)).map AV.str) (aparts := [(0, .str (ix l s97.t8).Member)]) Z underlying22 sizeOf9 zeroValue9 (by decide) (by decide) ⟨Z, (tm Z), trivial⟩ Z Z Z ?_)))))))))
   obtain ⟨c104, h⟩ := need_of h
   refine xc Z (op_appendVM (sz := 1) (q := 1) Z underlying22 underlying22 (.inl Z) typeInfo9 Z Z Z (by decide) (tm Z) Z (given_sl (tm Z)) c104 ?_)
   intro p105
   refine xm Z Z Z (xe (aw_region (xa (.i (IntKind.wrap .i64 (s97.t8 + 1))) Z (pu_int (v := .i (IntKind.wrap .i64 (s97.t8 + 1))) Z Z (tm Z) (AEv.int _ _) Z) (xm Z Z Z (xe ?_)))))
   obtain rfl := some_of h
   exact ⟨_, p105, Z, Weak.mkL [1] (by decide) ⟨⟨_, Z, Z⟩, trivial⟩ ⟨tm Z, tm Z, tm Z, tm Z, (AEv.le (tm Z) vr), trivial⟩⟩
  ·replace h := ite_f (dec_f hb106) h
   refine aw_exit ?_
   obtain rfl := some_of h
   have h := congrArg some (hx99 _ rfl)
   obtain rfl := some_of h
   exact ⟨n98, Weak.mkL [0] (by decide) ⟨⟨_, Z, Z⟩, trivial⟩ ⟨tm Z, tm Z, trivial⟩⟩
 ·intro n81
  have h := h82
  refine xr (xm Z Z Z ?_)
  obtain ⟨r108, r108e, h⟩ := bind_some h
  refine xc Z (op_call (vs := [.vec n81]) (H := [(n81, .vec 1 (s80.map AV.str))]) Z call25 ⟨(tm Z), trivial⟩ (List.Perm.refl _) (slices.Sort_string.ok r108e n81) ?_)
  rintro _ _ ⟨rfl, rfl⟩
  refine xe (xr (xm Z Z Z ?_))
  obtain ⟨r109, r109e, h⟩ := bind_some h
  refine xc Z (op_call (vs := [.vec n81]) (H := [(n81, .vec 1 (r108.map AV.str))]) Z call27 ⟨(tm Z), trivial⟩ (List.Perm.refl _) (slices.Compact_string.ok r109e n81) ?_)
  rintro _ _ ⟨t110, rfl, rfl⟩
  refine xc Z (op_lenVecM (i := 0) Z underlying22 (tm Z) Z (xm Z Z Z (xa (.i (l.length : Int)) Z (pu_lenM Z underlying24 (tm Z)) (xa (.bool (decide ((r109.length : Int) = (l.length : Int)))) Z (pu_int (v := .bool (decide ((r109.length : Int) = (l.length : Int)))) Z Z (tm Z) (tm Z) Z) (xm Z Z Z (xe (aw_ret ?_)))))))
  obtain rfl := some_of h
  exact ⟨[.bool (decide ((r109.length : Int) = (l.length : Int)))], _, [], ⟨(tm Z), trivial⟩, vr, Weak.mkL [] (by decide) trivial trivial, ⟨Z, Z⟩⟩

theorem slices.Equal_string.ok {s1_ : List (List UInt8)} {s2_ : List (List UInt8)} {r : Bool} (h : slices.Equal_string s1_ s2_ = some r) : Go.Lift.Spec prog 61 [.sl .no 1 (s1_.map AV.str), .sl .no 1 (s2_.map AV.str)] [] (fun v H => v = .bool r ∧ H = []) := by
 unfold slices.Equal_string at h
 refine Go.Lift.Spec.of_body (rs := [.tmp 4]) func61 Z Z (nb Z) Z (xr (xa (.bool false) Z (pu_assign Z (AEv.bool _)) (xe (aw_seq (xr (xm Z Z Z (xa (.i (s1_.length : Int)) Z (pu_lenM Z underlying22 (tm Z)) ?_)))))))
 refine xm Z Z Z (xa (.i (s2_.length : Int)) Z (pu_lenM Z underlying22 (tm Z)) (xa (.bool (!decide ((s1_.length : Int) = (s2_.length : Int)))) Z (pu_int (v := .bool (!decide ((s1_.length : Int) = (s2_.length : Int)))) Z Z (tm Z) (tm Z) Z) (xe (aw_cond (b := (!decide ((s1_.length : Int) = (s2_.length : Int)))) (tm Z) (fun hb82 => ?_) (fun hb82 => ?_)))))
 ·replace h := ite_f (ndec_t hb82) h
  refine xr (xa (.bool false) Z (pu_assign Z (AEv.bool _)) (xe (aw_ret ?_)))
  obtain rfl := some_of h
  exact ⟨[.bool false], _, [], ⟨(tm Z), trivial⟩, vr, Weak.mkL [] (by decide) trivial trivial, ⟨Z, Z⟩⟩
 ·replace h := ite_t (ndec_f hb82) h
  refine aw_skip ?_
  obtain ⟨s81, s81e, h61⟩ := bind_some h
  refine aw_join (σ := Unit) (ν := Unit) (fun u v => []) (fun u v => []) (fun u => s81 = .inl u) ?_ ?_
  ·intro s60
   intro _
   rintro rfl
   have h := onSum_inl h61
   refine xr (xa (.bool true) Z (pu_assign Z (AEv.bool _)) (xe (aw_ret ?_)))
   obtain rfl := some_of h
   exact ⟨[.bool true], _, [], ⟨(tm Z), trivial⟩, vr, Weak.mkL [] (by decide) trivial trivial, ⟨Z, Z⟩⟩
  ·have h := s81e
   refine xr (xm Z Z Z (xa (.i (s1_.length : Int)) Z (pu_lenM Z underlying22 (tm Z)) (xa (.i 0) Z (pu_move Z (AEv.int _ _)) (xe (aw_block (aw_while (σ := slices.Equal_string.S0) (ν := Unit) (slices.Equal_string.body0 s1_ s2_) (fun s73 v => [(0, .sl .no 1 (s1_.map AV.str)), (1, .sl .no 1 (s2_.map AV.str)), (12, .i (s1_.length : Int)), (13, .i s73.t13)]) (fun s73 v => []) ⟨0⟩ () _ h (Weak.mkL [] (by decide) trivial ⟨tm Z, tm Z, tm Z, tm Z, trivial⟩) ?_))))))
   rintro s73 _ x75 h hx74
   unfold slices.Equal_string.body0 at h
   refine xr (xa (.bool (decide (s73.t13 < (s1_.length : Int)))) Z (pu_int (v := .bool (decide (s73.t13 < (s1_.length : Int)))) Z Z (tm Z) (tm Z) Z) (xe (aw_seq (aw_cond (b := decide (s73.t13 < (s1_.length : Int))) (tm Z) (fun hb80 => ?_) (fun hb80 => ?_)))))
   ·replace h := ite_t (dec_t hb80) h
    refine aw_skip (aw_seq (aw_block (xr (xm Z Z Z (xm Z Z Z (xe (aw_seq ?_)))))))
    obtain ⟨c77, h⟩ := need_of h
    obtain ⟨c78, h⟩ := need_of h
    refine aw_planR (by decide +kernel) [[], [], [], [], [], [], [], [], []] [] [] [.sl .no 1 (s1_.map AV.str), .i s73.t13, .vptr [.str (ix s1_ s73.t13)], .str (ix s1_ s73.t13), .sl .no 1 (s2_.map AV.str), .i s73.t13, .vptr [.str (ix s2_ s73.t13)], .str (ix s2_ s73.t13), .bool (!decide ((ix s1_ s73.t13) = (ix s2_ s73.t13)))] (by decide +kernel) Z Z ?_ ?_
    ·exact ⟨ym Z Z Z, ym Z Z Z, yp Z (pu_indexAddrM Z underlying22 sizeOf9 (tm Z) (tm Z) c77 Z), stepg_plain Z (op_loadV1 Z isAgg9 (tm Z) Z ⟨Z, Z⟩), ym Z Z Z, ym Z Z Z, yp Z (pu_indexAddrM Z underlying22 sizeOf9 (tm Z) (tm Z) c78 Z), stepg_plain Z (op_loadV1 Z isAgg9 (tm Z) Z ⟨Z, Z⟩), yp Z (pu_str (v := .bool (!decide ((ix s1_ s73.t13) = (ix s2_ s73.t13)))) Z Z (tm Z) (tm Z) Z), trivial⟩
    refine aw_cond (b := (!decide ((ix s1_ s73.t13) = (ix s2_ s73.t13)))) (tm Z) (fun hb79 => ?_) (fun hb79 => ?_)
    ·replace h := ite_f (ndec_t hb79) h
     refine xr (xa (.bool false) Z (pu_assign Z (AEv.bool _)) (xe (aw_ret ?_)))
     obtain rfl := some_of h
     have h := congrArg some (hx74 _ rfl)
     obtain rfl := some_of h
     have h := onSum_inr h61
     obtain rfl := some_of h
     exact ⟨[.bool false], _, [], ⟨(tm Z), trivial⟩, vr, Weak.mkL [] (by decide) trivial trivial, ⟨Z, Z⟩⟩
    ·replace h := ite_t (ndec_f hb79) h
     refine aw_skip (aw_region (xa (.i (IntKind.wrap .i64 (s73.t13 + 1))) Z (pu_int (v := .i (IntKind.wrap .i64 (s73.t13 + 1))) Z Z (tm Z) (AEv.int _ _) Z) (xm Z Z Z (xe ?_))))
     obtain rfl := some_of h
     exact ⟨_, (), Z, Weak.mkL [] (by decide) trivial ⟨tm Z, tm Z, tm Z, (AEv.le (tm Z) vr), trivial⟩⟩
   ·replace h := ite_f (dec_f hb80) h
    refine aw_exit ?_
    obtain rfl := some_of h
    have h := congrArg some (hx74 _ rfl)
    exact ⟨(), (), (some_of h).symm, Weak.mkL [] (by decide) trivial trivial⟩

theorem slices.Equal_api_Field.ok {s1_ : List api.Field} {s2_ : List api.Field} {r : Bool} (h : slices.Equal_api_Field s1_ s2_ = some r) : Go.Lift.Spec prog 62 [.sl .no 2 (s1_.map api.Field.av), .sl .no 2 (s2_.map api.Field.av)] [] (fun v H => v = .bool r ∧ H = []) := by
 unfold slices.Equal_api_Field at h
 refine Go.Lift.Spec.of_body (rs := [.tmp 4]) func62 Z Z (nb Z) Z (xr (xa (.bool false) Z (pu_assign Z (AEv.bool _)) (xe (aw_seq (xr (xm Z Z Z (xa (.i (s1_.length : Int)) Z (pu_lenM Z underlying23 (tm Z)) ?_)))))))
 refine xm Z Z Z (xa (.i (s2_.length : Int)) Z (pu_lenM Z underlying23 (tm Z)) (xa (.bool (!decide ((s1_.length : Int) = (s2_.length : Int)))) Z (pu_int (v := .bool (!decide ((s1_.length : Int) = (s2_.length : Int)))) Z Z (tm Z) (tm Z) Z) (xe (aw_cond (b := (!decide ((s1_.length : Int) = (s2_.length : Int)))) (tm Z) (fun hb82 => ?_) (fun hb82 => ?_)))))
 ·replace h := ite_f (ndec_t hb82) h
  refine xr (xa (.bool false) Z (pu_assign Z (AEv.bool _)) (xe (aw_ret ?_)))
  obtain rfl := some_of h
  exact ⟨[.bool false], _, [], ⟨(tm Z), trivial⟩, vr, Weak.mkL [] (by decide) trivial trivial, ⟨Z, Z⟩⟩
 ·replace h := ite_t (ndec_f hb82) h
  refine aw_skip ?_
  obtain ⟨s81, s81e, h61⟩ := bind_some h
  refine aw_join (σ := Unit) (ν := Unit) (fun u v => []) (fun u v => []) (fun u => s81 = .inl u) ?_ ?_
  ·intro s60
   intro _
   rintro rfl
   have h := onSum_inl h61
   refine xr (xa (.bool true) Z (pu_assign Z (AEv.bool _)) (xe (aw_ret ?_)))
   obtain rfl := some_of h
   exact ⟨[.bool true], _, [], ⟨(tm Z), trivial⟩, vr, Weak.mkL [] (by decide) trivial trivial, ⟨Z, Z⟩⟩
  ·have h := s81e
   refine xr (xm Z Z Z (xa (.i (s1_.length : Int)) Z (pu_lenM Z underlying23 (tm Z)) (xa (.i 0) Z (pu_move Z (AEv.int _ _)) (xe (aw_block (aw_while (σ := slices.Equal_api_Field.S0) (ν := Unit) (slices.Equal_api_Field.body0 s1_ s2_) (fun s73 v => [(0, .sl .no 2 (s1_.map api.Field.av)), (1, .sl .no 2 (s2_.map api.Field.av)), (12, .i (s1_.length : Int)), (13, .i s73.t13)]) (fun s73 v => []) ⟨0⟩ () _ h (Weak.mkL [] (by decide) trivial ⟨tm Z, tm Z, tm Z, tm Z, trivial⟩) ?_))))))
   rintro s73 _ x75 h hx74
   unfold slices.Equal_api_Field.body0 at h
   refine xr (xa (.bool (decide (s73.t13 < (s1_.length : Int)))) Z (pu_int (v := .bool (decide (s73.t13 < (s1_.length : Int)))) Z Z (tm Z) (tm Z) Z) (xe (aw_seq (aw_cond (b := decide (s73.t13 < (s1_.length : Int))) (tm Z) (fun hb80 => ?_) (fun hb80 => ?_)))))
   ·replace h := ite_t (dec_t hb80) h
    refine aw_skip (aw_seq (aw_block (xr (xm Z Z Z (xm Z Z Z (xe (aw_seq ?_)))))))
    obtain ⟨c77, h⟩ := need_of h
    obtain ⟨c78, h⟩ := need_of h
    refine aw_planR (by decide +kernel) [[], [], [], [], [], [], [], [], []] [] [] [.sl .no 2 (s1_.map api.Field.av), .i s73.t13, .vptr [.str (ix s1_ s73.t13).Key, .str (ix s1_ s73.t13).Val], .agg [.str (ix s1_ s73.t13).Key, .str (ix s1_ s73.t13).Val], .sl .no 2 (s2_.map api.Field.av), .i s73.t13, .vptr [.str (ix s2_ s73.t13).Key, .str (ix s2_ s73.t13).Val], .agg [.str (ix s2_ s73.t13).Key, .str (ix s2_ s73.t13).Val], .bool (!decide ((ix s1_ s73.t13) = (ix s2_ s73.t13)))] (by decide +kernel) Z Z ?_ ?_
    ·exact ⟨ym Z Z Z, ym Z Z Z, yp Z (pu_indexAddrM Z underlying23 sizeOf54 (tm Z) (tm Z) c77 Z), stepg_plain Z (op_loadVN Z isAgg54 sizeOf54 (tm Z) (nb Z) Z ⟨Z, Z⟩), ym Z Z Z, ym Z Z Z, yp Z (pu_indexAddrM Z underlying23 sizeOf54 (tm Z) (tm Z) c78 Z), stepg_plain Z (op_loadVN Z isAgg54 sizeOf54 (tm Z) (nb Z) Z ⟨Z, Z⟩), yp Z (APure.eq (pu_structNe (b := (decide ((ix s1_ s73.t13).Key = (ix s2_ s73.t13).Key) && (decide ((ix s1_ s73.t13).Val = (ix s2_ s73.t13).Val) && true))) Z underlying54 (by kernel_rfl) (by kernel_rfl) (tm Z) (tm Z) ⟨_, _, _, _, ⟨by decide, isAgg9, Z, Z, CEq.str underlying9⟩, ⟨_, _, _, _, ⟨by decide, isAgg9, Z, Z, CEq.str underlying9⟩, Z, Z⟩, Z⟩) (congrArg (fun b => AV.bool (!b)) (api.Field.eq_iff (ix s1_ s73.t13) (ix s2_ s73.t13)).symm)), trivial⟩
    refine aw_cond (b := (!decide ((ix s1_ s73.t13) = (ix s2_ s73.t13)))) (tm Z) (fun hb79 => ?_) (fun hb79 => ?_)
    ·replace h := ite_f (ndec_t hb79) h
     refine xr (xa (.bool false) Z (pu_assign Z (AEv.bool _)) (xe (aw_ret ?_)))
     obtain rfl := some_of h
     have h := congrArg some (hx74 _ rfl)
     obtain rfl := some_of h
     have h := onSum_inr h61
     obtain rfl := some_of h
     exact ⟨[.bool false], _, [], ⟨(tm Z), trivial⟩, vr, Weak.mkL [] (by decide) trivial trivial, ⟨Z, Z⟩⟩
    ·replace h := ite_t (ndec_f hb79) h
     refine aw_skip (aw_region (xa (.i (IntKind.wrap .i64 (s73.t13 + 1))) Z (pu_int (v := .i (IntKind.wrap .i64 (s73.t13 + 1))) Z Z (tm Z) (AEv.int _ _) Z) (xm Z Z Z (xe ?_))))
     obtain rfl := some_of h
     exact ⟨_, (), Z, Weak.mkL [] (by decide) trivial ⟨tm Z, tm Z, tm Z, (AEv.le (tm Z) vr), trivial⟩⟩
   ·replace h := ite_f (dec_f hb80) h
    refine aw_exit ?_
    obtain rfl := some_of h
    have h := congrArg some (hx74 _ rfl)
    exact ⟨(), (), (some_of h).symm, Weak.mkL [] (by decide) trivial trivial⟩

theorem slices.Equal_api_Scored.ok {s1_ : List api.Scored} {s2_ : List api.Scored} {r : Bool} (h : slices.Equal_api_Scored s1_ s2_ = some r) : Go.Lift.Spec prog 63 [.sl .no 2 (s1_.map api.Scored.av), .sl .no 2 (s2_.map api.Scored.av)] [] (fun v H => v = .bool r ∧ H = []) := by
 unfold slices.Equal_api_Scored at h
 refine Go.Lift.Spec.of_body (rs := [.tmp 4]) func63 Z Z (nb Z) Z (xr (xa (.bool false) Z (pu_assign Z (AEv.bool _)) (xe (aw_seq (xr (xm Z Z Z (xa (.i (s1_.length : Int)) Z (pu_lenM Z underlying24 (tm Z)) ?_)))))))
 refine xm Z Z Z (xa (.i (s2_.length : Int)) Z (pu_lenM Z underlying24 (tm Z)) (xa (.bool (!decide ((s1_.length : Int) = (s2_.length : Int)))) Z (pu_int (v := .bool (!decide ((s1_.length : Int) = (s2_.length : Int)))) Z Z (tm Z) (tm Z) Z) (xe (aw_cond (b := (!decide ((s1_.length : Int) = (s2_.length : Int)))) (tm Z) (fun hb82 => ?_) (fun hb82 => ?_)))))
 ·replace h := ite_f (ndec_t hb82) h
  refine xr (xa (.bool false) Z (pu_assign Z (AEv.bool _)) (xe (aw_ret ?_)))
  obtain rfl := some_of h
  exact ⟨[.bool false], _, [], ⟨(tm Z), trivial⟩, vr, Weak.mkL [] (by decide) trivial trivial, ⟨Z, Z⟩⟩
 ·replace h := ite_t (ndec_f hb82) h
  refine aw_skip ?_
  obtain ⟨s81, s81e, h61⟩ := bind_some h
  refine aw_join (σ := Unit) (ν := Unit) (fun u v => []) (fun u v => []) (fun u => s81 = .inl u) ?_ ?_
  ·intro s60
   intro _
   rintro rfl
   have h := onSum_inl h61
   refine xr (xa (.bool true) Z (pu_assign Z (AEv.bool _)) (xe (aw_ret ?_)))
   obtain rfl := some_of h
   exact ⟨[.bool true], _, [], ⟨(tm Z), trivial⟩, vr, Weak.mkL [] (by decide) trivial trivial, ⟨Z, Z⟩⟩
  ·have h := s81e
   refine xr (xm Z Z Z (xa (.i (s1_.length : Int)) Z (pu_lenM Z underlying24 (tm Z)) (xa (.i 0) Z (pu_move Z (AEv.int _ _)) (xe (aw_block (aw_while (σ := slices.Equal_api_Scored.S0) (ν := Unit) (slices.Equal_api_Scored.body0 s1_ s2_) (fun s73 v => [(0, .sl .no 2 (s1_.map api.Scored.av)), (1, .sl .no 2 (s2_.map api.Scored.av)), (12, .i (s1_.length : Int)), (13, .i s73.t13)]) (fun s73 v => []) ⟨0⟩ () _ h (Weak.mkL [] (by decide) trivial ⟨tm Z, tm Z, tm Z, tm Z, trivial⟩) ?_))))))
   rintro s73 _ x75 h hx74
   unfold slices.Equal_api_Scored.body0 at h
   refine xr (xa (.bool (decide (s73.t13 < (s1_.length : Int)))) Z (pu_int (v := .bool (decide (s73.t13 < (s1_.length : Int)))) Z Z (tm Z) (tm Z) Z) (xe (aw_seq (aw_cond (b := decide (s73.t13 < (s1_.length : Int))) (tm Z) (fun hb80 => ?_) (fun hb80 => ?_)))))
   ·replace h := ite_t (dec_t hb80) h
    refine aw_skip (aw_seq (aw_block (xr (xm Z Z Z (xm Z Z Z (xe (aw_seq ?_)))))))
    obtain ⟨c77, h⟩ := need_of h
    obtain ⟨c78, h⟩ := need_of h
    refine aw_planR (by decide +kernel) [[], [], [], [], [], [], [], [], []] [] [] [.sl .no 2 (s1_.map api.Scored.av), .i s73.t13, .vptr [.str (ix s1_ s73.t13).Member, .i (ix s1_ s73.t13).Score], .agg [.str (ix s1_ s73.t13).Member, .i (ix s1_ s73.t13).Score], .sl .no 2 (s2_.map api.Scored.av), .i s73.t13, .vptr [.str (ix s2_ s73.t13).Member, .i (ix s2_ s73.t13).Score], .agg [.str (ix s2_ s73.t13).Member, .i (ix s2_ s73.t13).Score], .bool (!decide ((ix s1_ s73.t13) = (ix s2_ s73.t13)))] (by decide +kernel) Z Z ?_ ?_
    ·exact ⟨ym Z Z Z, ym Z Z Z, yp Z (pu_indexAddrM Z underlying24 sizeOf64 (tm Z) (tm Z) c77 Z), stepg_plain Z (op_loadVN Z isAgg64 sizeOf64 (tm Z) (nb Z) Z ⟨Z, Z⟩), ym Z Z Z, ym Z Z Z, yp Z (pu_indexAddrM Z underlying24 sizeOf64 (tm Z) (tm Z) c78 Z), stepg_plain Z (op_loadVN Z isAgg64 sizeOf64 (tm Z) (nb Z) Z ⟨Z, Z⟩), yp Z (APure.eq (pu_structNe (b := (decide ((ix s1_ s73.t13).Member = (ix s2_ s73.t13).Member) && (decide ((ix s1_ s73.t13).Score = (ix s2_ s73.t13).Score) && true))) Z underlying64 (by kernel_rfl) (by kernel_rfl) (tm Z) (tm Z) ⟨_, _, _, _, ⟨by decide, isAgg9, Z, Z, CEq.str underlying9⟩, ⟨_, _, _, _, ⟨by decide, isAgg2, Z, Z, CEq.int underlying2⟩, Z, Z⟩, Z⟩) (congrArg (fun b => AV.bool (!b)) (api.Scored.eq_iff (ix s1_ s73.t13) (ix s2_ s73.t13)).symm)), trivial⟩
    refine aw_cond (b := (!decide ((ix s1_ s73.t13) = (ix s2_ s73.t13)))) (tm Z) (fun hb79 => ?_) (fun hb79 => ?_)
    ·replace h := ite_f (ndec_t hb79) h
     refine xr (xa (.bool false) Z (pu_assign Z (AEv.bool _)) (xe (aw_ret ?_)))
     obtain rfl := some_of h
     have h := congrArg some (hx74 _ rfl)
     obtain rfl := some_of h
     have h := onSum_inr h61
     obtain rfl := some_of h
     exact ⟨[.bool false], _, [], ⟨(tm Z), trivial⟩, vr, Weak.mkL [] (by decide) trivial trivial, ⟨Z, Z⟩⟩
    ·replace h := ite_t (ndec_f hb79) h
     refine aw_skip (aw_region (xa (.i (IntKind.wrap .i64 (s73.t13 + 1))) Z (pu_int (v := .i (IntKind.wrap .i64 (s73.t13 + 1))) Z Z (tm Z) (AEv.int _ _) Z) (xm Z Z Z (xe ?_))))
     obtain rfl := some_of h
     exact ⟨_, (), Z, Weak.mkL [] (by decide) trivial ⟨tm Z, tm Z, tm Z, (AEv.le (tm Z) vr), trivial⟩⟩
   ·replace h := ite_f (dec_f hb80) h
    refine aw_exit ?_
    obtain rfl := some_of h
    have h := congrArg some (hx74 _ rfl)
    exact ⟨(), (), (some_of h).symm, Weak.mkL [] (by decide) trivial trivial⟩

theorem charge.Same.ok {a : api.Value} {b : api.Value} {r : Bool} (h : charge.Same a b = some r) : Go.Lift.Spec prog 52 [.agg (api.Value.ct .no .no .no a), .agg (api.Value.ct .no .no .no b)] [] (fun v H => v = .bool r ∧ H = []) := by
 unfold charge.Same at h
 refine Go.Lift.Spec.of_body (rs := [.tmp 4]) func52 Z Z (nb Z) Z (xr (xc Z (op_box (cs := (api.Value.ct .no .no .no a)) (v := .agg (api.Value.ct .no .no .no a)) Z (tm Z) Z Z ?_)))
 intro p20
 refine xc Z (op_box (cs := (api.Value.ct .no .no .no b)) (v := .agg (api.Value.ct .no .no .no b)) Z (tm Z) Z Z ?_)
 intro p21
 refine xa (.bool false) Z (pu_assign Z (AEv.bool _)) (xe ?_)
 obtain ⟨s29, s29e, h30⟩ := bind_some h
 refine aw_meet (ν := Unit) (fun v => [(4, .bool s29)]) (fun v => []) ?_ ?_
 ·have h := s29e
  refine aw_region (xa (.ptr p20 0) Z (fa Z underlying26 Z sizeOf3 Z Z Z) (xc Z (op_load1 (i := 1) Z isAgg3 (tm Z) Z Z (xa (.ptr p21 0) Z (fa Z underlying26 Z sizeOf3 Z Z Z) (xc Z (op_load1 (i := 0) Z isAgg3 (tm Z) Z Z (xa (.bool (decide (a.Kind = b.Kind))) Z (pu_int (v := .bool (decide (a.Kind = b.Kind))) Z Z (tm Z) (tm Z) Z) (xm Z Z Z ?_))))))))
  rcases Bool.eq_false_or_eq_true (decide (a.Kind = b.Kind)) with hb32 | hb32
  ·replace h := ite_t (dec_t hb32) h
   refine aops_known 10 Z hb32 (xp (.ptr p20 1) Z Z (fa Z underlying26 Z sizeOf9 Z Z Z) (xg Z Z (op_load1 (i := 1) Z isAgg9 (tm Z) Z Z (xp (.ptr p21 1) Z Z (fa Z underlying26 Z sizeOf9 Z Z Z) (xg Z Z (op_load1 (i := 0) Z isAgg9 (tm Z) Z Z (xp (.bool (decide (a.Text = b.Text))) Z Z (pu_str (v := .bool (decide (a.Text = b.Text))) Z Z (tm Z) (tm Z) Z) (xa (.bool (decide (a.Text = b.Text))) Z (pu_pick (b := true) Z (tm Z) (fun _ => (tm Z)) (fun h => nomatch h)) (xm Z Z Z ?_)))))))))
   rcases Bool.eq_false_or_eq_true (decide (a.Text = b.Text)) with hb33 | hb33
   ·replace h := ite_t (dec_t hb33) h
    refine aops_known 17 Z hb33 (xp (.ptr p20 2) Z Z (fa Z underlying26 Z sizeOf22 Z Z Z) (xg Z Z (op_load1 (i := 1) Z isAgg22 (tm Z) Z Z (xp (.ptr p21 2) Z Z (fa Z underlying26 Z sizeOf22 Z Z Z) (xg Z Z (op_load1 (i := 0) Z isAgg22 (tm Z) Z Z ?_))))))
    obtain ⟨r34, r34e, h⟩ := bind_some h
    refine xg Z Z (op_call (vs := [.sl .no 1 (a.List_.map AV.str), .sl .no 1 (b.List_.map AV.str)]) (H := []) Z call61 ⟨(tm Z), (tm Z), trivial⟩ (List.Perm.refl _) (slices.Equal_string.ok r34e) ?_)
    rintro _ _ ⟨rfl, rfl⟩
    refine xa (.bool r34) Z (pu_pick (b := true) Z (tm Z) (fun _ => (tm Z)) (fun h => nomatch h)) (xm Z Z Z ?_)
    rcases Bool.eq_false_or_eq_true r34 with hb35 | hb35
    ·replace h := ite_t hb35 h
     refine aops_known 24 Z hb35 (xp (.ptr p20 3) Z Z (fa Z underlying26 Z sizeOf23 Z Z Z) (xg Z Z (op_load1 (i := 1) Z isAgg23 (tm Z) Z Z (xp (.ptr p21 3) Z Z (fa Z underlying26 Z sizeOf23 Z Z Z) (xg Z Z (op_load1 (i := 0) Z isAgg23 (tm Z) Z Z ?_))))))
     obtain ⟨r36, r36e, h⟩ := bind_some h
     refine xg Z Z (op_call (vs := [.sl .no 2 (a.Hash.map api.Field.av), .sl .no 2 (b.Hash.map api.Field.av)]) (H := []) Z call62 ⟨(tm Z), (tm Z), trivial⟩ (List.Perm.refl _) (slices.Equal_api_Field.ok r36e) ?_)
     rintro _ _ ⟨rfl, rfl⟩
     refine xa (.bool r36) Z (pu_pick (b := true) Z (tm Z) (fun _ => (tm Z)) (fun h => nomatch h)) (xm Z Z Z ?_)
     rcases Bool.eq_false_or_eq_true r36 with hb37 | hb37
     ·replace h := ite_t hb37 h
      refine aops_known 31 Z hb37 (xp (.ptr p20 4) Z Z (fa Z underlying26 Z sizeOf24 Z Z Z) (xg Z Z (op_load1 (i := 1) Z isAgg24 (tm Z) Z Z (xp (.ptr p21 4) Z Z (fa Z underlying26 Z sizeOf24 Z Z Z) (xg Z Z (op_load1 (i := 0) Z isAgg24 (tm Z) Z Z ?_))))))
      obtain ⟨r38, r38e, h⟩ := bind_some h
      refine xg Z Z (op_call (vs := [.sl .no 2 (a.ZSet.map api.Scored.av), .sl .no 2 (b.ZSet.map api.Scored.av)]) (H := []) Z call63 ⟨(tm Z), (tm Z), trivial⟩ (List.Perm.refl _) (slices.Equal_api_Scored.ok r38e) ?_)
      rintro _ _ ⟨rfl, rfl⟩
      refine xa (.bool r38) Z (pu_pick (b := true) Z (tm Z) (fun _ => (tm Z)) (fun h => nomatch h)) (xm Z Z Z (xe ?_))
      obtain rfl := some_of h
      exact ⟨(), Weak.mkL [] (by decide) trivial ⟨tm Z, trivial⟩⟩
     ·replace h := ite_fb hb37 h
      refine aops_known 31 Z hb37 (xn Z Z Z (xn Z Z Z (xn Z Z Z (xn Z Z Z (xn Z Z Z (xa (.bool false) Z (pu_pick (b := false) Z (tm Z) (fun h => nomatch h) (fun _ => (AEv.bool _))) (xm Z Z Z (xe ?_))))))))
      obtain rfl := some_of h
      exact ⟨(), Weak.mkL [] (by decide) trivial ⟨tm Z, trivial⟩⟩
    ·replace h := ite_fb hb35 h
     refine aops_known 24 Z hb35 (xn Z Z Z (xn Z Z Z (xn Z Z Z (xn Z Z Z (xn Z Z Z (xa (.bool false) Z (pu_pick (b := false) Z (tm Z) (fun h => nomatch h) (fun _ => (AEv.bool _))) (xm Z Z Z (xn Z Z Z (xn Z Z Z ?_)))))))))
     refine xn Z Z Z (xn Z Z Z (xn Z Z Z (xa (.bool false) Z (pu_pick (b := false) Z (tm Z) (fun h => nomatch h) (fun _ => (AEv.bool _))) (xm Z Z Z (xe ?_)))))
     obtain rfl := some_of h
     exact ⟨(), Weak.mkL [] (by decide) trivial ⟨tm Z, trivial⟩⟩
   ·replace h := ite_f (dec_f hb33) h
    refine aops_known 17 Z hb33 (xn Z Z Z (xn Z Z Z (xn Z Z Z (xn Z Z Z (xn Z Z Z (xa (.bool false) Z (pu_pick (b := false) Z (tm Z) (fun h => nomatch h) (fun _ => (AEv.bool _))) (xm Z Z Z (xn Z Z Z (xn Z Z Z ?_)))))))))
    refine xn Z Z Z (xn Z Z Z (xn Z Z Z (xa (.bool false) Z (pu_pick (b := false) Z (tm Z) (fun h => nomatch h) (fun _ => (AEv.bool _))) (xm Z Z Z (xn Z Z Z (xn Z Z Z (xn Z Z Z (xn Z Z Z (xn Z Z Z ?_)))))))))
    refine xa (.bool false) Z (pu_pick (b := false) Z (tm Z) (fun h => nomatch h) (fun _ => (AEv.bool _))) (xm Z Z Z (xe ?_))
    obtain rfl := some_of h
    exact ⟨(), Weak.mkL [] (by decide) trivial ⟨tm Z, trivial⟩⟩
  ·replace h := ite_f (dec_f hb32) h
   refine aops_known 10 Z hb32 (xn Z Z Z (xn Z Z Z (xn Z Z Z (xn Z Z Z (xn Z Z Z (xa (.bool false) Z (pu_pick (b := false) Z (tm Z) (fun h => nomatch h) (fun _ => (AEv.bool _))) (xm Z Z Z (xn Z Z Z (xn Z Z Z ?_)))))))))
   refine xn Z Z Z (xn Z Z Z (xn Z Z Z (xa (.bool false) Z (pu_pick (b := false) Z (tm Z) (fun h => nomatch h) (fun _ => (AEv.bool _))) (xm Z Z Z (xn Z Z Z (xn Z Z Z (xn Z Z Z (xn Z Z Z (xn Z Z Z ?_)))))))))
   refine xa (.bool false) Z (pu_pick (b := false) Z (tm Z) (fun h => nomatch h) (fun _ => (AEv.bool _))) (xm Z Z Z (xn Z Z Z (xn Z Z Z (xn Z Z Z (xn Z Z Z (xn Z Z Z (xa (.bool false) Z (pu_pick (b := false) Z (tm Z) (fun h => nomatch h) (fun _ => (AEv.bool _))) (xm Z Z Z (xe ?_)))))))))
   obtain rfl := some_of h
   exact ⟨(), Weak.mkL [] (by decide) trivial ⟨tm Z, trivial⟩⟩
 ·intro _
  have h := h30
  refine aw_ret ?_
  obtain rfl := some_of h
  exact ⟨[.bool s29], _, [], ⟨(tm Z), trivial⟩, vr, Weak.mkL [] (by decide) trivial trivial, ⟨Z, Z⟩⟩

theorem charge.May.ok {v_ : api.Value} {r : Bool} (h : charge.May v_ = some r) : Go.Lift.Spec prog 19 [.agg (api.Value.ct .no .no .no v_)] [] (fun v H => v = .bool r ∧ H = []) := by
 unfold charge.May at h
 refine Go.Lift.Spec.of_body (rs := [.tmp 2]) func19 Z Z (nb Z) Z (xr (xc Z (op_box (cs := (api.Value.ct .no .no .no v_)) (v := .agg (api.Value.ct .no .no .no v_)) Z (tm Z) Z Z ?_)))
 intro p39
 refine xa (.bool false) Z (pu_assign Z (AEv.bool _)) (xe (xr (xc Z (op_loadN (i := 0) Z isAgg26 sizeOf26 (tm Z) Z (nb Z) Z (xc Z (op_alloc (cs := (api.Value.ct .full .full .full ({ Kind := 0, Text := ([] : List UInt8), List_ := ([] : List (List UInt8)), Hash := ([] : List api.Field), ZSet := ([] : List api.Scored) } : api.Value))) (v := .agg (api.Value.ct .full .full .full ({ Kind := 0, Text := ([] : List UInt8), List_ := ([] : List (List UInt8)), Hash := ([] : List api.Field), ZSet := ([] : List api.Scored) } : api.Value))) Z zeroValue26 Z Z Z ?_))))))
 intro p40
 refine ac0 Z Z (op_store (i := 0) (cs' := (api.Value.ct .no .no .no v_)) Z sizeOf26 (tm Z) (v := .agg (api.Value.ct .no .no .no v_)) (tm Z) Z Z Z (nb Z) Z (xe (xr (xa (.bool false) Z (pu_assign Z (AEv.bool _)) (xe ?_)))))
 obtain ⟨s54, s54e, h55⟩ := bind_some h
 refine aw_meet (ν := Unit) (fun v => [(3, .ptr p40 0), (4, .bool s54.1)]) (fun v => [(p40, .cells (api.Value.ct .no .no .no ({ Kind := 0, Text := s54.2.1, List_ := s54.2.2.1, Hash := s54.2.2.2.1, ZSet := s54.2.2.2.2 } : api.Value)))]) ?_ ?_
 ·have h := s54e
  refine xr (xa (.ptr p40 0) Z (fa Z underlying26 Z sizeOf3 Z Z Z) (ac0 Z Z (op_store (i := 0) (cs' := (api.Value.ct .no .no .no { v_ with Kind := 0 })) Z sizeOf3 (tm Z) (v := .i 0) (AEv.int _ _) Z Z Z (nb Z) Z (xe (xr (xa (.ptr p39 0) Z (fa Z underlying26 Z sizeOf3 Z Z Z) (xc Z (op_load1 (i := 1) Z isAgg3 (tm Z) Z Z (xe ?_)))))))))
  refine aw_block (xr (xa (.bool (decide (v_.Kind = 1))) Z (pu_int (v := .bool (decide (v_.Kind = 1))) Z Z (tm Z) (AEv.int _ _) Z) (xm Z Z Z (xe (aw_cond (b := decide (v_.Kind = 1)) (tm Z) (fun hb69 => ?_) (fun hb69 => ?_))))))
  ·replace h := ite_t (dec_t hb69) h
   refine aw_region (xa (.ptr p40 1) Z (fa Z underlying26 Z sizeOf9 Z Z Z) (ac0 Z Z (op_store (i := 0) (cs' := (api.Value.ct .no .no .no { v_ with Kind := 0, Text := ([] : List UInt8) })) Z sizeOf9 (tm Z) (v := .str ([] : List UInt8)) (AEv.const Z) Z Z Z (nb Z) Z (xa (.bool true) Z (pu_assign Z (AEv.bool _)) (xe ?_)))))
   obtain rfl := some_of h
   exact ⟨(), Weak.mkL [0] (by decide) ⟨⟨_, Z, cr, Z⟩, trivial⟩ ⟨tm Z, tm Z, trivial⟩⟩
  ·replace h := ite_f (dec_f hb69) h
   refine xr (xa (.bool (decide (v_.Kind = 2))) Z (pu_int (v := .bool (decide (v_.Kind = 2))) Z Z (tm Z) (AEv.int _ _) Z) (xm Z Z Z (xe (aw_cond (b := decide (v_.Kind = 2)) (tm Z) (fun hb68 => ?_) (fun hb68 => ?_)))))
   ·replace h := ite_t (dec_t hb68) h
    refine aw_planR (by decide +kernel) [[], [(1, 0, false)], [], [], [], [(0, 0, true)], []] [[5], []] [[[(p40, .cells (api.Value.ct .no .no .no { v_ with Kind := 0 }))], [(p40, .cells (api.Value.ct .full .no .no { v_ with Kind := 0, List_ := ([] : List (List UInt8)) }))]], [[(p39, .cells (api.Value.ct .no .no .no v_))]]] [.ptr p39 2, .sl .no 1 (v_.List_.map AV.str), .i (v_.List_.length : Int), .bool (decide (0 < (v_.List_.length : Int))), .ptr p40 2, .un, .bool (decide (0 < (v_.List_.length : Int)))] (by decide +kernel) Z Z ?_ ?_
    ·exact ⟨yp Z (fa Z underlying26 Z sizeOf22 Z Z Z), stepg_plain Z (op_load1 (i := 0) Z isAgg22 (tm Z) Z Z ⟨Z, Z⟩), yp Z (pu_lenM Z underlying22 (tm Z)), yp Z (pu_int (v := .bool (decide (0 < (v_.List_.length : Int)))) Z Z (tm Z) (AEv.int _ _) Z), yp Z (fa Z underlying26 Z sizeOf22 Z Z Z), stepg_plain Z (op_store (i := 0) (cs' := (api.Value.ct .full .no .no { v_ with Kind := 0, List_ := ([] : List (List UInt8)) })) Z sizeOf22 (tm Z) (v := .sl .full 1 (([] : List (List UInt8)).map AV.str)) (AEv.nil 1 (by decide)) Z Z Z (nb Z) Z ⟨Z, Z⟩), ym Z Z Z, trivial⟩
    obtain rfl := some_of h
    exact ⟨(), Weak.mkL [0] (by decide) ⟨⟨_, Z, ⟨vr, vr, (AV.Le.forget _ _ _), vr, vr, trivial⟩, Z⟩, trivial⟩ ⟨tm Z, (AEv.le (tm Z) vr), trivial⟩⟩
   ·replace h := ite_f (dec_f hb68) h
    refine xr (xa (.bool (decide (v_.Kind = 4))) Z (pu_int (v := .bool (decide (v_.Kind = 4))) Z Z (tm Z) (AEv.int _ _) Z) (xm Z Z Z (xe (aw_cond (b := decide (v_.Kind = 4)) (tm Z) (fun hb67 => ?_) (fun hb67 => ?_)))))
    ·replace h := ite_t (dec_t hb67) h
     refine aw_region (xa (.ptr p39 2) Z (fa Z underlying26 Z sizeOf22 Z Z Z) (xc Z (op_load1 (i := 1) Z isAgg22 (tm Z) Z Z (xa (.i (v_.List_.length : Int)) Z (pu_lenM Z underlying22 (tm Z)) (xa (.bool (decide (0 < (v_.List_.length : Int)))) Z (pu_int (v := .bool (decide (0 < (v_.List_.length : Int)))) Z Z (tm Z) (AEv.int _ _) Z) (xm Z Z Z ?_))))))
     rcases Bool.eq_false_or_eq_true (decide (0 < (v_.List_.length : Int))) with hb57 | hb57
     ·replace h := ite_t (dec_t hb57) h
      refine aops_known 25 Z hb57 (xp (.ptr p39 2) Z Z (fa Z underlying26 Z sizeOf22 Z Z Z) (xg Z Z (op_load1 (i := 1) Z isAgg22 (tm Z) Z Z (xp (.i (v_.List_.length : Int)) Z Z (pu_lenM Z underlying22 (tm Z)) (xp (.fn 48 [.ptr p39 0]) Z Z (pu_makeFunc Z ⟨(tm Z), trivial⟩) ?_)))))
      obtain ⟨r58, r58e, h⟩ := bind_some h
      refine aops_weak (weak_pick [1, 0] (by decide) Z) (xg Z Z (op_call (vs := [.i (v_.List_.length : Int), .fn 48 [.ptr p39 0]]) (H := [(p39, .cells (api.Value.ct .no .no .no v_))]) Z call47 ⟨(tm Z), (tm Z), trivial⟩ (List.Perm.refl _) (charge.rises_charge_May_1.ok r58e p39) ?_))
      rintro _ _ ⟨rfl, rfl⟩
      refine xa (.bool r58) Z (pu_pick (b := true) Z (tm Z) (fun _ => (tm Z)) (fun h => nomatch h)) (xa (.ptr p40 2) Z (fa Z underlying26 Z sizeOf22 Z Z Z) (ac0 Z Z (op_store (i := 1) (cs' := (api.Value.ct .full .no .no { v_ with Kind := 0, List_ := ([] : List (List UInt8)) })) Z sizeOf22 (tm Z) (v := .sl .full 1 (([] : List (List UInt8)).map AV.str)) (AEv.nil 1 (by decide)) Z Z Z (nb Z) Z (xm Z Z Z (xe ?_)))))
      obtain rfl := some_of h
      exact ⟨(), Weak.mkL [1] (by decide) ⟨⟨_, Z, ⟨vr, vr, (AV.Le.forget _ _ _), vr, vr, trivial⟩, Z⟩, trivial⟩ ⟨tm Z, tm Z, trivial⟩⟩
     ·replace h := ite_f (dec_f hb57) h
      refine aops_known 25 Z hb57 (xn Z Z Z (xn Z Z Z (xn Z Z Z (xn Z Z Z (xn Z Z Z (xa (.bool false) Z (pu_pick (b := false) Z (tm Z) (fun h => nomatch h) (fun _ => (AEv.bool _))) (xa (.ptr p40 2) Z (fa Z underlying26 Z sizeOf22 Z Z Z) (ac0 Z Z (op_store (i := 0) (cs' := (api.Value.ct .full .no .no { v_ with Kind := 0, List_ := ([] : List (List UInt8)) })) Z sizeOf22 (tm Z) (v := .sl .full 1 (([] : List (List UInt8)).map AV.str)) (AEv.nil 1 (by decide)) Z Z Z (nb Z) Z (xm Z Z Z ?_))))))))))
      refine xe ?_
      obtain rfl := some_of h
      exact ⟨(), Weak.mkL [0] (by decide) ⟨⟨_, Z, ⟨vr, vr, (AV.Le.forget _ _ _), vr, vr, trivial⟩, Z⟩, trivial⟩ ⟨tm Z, tm Z, trivial⟩⟩
    ·replace h := ite_f (dec_f hb67) h
     refine xr (xa (.bool (decide (v_.Kind = 3))) Z (pu_int (v := .bool (decide (v_.Kind = 3))) Z Z (tm Z) (AEv.int _ _) Z) (xm Z Z Z (xe (aw_cond (b := decide (v_.Kind = 3)) (tm Z) (fun hb66 => ?_) (fun hb66 => ?_)))))
     ·replace h := ite_t (dec_t hb66) h
      refine aw_region (xa (.ptr p39 3) Z (fa Z underlying26 Z sizeOf23 Z Z Z) (xc Z (op_load1 (i := 1) Z isAgg23 (tm Z) Z Z (xa (.i (v_.Hash.length : Int)) Z (pu_lenM Z underlying23 (tm Z)) (xa (.bool (decide (0 < (v_.Hash.length : Int)))) Z (pu_int (v := .bool (decide (0 < (v_.Hash.length : Int)))) Z Z (tm Z) (AEv.int _ _) Z) (xm Z Z Z ?_))))))
      rcases Bool.eq_false_or_eq_true (decide (0 < (v_.Hash.length : Int))) with hb59 | hb59
      ·replace h := ite_t (dec_t hb59) h
       refine aops_known 39 Z hb59 (xp (.ptr p39 3) Z Z (fa Z underlying26 Z sizeOf23 Z Z Z) (xg Z Z (op_load1 (i := 1) Z isAgg23 (tm Z) Z Z (xp (.i (v_.Hash.length : Int)) Z Z (pu_lenM Z underlying23 (tm Z)) (xp (.fn 49 [.ptr p39 0]) Z Z (pu_makeFunc Z ⟨(tm Z), trivial⟩) ?_)))))
       obtain ⟨r60, r60e, h⟩ := bind_some h
       refine aops_weak (weak_pick [1, 0] (by decide) Z) (xg Z Z (op_call (vs := [.i (v_.Hash.length : Int), .fn 49 [.ptr p39 0]]) (H := [(p39, .cells (api.Value.ct .no .no .no v_))]) Z call47 ⟨(tm Z), (tm Z), trivial⟩ (List.Perm.refl _) (charge.rises_charge_May_2.ok r60e p39) ?_))
       rintro _ _ ⟨rfl, rfl⟩
       refine xa (.bool r60) Z (pu_pick (b := true) Z (tm Z) (fun _ => (tm Z)) (fun h => nomatch h)) (xa (.ptr p40 3) Z (fa Z underlying26 Z sizeOf23 Z Z Z) (ac0 Z Z (op_store (i := 1) (cs' := (api.Value.ct .no .full .no { v_ with Kind := 0, Hash := ([] : List api.Field) })) Z sizeOf23 (tm Z) (v := .sl .full 2 (([] : List api.Field).map api.Field.av)) (AEv.nil 2 (by decide)) Z Z Z (nb Z) Z (xm Z Z Z (xe ?_)))))
       obtain rfl := some_of h
       exact ⟨(), Weak.mkL [1] (by decide) ⟨⟨_, Z, ⟨vr, vr, vr, (AV.Le.forget _ _ _), vr, trivial⟩, Z⟩, trivial⟩ ⟨tm Z, tm Z, trivial⟩⟩
      ·replace h := ite_f (dec_f hb59) h
       refine aops_known 39 Z hb59 (xn Z Z Z (xn Z Z Z (xn Z Z Z (xn Z Z Z (xn Z Z Z (xa (.bool false) Z (pu_pick (b := false) Z (tm Z) (fun h => nomatch h) (fun _ => (AEv.bool _))) (xa (.ptr p40 3) Z (fa Z underlying26 Z sizeOf23 Z Z Z) (ac0 Z Z (op_store (i := 0) (cs' := (api.Value.ct .no .full .no { v_ with Kind := 0, Hash := ([] : List api.Field) })) Z sizeOf23 (tm Z) (v := .sl .full 2 (([] : List api.Field).map api.Field.av)) (AEv.nil 2 (by decide)) Z Z Z (nb Z) Z (xm Z Z Z ?_))))))))))
       refine xe ?_
       obtain rfl := some_of h
       exact ⟨(), Weak.mkL [0] (by decide) ⟨⟨_, Z, ⟨vr, vr, vr, (AV.Le.forget _ _ _), vr, trivial⟩, Z⟩, trivial⟩ ⟨tm Z, tm Z, trivial⟩⟩
     ·replace h := ite_f (dec_f hb66) h
      refine xr (xa (.bool (decide (v_.Kind = 5))) Z (pu_int (v := .bool (decide (v_.Kind = 5))) Z Z (tm Z) (AEv.int _ _) Z) (xm Z Z Z (xe (aw_cond (b := decide (v_.Kind = 5)) (tm Z) (fun hb65 => ?_) (fun hb65 => ?_)))))
      ·replace h := ite_t (dec_t hb65) h
       refine aw_region (xa (.ptr p39 4) Z (fa Z underlying26 Z sizeOf24 Z Z Z) (xc Z (op_load1 (i := 1) Z isAgg24 (tm Z) Z Z (xa (.i (v_.ZSet.length : Int)) Z (pu_lenM Z underlying24 (tm Z)) (xa (.bool (decide (0 < (v_.ZSet.length : Int)))) Z (pu_int (v := .bool (decide (0 < (v_.ZSet.length : Int)))) Z Z (tm Z) (AEv.int _ _) Z) (xm Z Z Z ?_))))))
       rcases Bool.eq_false_or_eq_true (decide (0 < (v_.ZSet.length : Int))) with hb61 | hb61
       ·replace h := ite_t (dec_t hb61) h
        refine aops_known 53 Z hb61 (xp (.ptr p39 4) Z Z (fa Z underlying26 Z sizeOf24 Z Z Z) (xg Z Z (op_load1 (i := 1) Z isAgg24 (tm Z) Z Z (xp (.i (v_.ZSet.length : Int)) Z Z (pu_lenM Z underlying24 (tm Z)) (xp (.fn 50 [.ptr p39 0]) Z Z (pu_makeFunc Z ⟨(tm Z), trivial⟩) ?_)))))
        obtain ⟨r62, r62e, h⟩ := bind_some h
        refine aops_weak (weak_pick [1, 0] (by decide) Z) (xg Z Z (op_call (vs := [.i (v_.ZSet.length : Int), .fn 50 [.ptr p39 0]]) (H := [(p39, .cells (api.Value.ct .no .no .no v_))]) Z call47 ⟨(tm Z), (tm Z), trivial⟩ (List.Perm.refl _) (charge.rises_charge_May_3.ok r62e p39) ?_))
        rintro _ _ ⟨rfl, rfl⟩
        refine xa (.bool r62) Z (pu_pick (b := true) Z (tm Z) (fun _ => (tm Z)) (fun h => nomatch h)) (xm Z Z Z ?_)
        rcases Bool.eq_false_or_eq_true r62 with hb63 | hb63
        ·replace h := ite_t hb63 h
         refine aops_known 60 Z hb63 (xp (.ptr p39 4) Z Z (fa Z underlying26 Z sizeOf24 Z Z Z) (xg Z Z (op_load1 (i := 0) Z isAgg24 (tm Z) Z Z ?_)))
         obtain ⟨r64, r64e, h⟩ := bind_some h
         refine xg Z Z (op_call (vs := [.sl .no 2 (v_.ZSet.map api.Scored.av)]) (H := []) Z call51 ⟨(tm Z), trivial⟩ (List.Perm.refl _) (charge.once.ok r64e) ?_)
         rintro _ _ ⟨rfl, rfl⟩
         refine xa (.bool r64) Z (pu_pick (b := true) Z (tm Z) (fun _ => (tm Z)) (fun h => nomatch h)) (xa (.ptr p40 4) Z (fa Z underlying26 Z sizeOf24 Z Z Z) (ac0 Z Z (op_store (i := 1) (cs' := (api.Value.ct .no .no .full { v_ with Kind := 0, ZSet := ([] : List api.Scored) })) Z sizeOf24 (tm Z) (v := .sl .full 2 (([] : List api.Scored).map api.Scored.av)) (AEv.nil 2 (by decide)) Z Z Z (nb Z) Z (xm Z Z Z (xe ?_)))))
         obtain rfl := some_of h
         exact ⟨(), Weak.mkL [1] (by decide) ⟨⟨_, Z, ⟨vr, vr, vr, vr, (AV.Le.forget _ _ _), trivial⟩, Z⟩, trivial⟩ ⟨tm Z, tm Z, trivial⟩⟩
        ·replace h := ite_fb hb63 h
         refine aops_known 60 Z hb63 (xn Z Z Z (xn Z Z Z (xn Z Z Z (xa (.bool false) Z (pu_pick (b := false) Z (tm Z) (fun h => nomatch h) (fun _ => (AEv.bool _))) (xa (.ptr p40 4) Z (fa Z underlying26 Z sizeOf24 Z Z Z) (ac0 Z Z (op_store (i := 1) (cs' := (api.Value.ct .no .no .full { v_ with Kind := 0, ZSet := ([] : List api.Scored) })) Z sizeOf24 (tm Z) (v := .sl .full 2 (([] : List api.Scored).map api.Scored.av)) (AEv.nil 2 (by decide)) Z Z Z (nb Z) Z (xm Z Z Z (xe ?_)))))))))
         obtain rfl := some_of h
         exact ⟨(), Weak.mkL [1] (by decide) ⟨⟨_, Z, ⟨vr, vr, vr, vr, (AV.Le.forget _ _ _), trivial⟩, Z⟩, trivial⟩ ⟨tm Z, tm Z, trivial⟩⟩
       ·replace h := ite_f (dec_f hb61) h
        refine aops_known 53 Z hb61 (xn Z Z Z (xn Z Z Z (xn Z Z Z (xn Z Z Z (xn Z Z Z (xa (.bool false) Z (pu_pick (b := false) Z (tm Z) (fun h => nomatch h) (fun _ => (AEv.bool _))) (xm Z Z Z (xn Z Z Z (xn Z Z Z ?_)))))))))
        refine xn Z Z Z (xa (.bool false) Z (pu_pick (b := false) Z (tm Z) (fun h => nomatch h) (fun _ => (AEv.bool _))) (xa (.ptr p40 4) Z (fa Z underlying26 Z sizeOf24 Z Z Z) (ac0 Z Z (op_store (i := 0) (cs' := (api.Value.ct .no .no .full { v_ with Kind := 0, ZSet := ([] : List api.Scored) })) Z sizeOf24 (tm Z) (v := .sl .full 2 (([] : List api.Scored).map api.Scored.av)) (AEv.nil 2 (by decide)) Z Z Z (nb Z) Z (xm Z Z Z (xe ?_))))))
        obtain rfl := some_of h
        exact ⟨(), Weak.mkL [0] (by decide) ⟨⟨_, Z, ⟨vr, vr, vr, vr, (AV.Le.forget _ _ _), trivial⟩, Z⟩, trivial⟩ ⟨tm Z, tm Z, trivial⟩⟩
      ·replace h := ite_f (dec_f hb65) h
       refine aw_skip ?_
       obtain rfl := some_of h
       exact ⟨(), Weak.mkL [0] (by decide) ⟨⟨_, Z, cr, Z⟩, trivial⟩ ⟨tm Z, tm Z, trivial⟩⟩
 ·intro _
  have h := h55
  obtain ⟨s72, s72e, h73⟩ := bind_some h
  refine aw_meet (ν := Unit) (fun v => [(2, .bool s72)]) (fun v => []) ?_ ?_
  ·have h := s72e
   refine aw_region (xm Z Z Z (xm Z Z Z ?_))
   rcases Bool.eq_false_or_eq_true s54.1 with hb75 | hb75
   ·replace h := ite_t hb75 h
    refine aops_known 67 Z hb75 (xg Z Z (op_loadN (i := 0) Z isAgg26 sizeOf26 (tm Z) Z (nb Z) Z (xp (.agg (api.Value.ct .full .full .full ({ Kind := 0, Text := ([] : List UInt8), List_ := ([] : List (List UInt8)), Hash := ([] : List api.Field), ZSet := ([] : List api.Scored) } : api.Value))) Z Z (pu_build (zs := [.i 0, .str ([] : List UInt8), .sl .full 1 (([] : List (List UInt8)).map AV.str), .sl .full 2 (([] : List api.Field).map api.Field.av), .sl .full 2 (([] : List api.Scored).map api.Scored.av)]) (szs := [1, 1, 1, 1, 1]) (aparts := []) (cs := [.i 0, .str ([] : List UInt8), .sl .full 1 (([] : List (List UInt8)).map AV.str), .sl .full 2 (([] : List api.Field).map api.Field.av), .sl .full 2 (([] : List api.Scored).map api.Scored.av)]) Z underlying26 zeroValue26 Z ⟨sizeOf3, sizeOf9, sizeOf22, sizeOf23, sizeOf24, trivial⟩ trivial Z) ?_)))
    obtain ⟨r76, r76e, h⟩ := bind_some h
    refine xg Z Z (op_call (vs := [.agg (api.Value.ct .no .no .no ({ Kind := 0, Text := s54.2.1, List_ := s54.2.2.1, Hash := s54.2.2.2.1, ZSet := s54.2.2.2.2 } : api.Value)), .agg (api.Value.ct .no .no .no ({ Kind := 0, Text := ([] : List UInt8), List_ := ([] : List (List UInt8)), Hash := ([] : List api.Field), ZSet := ([] : List api.Scored) } : api.Value))]) (H := []) Z call52 ⟨(tm Z), (AEv.le (tm Z) (AV.Le.agg ⟨vr, vr, (AV.Le.forget _ _ _), (AV.Le.forget _ _ _), (AV.Le.forget _ _ _), trivial⟩)), trivial⟩ (List.Perm.refl _) (charge.Same.ok r76e) ?_)
    rintro _ _ ⟨rfl, rfl⟩
    refine xa (.bool r76) Z (pu_pick (b := true) Z (tm Z) (fun _ => (tm Z)) (fun h => nomatch h)) (xm Z Z Z (xe ?_))
    obtain rfl := some_of h
    exact ⟨(), Weak.mkL [] (by decide) trivial ⟨tm Z, trivial⟩⟩
   ·replace h := ite_fb hb75 h
    refine aops_known 67 Z hb75 (xn Z Z Z (xn Z Z Z (xn Z Z Z (xa (.bool false) Z (pu_pick (b := false) Z (tm Z) (fun h => nomatch h) (fun _ => (AEv.bool _))) (xm Z Z Z (xe ?_))))))
    obtain rfl := some_of h
    exact ⟨(), Weak.mkL [] (by decide) trivial ⟨tm Z, trivial⟩⟩
  ·intro _
   have h := h73
   refine aw_ret ?_
   obtain rfl := some_of h
   exact ⟨[.bool s72], _, [], ⟨(tm Z), trivial⟩, vr, Weak.mkL [] (by decide) trivial trivial, ⟨Z, Z⟩⟩

theorem charge.Name.ok {kind : Int} {r : List UInt8} (h : charge.Name kind = some r) : Go.Lift.Spec prog 20 [.i kind] [] (fun v H => v = .str r ∧ H = []) := by
 unfold charge.Name at h
 refine Go.Lift.Spec.of_body (rs := [.tmp 2]) func20 Z Z (nb Z) Z (xr (xa (.str ([] : List UInt8)) Z (pu_assign Z (AEv.const Z)) (xe (xr (xa (.agg [.str [110, 111, 110, 101], .str [115, 116, 114, 105, 110, 103], .str [108, 105, 115, 116], .str [104, 97, 115, 104], .str [115, 101, 116], .str [122, 115, 101, 116]]) Z (pu_buildArr (zs := [.str ([] : List UInt8), .str ([] : List UInt8), .str ([] : List UInt8), .str ([] : List UInt8), .str ([] : List UInt8), .str ([] : List UInt8)]) (aparts := [(0, .str [110, 111, 110, 101]), (1, .str [115, 116, 114, 105, 110, 103]), (2, .str [108, 105, 115, 116]), (3, .str [104, 97, 115, 104]), (4, .str [115, 101, 116]), (5, .str [122, 115, 101, 116])]) (cs := [.str [110, 111, 110, 101], .str [115, 116, 114, 105, 110, 103], .str [108, 105, 115, 116], .str [104, 97, 115, 104], .str [115, 101, 116], .str [122, 115, 101, 116]]) Z underlying75 sizeOf9 zeroValue75 Z ⟨Z, (AEv.const Z), ⟨Z, (AEv.const Z), ⟨Z, (AEv.const Z), ⟨Z, (AEv.const Z), ⟨Z, (AEv.const Z), ⟨Z, (AEv.const Z), trivial⟩⟩⟩⟩⟩⟩ Z) (xc Z (op_allocArr (len := 6) (sz := 1) (zs := [.str ([] : List UInt8), .str ([] : List UInt8), .str ([] : List UInt8), .str ([] : List UInt8), .str ([] : List UInt8), .str ([] : List UInt8)]) AV.str (([] : List UInt8) : List UInt8) Z zeroValue75 Z Z Z (by decide) Z ?_)))))))
 intro p11
 refine ac0 Z Z (op_storeArr (i := 0) (f := AV.str) (ys := ([[110, 111, 110, 101], [115, 116, 114, 105, 110, 103], [108, 105, 115, 116], [104, 97, 115, 104], [115, 101, 116], [122, 115, 101, 116]] : List (List UInt8))) Z sizeOf75 (tm Z) (v := .agg [.str [110, 111, 110, 101], .str [115, 116, 114, 105, 110, 103], .str [108, 105, 115, 116], .str [104, 97, 115, 104], .str [115, 101, 116], .str [122, 115, 101, 116]]) (tm Z) Z Z Z Z (by decide) (fun _ => Z) (fun _ => Z) (xe (aw_seq ?_)))
 obtain ⟨s13, s13e, h14⟩ := letO_of h
 refine aw_meet (ν := Unit) (fun v => [(0, .i kind), (3, .eptr p11 0 0), (10, .bool s13)]) (fun v => [(p11, .vec 1 (([[110, 111, 110, 101], [115, 116, 114, 105, 110, 103], [108, 105, 115, 116], [104, 97, 115, 104], [115, 101, 116], [122, 115, 101, 116]] : List (List UInt8)).map AV.str))]) ?_ ?_
 ·have h := s13e.symm
  refine aw_region (xm Z Z Z (xa (.bool (decide (kind < 0))) Z (pu_int (v := .bool (decide (kind < 0))) Z Z (tm Z) (AEv.int _ _) Z) (xm Z Z Z ?_)))
  rcases Bool.eq_false_or_eq_true (decide (kind < 0)) with hb16 | hb16
  ·replace h := ite_t (dec_t hb16) h
   refine aops_known 7 Z hb16 (xn Z Z Z (xn Z Z Z (xa (.bool true) Z (pu_pick (b := true) Z (tm Z) (fun _ => (AEv.bool _)) (fun h => nomatch h)) (xe ?_))))
   subst h
   exact ⟨(), Weak.mkL [0] (by decide) ⟨⟨_, Z, Z⟩, trivial⟩ ⟨tm Z, tm Z, tm Z, trivial⟩⟩
  ·replace h := ite_f (dec_f hb16) h
   refine aops_known 7 Z hb16 (xq Z Z Z Z (xp (.bool (decide (6 ≤ kind))) Z Z (pu_int (v := .bool (decide (6 ≤ kind))) Z Z (tm Z) (AEv.int _ _) Z) (xa (.bool (decide (6 ≤ kind))) Z (pu_pick (b := false) Z (tm Z) (fun h => nomatch h) (fun _ => (tm Z))) (xe ?_))))
   subst h
   exact ⟨(), Weak.mkL [0] (by decide) ⟨⟨_, Z, Z⟩, trivial⟩ ⟨tm Z, tm Z, (AEv.le (tm Z) vr), trivial⟩⟩
 ·intro _
  have h := h14
  refine aw_cond (b := s13) (tm Z) (fun hb20 => ?_) (fun hb20 => ?_)
  ·replace h := ite_t hb20 h
   refine xr (xa (.str ([] : List UInt8)) Z (pu_assign Z (AEv.const Z)) (xe (aw_ret ?_)))
   obtain rfl := some_of h
   exact ⟨[.str ([] : List UInt8)], _, [], ⟨(tm Z), trivial⟩, vr, Weak.mkL [] (by decide) trivial trivial, ⟨Z, Z⟩⟩
  ·replace h := ite_fb hb20 h
   refine aw_skip (xr (xm Z Z Z ?_))
   obtain ⟨c17, h⟩ := need_of h
   obtain ⟨c18, h⟩ := need_of h
   refine xc Z (op_indexAddrArr (len := 6) (j := 0) Z underlying75 sizeOf9 (tm Z) Z (tm Z) c18 c17 ?_)
   obtain ⟨c19, h⟩ := need_of h
   refine xc Z (op_loadE1M (i := 0) (sz := 1) Z isAgg9 (tm Z) Z c19 (by decide) Z (xm Z Z Z (xe (aw_ret ?_))))
   obtain rfl := some_of h
   exact ⟨[.str (ix ([[110, 111, 110, 101], [115, 116, 114, 105, 110, 103], [108, 105, 115, 116], [104, 97, 115, 104], [115, 101, 116], [122, 115, 101, 116]] : List (List UInt8)) kind)], _, [], ⟨(tm Z), trivial⟩, vr, Weak.mkL [] (by decide) trivial trivial, ⟨Z, Z⟩⟩

theorem mewslaw19.alive.ok  {r : Bool} (h : mewslaw19.alive = some r) : Go.Lift.Spec prog 5 [] [] (fun v H => v = .bool r ∧ H = []) := by
 unfold mewslaw19.alive at h
 refine Go.Lift.Spec.of_body (rs := [.tmp 0]) func5 Z Z (nb Z) Z (xr (xa (.bool false) Z (pu_assign Z (AEv.bool _)) (xe (aw_seq (aw_region ?_)))))
 obtain ⟨r27, r27e, h⟩ := bind_some h
 refine xc Z (op_call (vs := [.str [98, 99]]) (H := []) Z call16 ⟨(AEv.const Z), trivial⟩ (List.Perm.refl _) (charge.Text.ok r27e) ?_)
 rintro _ _ ⟨rfl, rfl⟩
 refine xa (.agg (api.Entry.ct .full .full .full ({ Key := [97], Val := r27, At := 0 } : api.Entry))) Z (pu_build (zs := [.str ([] : List UInt8), .i 0, .str ([] : List UInt8), .sl .full 1 (([] : List (List UInt8)).map AV.str), .sl .full 2 (([] : List api.Field).map api.Field.av), .sl .full 2 (([] : List api.Scored).map api.Scored.av), .i 0]) (szs := [1, 5, 1]) (aparts := [(0, .str [97]), (1, .agg (api.Value.ct .full .full .full r27))]) (cs := [.str [97], .i r27.Kind, .str r27.Text, .sl .full 1 (r27.List_.map AV.str), .sl .full 2 (r27.Hash.map api.Field.av), .sl .full 2 (r27.ZSet.map api.Scored.av), .i 0]) Z underlying41 zeroValue41 Z ⟨sizeOf9, sizeOf26, sizeOf2, trivial⟩ ⟨Z, (AEv.const Z), ⟨Z, (tm Z), trivial⟩⟩ Z) (xc Z (op_alloc (cs := [.str ([] : List UInt8), .i 0, .str ([] : List UInt8), .sl .full 1 (([] : List (List UInt8)).map AV.str), .sl .full 2 (([] : List api.Field).map api.Field.av), .sl .full 2 (([] : List api.Scored).map api.Scored.av), .i 0]) (v := .agg [.str ([] : List UInt8), .i 0, .str ([] : List UInt8), .sl .full 1 (([] : List (List UInt8)).map AV.str), .sl .full 2 (([] : List api.Field).map api.Field.av), .sl .full 2 (([] : List api.Scored).map api.Scored.av), .i 0]) Z zeroValue41 Z Z Z ?_))
 intro p28
 refine ac0 Z Z (op_store (i := 0) (cs' := (api.Entry.ct .full .full .full ({ Key := [97], Val := r27, At := 0 } : api.Entry))) Z sizeOf41 (tm Z) (v := .agg (api.Entry.ct .full .full .full ({ Key := [97], Val := r27, At := 0 } : api.Entry))) (tm Z) Z Z Z (nb Z) Z (xe (xr (xc Z (op_loadN (i := 0) Z isAgg41 sizeOf41 (tm Z) Z (nb Z) Z (xc Z (op_alloc (cs := [.str ([] : List UInt8), .i 0, .str ([] : List UInt8), .sl .full 1 (([] : List (List UInt8)).map AV.str), .sl .full 2 (([] : List api.Field).map api.Field.av), .sl .full 2 (([] : List api.Scored).map api.Scored.av), .i 0]) (v := .agg [.str ([] : List UInt8), .i 0, .str ([] : List UInt8), .sl .full 1 (([] : List (List UInt8)).map AV.str), .sl .full 2 (([] : List api.Field).map api.Field.av), .sl .full 2 (([] : List api.Scored).map api.Scored.av), .i 0]) Z zeroValue41 Z Z Z ?_)))))))
 intro p29
 refine ac0 Z Z (op_store (i := 0) (cs' := (api.Entry.ct .full .full .full ({ Key := [97], Val := r27, At := 0 } : api.Entry))) Z sizeOf41 (tm Z) (v := .agg (api.Entry.ct .full .full .full ({ Key := [97], Val := r27, At := 0 } : api.Entry))) (tm Z) Z Z Z (nb Z) Z (xe (xr (xa (.ptr p29 6) Z (fa Z underlying41 Z sizeOf2 Z Z Z) (ac0 Z Z (op_store (i := 0) (cs' := (api.Entry.ct .full .full .full ({ Key := [97], Val := r27, At := 7 } : api.Entry))) Z sizeOf2 (tm Z) (v := .i 7) (AEv.int _ _) Z Z Z (nb Z) Z (xe ?_)))))))
 obtain ⟨s40, s40e, h41⟩ := bind_some h
 refine aw_meet (ν := Unit) (fun v => [(0, .bool s40)]) (fun v => []) ?_ ?_
 ·have h := s40e
  refine aw_region (xc Z (op_loadN (i := 1) Z isAgg41 sizeOf41 (tm Z) Z (nb Z) Z ?_))
  obtain ⟨r43, r43e, h⟩ := bind_some h
  refine xc Z (op_call (vs := [.agg (api.Entry.ct .no .no .no ({ Key := [97], Val := r27, At := 0 } : api.Entry))]) (H := []) Z call17 ⟨(AEv.le (tm Z) (AV.Le.agg ⟨vr, vr, vr, (AV.Le.forget _ _ _), (AV.Le.forget _ _ _), (AV.Le.forget _ _ _), vr, trivial⟩)), trivial⟩ (List.Perm.refl _) (charge.Of.ok r43e) ?_)
  rintro _ _ ⟨rfl, rfl⟩
  refine xa (.bool (decide (r43 = 59))) Z (pu_int (v := .bool (decide (r43 = 59))) Z Z (tm Z) (AEv.int _ _) Z) (xm Z Z Z ?_)
  rcases Bool.eq_false_or_eq_true (decide (r43 = 59)) with hb44 | hb44
  ·replace h := ite_t (dec_t hb44) h
   refine aops_known 10 Z hb44 (xg Z Z (op_loadN (i := 0) Z isAgg41 sizeOf41 (tm Z) Z (nb Z) Z ?_))
   obtain ⟨r45, r45e, h⟩ := bind_some h
   refine xg Z Z (op_call (vs := [.agg (api.Entry.ct .no .no .no ({ Key := [97], Val := r27, At := 7 } : api.Entry))]) (H := []) Z call17 ⟨(AEv.le (tm Z) (AV.Le.agg ⟨vr, vr, vr, (AV.Le.forget _ _ _), (AV.Le.forget _ _ _), (AV.Le.forget _ _ _), vr, trivial⟩)), trivial⟩ (List.Perm.refl _) (charge.Of.ok r45e) ?_)
   rintro _ _ ⟨rfl, rfl⟩
   refine xp (.bool (decide (r45 = 75))) Z Z (pu_int (v := .bool (decide (r45 = 75))) Z Z (tm Z) (AEv.int _ _) Z) (xa (.bool (decide (r45 = 75))) Z (pu_pick (b := true) Z (tm Z) (fun _ => (tm Z)) (fun h => nomatch h)) (xm Z Z Z ?_))
   rcases Bool.eq_false_or_eq_true (decide (r45 = 75)) with hb46 | hb46
   ·replace h := ite_t (dec_t hb46) h
    refine aops_known 15 Z hb46 (xg Z Z (op_loadN (i := 1) Z isAgg41 sizeOf41 (tm Z) Z (nb Z) Z (xg Z Z (op_loadN (i := 0) Z isAgg41 sizeOf41 (tm Z) Z (nb Z) Z (xg Z Z (op_buildSlice (xs := ([({ Key := [97], Val := r27, At := 0 } : api.Entry), ({ Key := [97], Val := r27, At := 7 } : api.Entry)] : List api.Entry).map api.Entry.av) (aparts := [(0, .agg (api.Entry.ct .no .no .no ({ Key := [97], Val := r27, At := 0 } : api.Entry))), (1, .agg (api.Entry.ct .no .no .no ({ Key := [97], Val := r27, At := 7 } : api.Entry)))]) Z underlying71 sizeOf41 zeroValue41 (by decide) (by decide) ⟨Z, (AEv.le (tm Z) (AV.Le.agg ⟨vr, vr, vr, (AV.Le.forget _ _ _), (AV.Le.forget _ _ _), (AV.Le.forget _ _ _), vr, trivial⟩)), ⟨Z, (AEv.le (tm Z) (AV.Le.agg ⟨vr, vr, vr, (AV.Le.forget _ _ _), (AV.Le.forget _ _ _), (AV.Le.forget _ _ _), vr, trivial⟩)), trivial⟩⟩ Z Z Z ?_))))))
    obtain ⟨r47, r47e, h⟩ := bind_some h
    refine xg Z Z (op_call (vs := [.sl .no 7 ([({ Key := [97], Val := r27, At := 0 } : api.Entry), ({ Key := [97], Val := r27, At := 7 } : api.Entry)].map api.Entry.av)]) (H := []) Z call18 ⟨(AEv.le (tm Z) (AV.Le.forget _ _ _)), trivial⟩ (List.Perm.refl _) (charge.All.ok r47e) ?_)
    rintro _ _ ⟨rfl, rfl⟩
    refine xp (.bool (decide (r47 = 134))) Z Z (pu_int (v := .bool (decide (r47 = 134))) Z Z (tm Z) (AEv.int _ _) Z) (xa (.bool (decide (r47 = 134))) Z (pu_pick (b := true) Z (tm Z) (fun _ => (tm Z)) (fun h => nomatch h)) (xm Z Z Z ?_))
    rcases Bool.eq_false_or_eq_true (decide (r47 = 134)) with hb48 | hb48
    ·replace h := ite_t (dec_t hb48) h
     refine aops_known 22 Z hb48 (xg Z Z (op_buildSlice (xs := ([[98], [97], [98]] : List (List UInt8)).map AV.str) (aparts := [(0, .str [98]), (1, .str [97]), (2, .str [98])]) Z underlying22 sizeOf9 zeroValue9 (by decide) (by decide) ⟨Z, (AEv.const Z), ⟨Z, (AEv.const Z), ⟨Z, (AEv.const Z), trivial⟩⟩⟩ Z Z Z ?_))
     obtain ⟨r49, r49e, h⟩ := bind_some h
     refine xg Z Z (op_call (vs := [.sl .no 1 ([[98], [97], [98]].map AV.str)]) (H := []) Z call9 ⟨(AEv.le (tm Z) (AV.Le.forget _ _ _)), trivial⟩ (List.Perm.refl _) (charge.Set.ok r49e) ?_)
     rintro _ _ ⟨rfl, rfl⟩
     obtain ⟨r50, r50e, h⟩ := bind_some h
     refine xg Z Z (op_call (vs := [.agg (api.Value.ct .no .no .no r49)]) (H := []) Z call19 ⟨(AEv.le (tm Z) (AV.Le.agg ⟨vr, vr, (AV.Le.forget _ _ _), (AV.Le.forget _ _ _), (AV.Le.forget _ _ _), trivial⟩)), trivial⟩ (List.Perm.refl _) (charge.May.ok r50e) ?_)
     rintro _ _ ⟨rfl, rfl⟩
     refine xa (.bool r50) Z (pu_pick (b := true) Z (tm Z) (fun _ => (tm Z)) (fun h => nomatch h)) (xm Z Z Z ?_)
     rcases Bool.eq_false_or_eq_true r50 with hb51 | hb51
     ·replace h := ite_t hb51 h
      refine aops_known 27 Z hb51 ?_
      obtain ⟨r52, r52e, h⟩ := bind_some h
      refine xg Z Z (op_call (vs := [.i 5]) (H := []) Z call20 ⟨(AEv.int _ _), trivial⟩ (List.Perm.refl _) (charge.Name.ok r52e) ?_)
      rintro _ _ ⟨rfl, rfl⟩
      refine xp (.bool (decide (r52 = [122, 115, 101, 116]))) Z Z (pu_str (v := .bool (decide (r52 = [122, 115, 101, 116]))) Z Z (tm Z) (AEv.const Z) Z) (xa (.bool (decide (r52 = [122, 115, 101, 116]))) Z (pu_pick (b := true) Z (tm Z) (fun _ => (tm Z)) (fun h => nomatch h)) (xm Z Z Z (xe ?_)))
      obtain rfl := some_of h
      exact ⟨(), Weak.mkL [] (by decide) trivial ⟨(AEv.le (tm Z) vr), trivial⟩⟩
     ·replace h := ite_fb hb51 h
      refine aops_known 27 Z hb51 (xn Z Z Z (xn Z Z Z (xa (.bool false) Z (pu_pick (b := false) Z (tm Z) (fun h => nomatch h) (fun _ => (AEv.bool _))) (xm Z Z Z (xe ?_)))))
      obtain rfl := some_of h
      exact ⟨(), Weak.mkL [] (by decide) trivial ⟨tm Z, trivial⟩⟩
    ·replace h := ite_f (dec_f hb48) h
     refine aops_known 22 Z hb48 (xn Z Z Z (xn Z Z Z (xn Z Z Z (xa (.bool false) Z (pu_pick (b := false) Z (tm Z) (fun h => nomatch h) (fun _ => (AEv.bool _))) (xm Z Z Z (xn Z Z Z (xn Z Z Z (xa (.bool false) Z (pu_pick (b := false) Z (tm Z) (fun h => nomatch h) (fun _ => (AEv.bool _))) (xm Z Z Z ?_)))))))))
     refine xe ?_
     obtain rfl := some_of h
     exact ⟨(), Weak.mkL [] (by decide) trivial ⟨tm Z, trivial⟩⟩
   ·replace h := ite_f (dec_f hb46) h
    refine aops_known 15 Z hb46 (xn Z Z Z (xn Z Z Z (xn Z Z Z (xn Z Z Z (xn Z Z Z (xa (.bool false) Z (pu_pick (b := false) Z (tm Z) (fun h => nomatch h) (fun _ => (AEv.bool _))) (xm Z Z Z (xn Z Z Z (xn Z Z Z ?_)))))))))
    refine xn Z Z Z (xa (.bool false) Z (pu_pick (b := false) Z (tm Z) (fun h => nomatch h) (fun _ => (AEv.bool _))) (xm Z Z Z (xn Z Z Z (xn Z Z Z (xa (.bool false) Z (pu_pick (b := false) Z (tm Z) (fun h => nomatch h) (fun _ => (AEv.bool _))) (xm Z Z Z (xe ?_)))))))
    obtain rfl := some_of h
    exact ⟨(), Weak.mkL [] (by decide) trivial ⟨tm Z, trivial⟩⟩
  ·replace h := ite_f (dec_f hb44) h
   refine aops_known 10 Z hb44 (xn Z Z Z (xn Z Z Z (xn Z Z Z (xa (.bool false) Z (pu_pick (b := false) Z (tm Z) (fun h => nomatch h) (fun _ => (AEv.bool _))) (xm Z Z Z (xn Z Z Z (xn Z Z Z (xn Z Z Z (xn Z Z Z ?_)))))))))
   refine xn Z Z Z (xa (.bool false) Z (pu_pick (b := false) Z (tm Z) (fun h => nomatch h) (fun _ => (AEv.bool _))) (xm Z Z Z (xn Z Z Z (xn Z Z Z (xn Z Z Z (xa (.bool false) Z (pu_pick (b := false) Z (tm Z) (fun h => nomatch h) (fun _ => (AEv.bool _))) (xm Z Z Z (xn Z Z Z (xn Z Z Z ?_)))))))))
   refine xa (.bool false) Z (pu_pick (b := false) Z (tm Z) (fun h => nomatch h) (fun _ => (AEv.bool _))) (xm Z Z Z (xe ?_))
   obtain rfl := some_of h
   exact ⟨(), Weak.mkL [] (by decide) trivial ⟨tm Z, trivial⟩⟩
 ·intro _
  have h := h41
  refine aw_ret ?_
  obtain rfl := some_of h
  exact ⟨[.bool s40], _, [], ⟨(tm Z), trivial⟩, vr, Weak.mkL [] (by decide) trivial trivial, ⟨Z, Z⟩⟩

end Go.Pu
