/- Printed by lift.py: the functions come to them. -/
import Derived.Test.YtlehodoiabaaaaaLiftW
import Derived.Test.YtlehodoiabaaaaaFQP
import Derived.Test.YtlehodoiabaaaaaProg
import Derived.Test.YtlehodoiabaaaaaLiftZS
import Derived.Test.YtlehodoiabaaaaaShelf
set_option maxRecDepth 100000
set_option maxHeartbeats 0
namespace Go.Pu
open Go.Lift Go.Proofs.Try Go.RowKit Go.Proofs

theorem mewsref19.Size.ok {v_ : api.Value} {r : Int} (h : mewsref19.Size v_ = some r) : Go.Lift.Spec prog 22 [.agg (api.Value.ct .no .no .no v_)] [] (fun v H => v = .i r ∧ H = []) := by
 unfold mewsref19.Size at h
 refine Go.Lift.Spec.of_body (rs := [.tmp 2]) func22 Z Z (nb Z) Z (xr (xc Z (op_box (cs := (api.Value.ct .no .no .no v_)) (v := .agg (api.Value.ct .no .no .no v_)) Z (tm Z) Z Z ?_)))
 intro p179
 refine xa (.i 0) Z (pu_assign Z (AEv.int _ _)) (xe (xr (xa (.ptr p179 1) Z (fa Z underlying28 Z sizeOf9 Z Z Z) (xc Z (op_load1 (i := 0) Z isAgg9 (tm Z) Z Z (xa (.i (v_.Text.length : Int)) Z (pu_strLen Z underlying9 (tm Z)) (xm Z Z Z (xe ?_))))))))
 obtain ⟨s207, s207e, h208⟩ := bind_some h
 refine aw_meet (ν := Unit) (fun v => [(1, .ptr p179 0), (3, .i s207)]) (fun v => [(p179, .cells (api.Value.ct .no .no .no v_))]) ?_ ?_
 ·have h := s207e
  refine xr (xa (.i 0) Z (pu_assign Z (AEv.int _ _)) (xe (aw_block (aw_while (σ := mewsref19.Size.S0) (ν := Unit) (mewsref19.Size.body0 v_) (fun s226 v => [(1, .ptr p179 0), (3, .i s226.n), (4, .i s226.i)]) (fun s226 v => [(p179, .cells (api.Value.ct .no .no .no v_))]) ⟨(v_.Text.length : Int), 0⟩ () _ h (Weak.mkL [0] (by decide) ⟨⟨_, Z, cr, Z⟩, trivial⟩ ⟨tm Z, tm Z, tm Z, trivial⟩) ?_))))
  rintro s226 _ x228 h hx227
  unfold mewsref19.Size.body0 at h
  refine aw_seq ?_
  obtain ⟨s231, s231e, h232⟩ := letO_of h
  refine aw_meet (ν := Unit) (fun v => [(1, .ptr p179 0), (3, .i s226.n), (4, .i s226.i), (18, .bool s231)]) (fun v => [(p179, .cells (api.Value.ct .no .no .no v_))]) ?_ ?_
  ·have h := s231e.symm
   refine aw_region (xm Z Z Z (xa (.ptr p179 2) Z (fa Z underlying28 Z sizeOf25 Z Z Z) (xc Z (op_load1 (i := 0) Z isAgg25 (tm Z) Z Z (xa (.i (v_.List_.length : Int)) Z (pu_lenM Z underlying25 (tm Z)) (xa (.bool (decide (s226.i < (v_.List_.length : Int)))) Z (pu_int (v := .bool (decide (s226.i < (v_.List_.length : Int)))) Z Z (tm Z) (tm Z) Z) (xm Z Z Z ?_)))))))
   rcases Bool.eq_false_or_eq_true (decide (s226.i < (v_.List_.length : Int))) with hb234 | hb234
   ·replace h := ite_t (dec_t hb234) h
    refine aops_known 15 Z hb234 (xq Z Z Z Z (xp (.bool (decide (s226.n < 100000))) Z Z (pu_int (v := .bool (decide (s226.n < 100000))) Z Z (tm Z) (AEv.int _ _) Z) (xa (.bool (decide (s226.n < 100000))) Z (pu_pick (b := true) Z (tm Z) (fun _ => (tm Z)) (fun h => nomatch h)) (xe ?_))))
    subst h
    exact ⟨(), Weak.mkL [0] (by decide) ⟨⟨_, Z, cr, Z⟩, trivial⟩ ⟨tm Z, tm Z, tm Z, (AEv.le (tm Z) vr), trivial⟩⟩
   ·replace h := ite_f (dec_f hb234) h
    refine aops_known 15 Z hb234 (xn Z Z Z (xn Z Z Z (xa (.bool false) Z (pu_pick (b := false) Z (tm Z) (fun h => nomatch h) (fun _ => (AEv.bool _))) (xe ?_))))
    subst h
    exact ⟨(), Weak.mkL [0] (by decide) ⟨⟨_, Z, cr, Z⟩, trivial⟩ ⟨tm Z, tm Z, tm Z, tm Z, trivial⟩⟩
  ·intro _
   have h := h232
   refine aw_cond (b := s231) (tm Z) (fun hb236 => ?_) (fun hb236 => ?_)
   ·replace h := ite_t hb236 h
    refine aw_skip (aw_seq (aw_block (aw_region (xm Z Z Z (xa (.ptr p179 2) Z (fa Z underlying28 Z sizeOf25 Z Z Z) (xc Z (op_load1 (i := 0) Z isAgg25 (tm Z) Z Z (xm Z Z Z ?_))))))))
    obtain ⟨c235, h⟩ := need_of h
    refine xa (.vptr [.str (ix v_.List_ s226.i)]) Z (pu_indexAddrM Z underlying25 sizeOf9 (tm Z) (tm Z) c235 Z) (xc Z (op_loadV1 Z isAgg9 (tm Z) Z (xa (.i ((ix v_.List_ s226.i).length : Int)) Z (pu_strLen Z underlying9 (tm Z)) (xa (.i (IntKind.wrap .i64 (1 + ((ix v_.List_ s226.i).length : Int)))) Z (pu_int (v := .i (IntKind.wrap .i64 (1 + ((ix v_.List_ s226.i).length : Int)))) Z Z (AEv.int _ _) (tm Z) Z) (xa (.i (IntKind.wrap .i64 (s226.n + (IntKind.wrap .i64 (1 + ((ix v_.List_ s226.i).length : Int)))))) Z (pu_int (v := .i (IntKind.wrap .i64 (s226.n + (IntKind.wrap .i64 (1 + ((ix v_.List_ s226.i).length : Int)))))) Z Z (tm Z) (tm Z) Z) (xm Z Z Z (xe (aw_region (xm Z Z Z (xa (.i (IntKind.wrap .i64 (s226.i + 1))) Z (pu_int (v := .i (IntKind.wrap .i64 (s226.i + 1))) Z Z (tm Z) (AEv.int _ _) Z) ?_))))))))))
    refine xm Z Z Z (xe ?_)
    obtain rfl := some_of h
    exact ⟨_, (), Z, Weak.mkL [0] (by decide) ⟨⟨_, Z, cr, Z⟩, trivial⟩ ⟨tm Z, (AEv.le (tm Z) vr), (AEv.le (tm Z) vr), trivial⟩⟩
   ·replace h := ite_fb hb236 h
    refine aw_exit ?_
    obtain rfl := some_of h
    have h := congrArg some (hx227 _ rfl)
    obtain rfl := some_of h
    exact ⟨(), Weak.mkL [0] (by decide) ⟨⟨_, Z, cr, Z⟩, trivial⟩ ⟨tm Z, tm Z, trivial⟩⟩
 ·intro _
  have h := h208
  obtain ⟨s267, s267e, h268⟩ := bind_some h
  refine aw_meet (ν := Unit) (fun v => [(1, .ptr p179 0), (3, .i s267)]) (fun v => [(p179, .cells (api.Value.ct .no .no .no v_))]) ?_ ?_
  ·have h := s267e
   refine xr (xa (.i 0) Z (pu_assign Z (AEv.int _ _)) (xe (aw_block (aw_while (σ := mewsref19.Size.S2) (ν := Unit) (mewsref19.Size.body2 v_) (fun s288 v => [(1, .ptr p179 0), (3, .i s288.n), (5, .i s288.i)]) (fun s288 v => [(p179, .cells (api.Value.ct .no .no .no v_))]) ⟨s207, 0⟩ () _ h (Weak.mkL [0] (by decide) ⟨⟨_, Z, cr, Z⟩, trivial⟩ ⟨tm Z, tm Z, tm Z, trivial⟩) ?_))))
   rintro s288 _ x290 h hx289
   unfold mewsref19.Size.body2 at h
   refine aw_seq ?_
   obtain ⟨s293, s293e, h294⟩ := letO_of h
   refine aw_meet (ν := Unit) (fun v => [(1, .ptr p179 0), (3, .i s288.n), (5, .i s288.i), (38, .bool s293)]) (fun v => [(p179, .cells (api.Value.ct .no .no .no v_))]) ?_ ?_
   ·have h := s293e.symm
    refine aw_region (xm Z Z Z (xa (.ptr p179 3) Z (fa Z underlying28 Z sizeOf23 Z Z Z) (xc Z (op_load1 (i := 0) Z isAgg23 (tm Z) Z Z (xa (.i (v_.Hash.length : Int)) Z (pu_lenM Z underlying23 (tm Z)) (xa (.bool (decide (s288.i < (v_.Hash.length : Int)))) Z (pu_int (v := .bool (decide (s288.i < (v_.Hash.length : Int)))) Z Z (tm Z) (tm Z) Z) (xm Z Z Z ?_)))))))
    rcases Bool.eq_false_or_eq_true (decide (s288.i < (v_.Hash.length : Int))) with hb296 | hb296
    ·replace h := ite_t (dec_t hb296) h
     refine aops_known 35 Z hb296 (xq Z Z Z Z (xp (.bool (decide (s288.n < 100000))) Z Z (pu_int (v := .bool (decide (s288.n < 100000))) Z Z (tm Z) (AEv.int _ _) Z) (xa (.bool (decide (s288.n < 100000))) Z (pu_pick (b := true) Z (tm Z) (fun _ => (tm Z)) (fun h => nomatch h)) (xe ?_))))
     subst h
     exact ⟨(), Weak.mkL [0] (by decide) ⟨⟨_, Z, cr, Z⟩, trivial⟩ ⟨tm Z, tm Z, tm Z, (AEv.le (tm Z) vr), trivial⟩⟩
    ·replace h := ite_f (dec_f hb296) h
     refine aops_known 35 Z hb296 (xn Z Z Z (xn Z Z Z (xa (.bool false) Z (pu_pick (b := false) Z (tm Z) (fun h => nomatch h) (fun _ => (AEv.bool _))) (xe ?_))))
     subst h
     exact ⟨(), Weak.mkL [0] (by decide) ⟨⟨_, Z, cr, Z⟩, trivial⟩ ⟨tm Z, tm Z, tm Z, tm Z, trivial⟩⟩
   ·intro _
    have h := h294
    refine aw_cond (b := s293) (tm Z) (fun hb299 => ?_) (fun hb299 => ?_)
    ·replace h := ite_t hb299 h
     refine aw_skip (aw_seq (aw_block ?_))
     obtain ⟨c297, h⟩ := need_of h
     obtain ⟨c298, h⟩ := need_of h
     refine aw_planR (by decide +kernel) [[], [], [(0, 0, false)], [], [], [], [], [], [], [], [(0, 0, false)], [], [], [], [], [], [], [], []] [[]] [[[(p179, .cells (api.Value.ct .no .no .no v_))]]] [.i s288.n, .ptr p179 3, .sl .no 2 (v_.Hash.map api.Field.av), .i s288.i, .vptr [.str (ix v_.Hash s288.i).Key, .str (ix v_.Hash s288.i).Val], .vptr [.str (ix v_.Hash s288.i).Key, .str (ix v_.Hash s288.i).Val], .str (ix v_.Hash s288.i).Key, .i ((ix v_.Hash s288.i).Key.length : Int), .i (IntKind.wrap .i64 (1 + ((ix v_.Hash s288.i).Key.length : Int))), .ptr p179 3, .sl .no 2 (v_.Hash.map api.Field.av), .i s288.i, .vptr [.str (ix v_.Hash s288.i).Key, .str (ix v_.Hash s288.i).Val], .vptr [.str (ix v_.Hash s288.i).Val], .str (ix v_.Hash s288.i).Val, .i ((ix v_.Hash s288.i).Val.length : Int), .i (IntKind.wrap .i64 ((IntKind.wrap .i64 (1 + ((ix v_.Hash s288.i).Key.length : Int))) + ((ix v_.Hash s288.i).Val.length : Int))), .i (IntKind.wrap .i64 (s288.n + (IntKind.wrap .i64 ((IntKind.wrap .i64 (1 + ((ix v_.Hash s288.i).Key.length : Int))) + ((ix v_.Hash s288.i).Val.length : Int))))), .i (IntKind.wrap .i64 (s288.n + (IntKind.wrap .i64 ((IntKind.wrap .i64 (1 + ((ix v_.Hash s288.i).Key.length : Int))) + ((ix v_.Hash s288.i).Val.length : Int)))))] (by decide +kernel) Z Z ?_ ?_
     ·exact ⟨ym Z Z Z, yp Z (fa Z underlying28 Z sizeOf23 Z Z Z), stepg_plain Z (op_load1 (i := 0) Z isAgg23 (tm Z) Z Z ⟨Z, Z⟩), ym Z Z Z, yp Z (pu_indexAddrM Z underlying23 sizeOf34 (tm Z) (tm Z) c297 Z), yp Z (fa Z underlying34 Z sizeOf9 Z Z Z), stepg_plain Z (op_loadV1 Z isAgg9 (tm Z) Z ⟨Z, Z⟩), yp Z (pu_strLen Z underlying9 (tm Z)), yp Z (pu_int (v := .i (IntKind.wrap .i64 (1 + ((ix v_.Hash s288.i).Key.length : Int)))) Z Z (AEv.int _ _) (tm Z) Z), yp Z (fa Z underlying28 Z sizeOf23 Z Z Z), stepg_plain Z (op_load1 (i := 0) Z isAgg23 (tm Z) Z Z ⟨Z, Z⟩), ym Z Z Z, yp Z (pu_indexAddrM Z underlying23 sizeOf34 (tm Z) (tm Z) c298 Z), yp Z (fa Z underlying34 Z sizeOf9 Z Z Z), stepg_plain Z (op_loadV1 Z isAgg9 (tm Z) Z ⟨Z, Z⟩), yp Z (pu_strLen Z underlying9 (tm Z)), yp Z (pu_int (v := .i (IntKind.wrap .i64 ((IntKind.wrap .i64 (1 + ((ix v_.Hash s288.i).Key.length : Int))) + ((ix v_.Hash s288.i).Val.length : Int)))) Z Z (tm Z) (tm Z) Z), yp Z (pu_int (v := .i (IntKind.wrap .i64 (s288.n + (IntKind.wrap .i64 ((IntKind.wrap .i64 (1 + ((ix v_.Hash s288.i).Key.length : Int))) + ((ix v_.Hash s288.i).Val.length : Int)))))) Z Z (tm Z) (tm Z) Z), ym Z Z Z, trivial⟩
     refine aw_region (xm Z Z Z (xa (.i (IntKind.wrap .i64 (s288.i + 1))) Z (pu_int (v := .i (IntKind.wrap .i64 (s288.i + 1))) Z Z (tm Z) (AEv.int _ _) Z) (xm Z Z Z (xe ?_))))
     obtain rfl := some_of h
     exact ⟨_, (), Z, Weak.mkL [0] (by decide) ⟨⟨_, Z, cr, Z⟩, trivial⟩ ⟨tm Z, (AEv.le (tm Z) vr), (AEv.le (tm Z) vr), trivial⟩⟩
    ·replace h := ite_fb hb299 h
     refine aw_exit ?_
     obtain rfl := some_of h
     have h := congrArg some (hx289 _ rfl)
     obtain rfl := some_of h
     exact ⟨(), Weak.mkL [0] (by decide) ⟨⟨_, Z, cr, Z⟩, trivial⟩ ⟨tm Z, tm Z, trivial⟩⟩
  ·intro _
   have h := h268
   obtain ⟨s327, s327e, h328⟩ := bind_some h
   refine aw_meet (ν := Unit) (fun v => [(3, .i s327)]) (fun v => []) ?_ ?_
   ·have h := s327e
    refine xr (xa (.i 0) Z (pu_assign Z (AEv.int _ _)) (xe (aw_block (aw_while (σ := mewsref19.Size.S4) (ν := Unit) (mewsref19.Size.body4 v_) (fun s346 v => [(1, .ptr p179 0), (3, .i s346.n), (6, .i s346.i)]) (fun s346 v => [(p179, .cells (api.Value.ct .no .no .no v_))]) ⟨s267, 0⟩ () _ h (Weak.mkL [0] (by decide) ⟨⟨_, Z, cr, Z⟩, trivial⟩ ⟨tm Z, tm Z, tm Z, trivial⟩) ?_))))
    rintro s346 _ x348 h hx347
    unfold mewsref19.Size.body4 at h
    refine aw_seq ?_
    obtain ⟨s351, s351e, h352⟩ := letO_of h
    refine aw_meet (ν := Unit) (fun v => [(1, .ptr p179 0), (3, .i s346.n), (6, .i s346.i), (67, .bool s351)]) (fun v => [(p179, .cells (api.Value.ct .no .no .no v_))]) ?_ ?_
    ·have h := s351e.symm
     refine aw_region (xm Z Z Z (xa (.ptr p179 4) Z (fa Z underlying28 Z sizeOf26 Z Z Z) (xc Z (op_load1 (i := 0) Z isAgg26 (tm Z) Z Z (xa (.i (v_.ZSet.length : Int)) Z (pu_lenM Z underlying26 (tm Z)) (xa (.bool (decide (s346.i < (v_.ZSet.length : Int)))) Z (pu_int (v := .bool (decide (s346.i < (v_.ZSet.length : Int)))) Z Z (tm Z) (tm Z) Z) (xm Z Z Z ?_)))))))
     rcases Bool.eq_false_or_eq_true (decide (s346.i < (v_.ZSet.length : Int))) with hb354 | hb354
     ·replace h := ite_t (dec_t hb354) h
      refine aops_known 64 Z hb354 (xq Z Z Z Z (xp (.bool (decide (s346.n < 100000))) Z Z (pu_int (v := .bool (decide (s346.n < 100000))) Z Z (tm Z) (AEv.int _ _) Z) (xa (.bool (decide (s346.n < 100000))) Z (pu_pick (b := true) Z (tm Z) (fun _ => (tm Z)) (fun h => nomatch h)) (xe ?_))))
      subst h
      exact ⟨(), Weak.mkL [0] (by decide) ⟨⟨_, Z, cr, Z⟩, trivial⟩ ⟨tm Z, tm Z, tm Z, (AEv.le (tm Z) vr), trivial⟩⟩
     ·replace h := ite_f (dec_f hb354) h
      refine aops_known 64 Z hb354 (xn Z Z Z (xn Z Z Z (xa (.bool false) Z (pu_pick (b := false) Z (tm Z) (fun h => nomatch h) (fun _ => (AEv.bool _))) (xe ?_))))
      subst h
      exact ⟨(), Weak.mkL [0] (by decide) ⟨⟨_, Z, cr, Z⟩, trivial⟩ ⟨tm Z, tm Z, tm Z, tm Z, trivial⟩⟩
    ·intro _
     have h := h352
     refine aw_cond (b := s351) (tm Z) (fun hb356 => ?_) (fun hb356 => ?_)
     ·replace h := ite_t hb356 h
      refine aw_skip (aw_seq (aw_block (aw_region (xm Z Z Z (xa (.ptr p179 4) Z (fa Z underlying28 Z sizeOf26 Z Z Z) (xc Z (op_load1 (i := 0) Z isAgg26 (tm Z) Z Z (xm Z Z Z ?_))))))))
      obtain ⟨c355, h⟩ := need_of h
      refine xa (.vptr [.str (ix v_.ZSet s346.i).Member, .i (ix v_.ZSet s346.i).Score]) Z (pu_indexAddrM Z underlying26 sizeOf80 (tm Z) (tm Z) c355 Z) (xa (.vptr [.str (ix v_.ZSet s346.i).Member, .i (ix v_.ZSet s346.i).Score]) Z (fa Z underlying80 Z sizeOf9 Z Z Z) (xc Z (op_loadV1 Z isAgg9 (tm Z) Z (xa (.i ((ix v_.ZSet s346.i).Member.length : Int)) Z (pu_strLen Z underlying9 (tm Z)) (xa (.i (IntKind.wrap .i64 (1 + ((ix v_.ZSet s346.i).Member.length : Int)))) Z (pu_int (v := .i (IntKind.wrap .i64 (1 + ((ix v_.ZSet s346.i).Member.length : Int)))) Z Z (AEv.int _ _) (tm Z) Z) (xa (.i (IntKind.wrap .i64 (s346.n + (IntKind.wrap .i64 (1 + ((ix v_.ZSet s346.i).Member.length : Int)))))) Z (pu_int (v := .i (IntKind.wrap .i64 (s346.n + (IntKind.wrap .i64 (1 + ((ix v_.ZSet s346.i).Member.length : Int)))))) Z Z (tm Z) (tm Z) Z) (xm Z Z Z (xe (aw_region (xm Z Z Z ?_))))))))))
      refine xa (.i (IntKind.wrap .i64 (s346.i + 1))) Z (pu_int (v := .i (IntKind.wrap .i64 (s346.i + 1))) Z Z (tm Z) (AEv.int _ _) Z) (xm Z Z Z (xe ?_))
      obtain rfl := some_of h
      exact ⟨_, (), Z, Weak.mkL [0] (by decide) ⟨⟨_, Z, cr, Z⟩, trivial⟩ ⟨tm Z, (AEv.le (tm Z) vr), (AEv.le (tm Z) vr), trivial⟩⟩
     ·replace h := ite_fb hb356 h
      refine aw_exit ?_
      obtain rfl := some_of h
      have h := congrArg some (hx347 _ rfl)
      obtain rfl := some_of h
      exact ⟨(), Weak.mkL [] (by decide) trivial ⟨tm Z, trivial⟩⟩
   ·intro _
    have h := h328
    refine xr (xm Z Z Z (xm Z Z Z (xe (aw_ret ?_))))
    obtain rfl := some_of h
    exact ⟨[.i s327], _, [], ⟨(tm Z), trivial⟩, vr, Weak.mkL [] (by decide) trivial trivial, ⟨Z, Z⟩⟩

theorem mewslaw19.Far.ok {l : List api.Value} {r : Bool} (h : mewslaw19.Far l = some r) : Go.Lift.Spec prog 6 [.sl .no 5 (l.map api.Value.av)] [] (fun v H => v = .bool r ∧ H = []) := by
 unfold mewslaw19.Far at h
 refine Go.Lift.Spec.of_body (rs := [.tmp 2]) func6 Z Z (nb Z) Z (xr (xa (.bool false) Z (pu_assign Z (AEv.bool _)) (xe (xr (xa (.i 0) Z (pu_assign Z (AEv.int _ _)) (xe ?_))))))
 obtain ⟨s92, s92e, h69⟩ := bind_some h
 refine aw_join (σ := Unit) (ν := Unit) (fun u v => [(0, .sl .no 5 (l.map api.Value.av))]) (fun u v => []) (fun u => s92 = .inl u) ?_ ?_
 ·intro s68
  intro _
  rintro rfl
  have h := onSum_inl h69
  refine xr (xm Z Z Z (xa (.i (l.length : Int)) Z (pu_lenM Z underlying58 (tm Z)) (xa (.bool (decide (100 < (l.length : Int)))) Z (pu_int (v := .bool (decide (100 < (l.length : Int)))) Z Z (tm Z) (AEv.int _ _) Z) (xm Z Z Z (xe (aw_ret ?_))))))
  obtain rfl := some_of h
  exact ⟨[.bool (decide (100 < (l.length : Int)))], _, [], ⟨(tm Z), trivial⟩, vr, Weak.mkL [] (by decide) trivial trivial, ⟨Z, Z⟩⟩
 ·have h := s92e
  refine xr (xm Z Z Z (xa (.i (l.length : Int)) Z (pu_lenM Z underlying58 (tm Z)) (xa (.i 0) Z (pu_move Z (AEv.int _ _)) (xe (aw_block (aw_while (σ := mewslaw19.Far.S0) (ν := Unit) (mewslaw19.Far.body0 l) (fun s83 v => [(0, .sl .no 5 (l.map api.Value.av)), (3, .i s83.n), (6, .sl .no 5 (l.map api.Value.av)), (7, .i (l.length : Int)), (8, .i s83.t8)]) (fun s83 v => []) ⟨0, 0⟩ () _ h (Weak.mkL [] (by decide) trivial ⟨tm Z, tm Z, tm Z, tm Z, tm Z, trivial⟩) ?_))))))
  rintro s83 _ x85 h hx84
  unfold mewslaw19.Far.body0 at h
  refine xr (xa (.bool (decide (s83.t8 < (l.length : Int)))) Z (pu_int (v := .bool (decide (s83.t8 < (l.length : Int)))) Z Z (tm Z) (tm Z) Z) (xe (aw_seq (aw_cond (b := decide (s83.t8 < (l.length : Int))) (tm Z) (fun hb91 => ?_) (fun hb91 => ?_)))))
  ·replace h := ite_t (dec_t hb91) h
   refine aw_skip (aw_seq (aw_block (aw_seq (aw_region ?_))))
   obtain ⟨c87, h⟩ := need_of h
   refine xa (.vptr [.i (ix l s83.t8).Kind, .str (ix l s83.t8).Text, .sl .no 1 ((ix l s83.t8).List_.map AV.str), .sl .no 2 ((ix l s83.t8).Hash.map api.Field.av), .sl .no 2 ((ix l s83.t8).ZSet.map api.Scored.av)]) Z (pu_indexAddrM Z underlying58 sizeOf28 (tm Z) (tm Z) c87 Z) (xc Z (op_loadVN Z isAgg28 sizeOf28 (tm Z) (nb Z) Z (xc Z (op_alloc (cs := (api.Value.ct .full .full .full ({ Kind := 0, Text := ([] : List UInt8), List_ := ([] : List (List UInt8)), Hash := ([] : List api.Field), ZSet := ([] : List api.Scored) } : api.Value))) (v := .agg (api.Value.ct .full .full .full ({ Kind := 0, Text := ([] : List UInt8), List_ := ([] : List (List UInt8)), Hash := ([] : List api.Field), ZSet := ([] : List api.Scored) } : api.Value))) Z zeroValue28 Z Z Z ?_))))
   intro p88
   refine ac0 Z Z (op_store (i := 0) (cs' := (api.Value.ct .no .no .no (ix l s83.t8))) Z sizeOf28 (tm Z) (v := .agg (api.Value.ct .no .no .no (ix l s83.t8))) (tm Z) Z Z Z (nb Z) Z (xe (xr (xm Z Z Z (xc Z (op_loadN (i := 0) Z isAgg28 sizeOf28 (tm Z) Z (nb Z) Z ?_))))))
   obtain ⟨r89, r89e, h⟩ := bind_some h
   refine xc Z (op_call (vs := [.agg (api.Value.ct .no .no .no (ix l s83.t8))]) (H := []) Z call22 ⟨(tm Z), trivial⟩ (List.Perm.refl _) (mewsref19.Size.ok r89e) ?_)
   rintro _ _ ⟨rfl, rfl⟩
   refine xa (.i (IntKind.wrap .i64 (s83.n + r89))) Z (pu_int (v := .i (IntKind.wrap .i64 (s83.n + r89))) Z Z (tm Z) (tm Z) Z) (xm Z Z Z (xe (xr (xm Z Z Z (xa (.bool (decide (3000 < (IntKind.wrap .i64 (s83.n + r89))))) Z (pu_int (v := .bool (decide (3000 < (IntKind.wrap .i64 (s83.n + r89))))) Z Z (tm Z) (AEv.int _ _) Z) (xe (aw_cond (b := decide (3000 < (IntKind.wrap .i64 (s83.n + r89)))) (tm Z) (fun hb90 => ?_) (fun hb90 => ?_))))))))
   ·replace h := ite_t (dec_t hb90) h
    refine xr (xa (.bool true) Z (pu_assign Z (AEv.bool _)) (xe (aw_ret ?_)))
    obtain rfl := some_of h
    have h := congrArg some (hx84 _ rfl)
    obtain rfl := some_of h
    have h := onSum_inr h69
    obtain rfl := some_of h
    exact ⟨[.bool true], _, [], ⟨(tm Z), trivial⟩, vr, Weak.mkL [] (by decide) trivial trivial, ⟨Z, Z⟩⟩
   ·replace h := ite_f (dec_f hb90) h
    refine aw_skip (aw_region (xa (.i (IntKind.wrap .i64 (s83.t8 + 1))) Z (pu_int (v := .i (IntKind.wrap .i64 (s83.t8 + 1))) Z Z (tm Z) (AEv.int _ _) Z) (xm Z Z Z (xe ?_))))
    obtain rfl := some_of h
    exact ⟨_, (), Z, Weak.mkL [] (by decide) trivial ⟨tm Z, (AEv.le (tm Z) vr), tm Z, tm Z, (AEv.le (tm Z) vr), trivial⟩⟩
  ·replace h := ite_f (dec_f hb91) h
   refine aw_exit ?_
   obtain rfl := some_of h
   have h := congrArg some (hx84 _ rfl)
   exact ⟨(), (), (some_of h).symm, Weak.mkL [] (by decide) trivial ⟨tm Z, trivial⟩⟩

theorem dict.empty_string.ok {size : Int} {mem : Reg} {r : dict.places_string × Reg} (h : dict.empty_string size mem = some r) (rg : Nat) : Go.Lift.Spec prog 27 [.i size] [(rg, .abs (regAbs mem))] (fun v H => v = .agg [.i r.1.size, .rs rg r.1.l] ∧ H = [(rg, .abs (regAbs r.2))]) := by
 unfold dict.empty_string at h
 refine Go.Lift.Spec.of_body (rs := [.cell 2 67]) func27 Z Z (nb Z) Z (xr (xc Z (op_alloc (cs := [.i 0, .rs rg (none : RS)]) (v := .agg [.i 0, .rs rg (none : RS)]) Z zeroValue67 Z Z Z ?_)))
 intro p5
 refine xe (xr (xm Z Z Z (xm Z Z Z ?_)))
 obtain ⟨c6, h⟩ := need_of h
 refine xa (.i (IntKind.wrap .i64 (1 * 2 ^ min (Int.toNat size) (IntKind.bits .i64)))) Z (pu_shl Z (AEv.int _ _) (tm Z) c6) ?_
 obtain ⟨c7, h⟩ := need_of h
 obtain ⟨x8, x8e, h⟩ := letO_of h
 refine xc Z (op_regMake (i := 1) (.pt (none : RP)) Z underlying65 typeInfo87 Z Z (by decide) Z Z (fun _ => Z) (tm Z) (tm Z) c7 x8e (xa (.agg [.i size, .rs rg (some (mem.length, 0, Int.toNat (IntKind.wrap .i64 (1 * 2 ^ min (Int.toNat size) (IntKind.bits .i64))), Int.toNat (IntKind.wrap .i64 (1 * 2 ^ min (Int.toNat size) (IntKind.bits .i64)))) : RS)]) Z (pu_build (zs := [.i 0, .rs rg (none : RS)]) (szs := [1, 1]) (aparts := [(0, .i size), (1, .rs rg (some (mem.length, 0, Int.toNat (IntKind.wrap .i64 (1 * 2 ^ min (Int.toNat size) (IntKind.bits .i64))), Int.toNat (IntKind.wrap .i64 (1 * 2 ^ min (Int.toNat size) (IntKind.bits .i64)))) : RS))]) (cs := [.i size, .rs rg (some (mem.length, 0, Int.toNat (IntKind.wrap .i64 (1 * 2 ^ min (Int.toNat size) (IntKind.bits .i64))), Int.toNat (IntKind.wrap .i64 (1 * 2 ^ min (Int.toNat size) (IntKind.bits .i64)))) : RS)]) Z underlying67 zeroValue67 Z ⟨sizeOf3, sizeOf65, trivial⟩ ⟨Z, (tm Z), ⟨Z, (tm Z), trivial⟩⟩ Z) (ac0 Z Z (op_store (i := 0) (cs' := [.i size, .rs rg (some (mem.length, 0, Int.toNat (IntKind.wrap .i64 (1 * 2 ^ min (Int.toNat size) (IntKind.bits .i64))), Int.toNat (IntKind.wrap .i64 (1 * 2 ^ min (Int.toNat size) (IntKind.bits .i64)))) : RS)]) Z sizeOf67 (tm Z) (v := .agg [.i size, .rs rg (some (mem.length, 0, Int.toNat (IntKind.wrap .i64 (1 * 2 ^ min (Int.toNat size) (IntKind.bits .i64))), Int.toNat (IntKind.wrap .i64 (1 * 2 ^ min (Int.toNat size) (IntKind.bits .i64)))) : RS)]) (tm Z) Z Z Z (nb Z) Z (xe (aw_ret ?_))))))
 obtain rfl := some_of h
 exact ⟨[.agg [.i size, .rs rg (some (mem.length, 0, Int.toNat (IntKind.wrap .i64 (1 * 2 ^ min (Int.toNat size) (IntKind.bits .i64))), Int.toNat (IntKind.wrap .i64 (1 * 2 ^ min (Int.toNat size) (IntKind.bits .i64)))) : RS)]], _, [(rg, .abs (regAbs x8))], ⟨(CellOk.agg 0 (tm Z) Z isAgg67 sizeOf67 (nb Z) Z), trivial⟩, vr, Weak.mkL [1] (by decide) ⟨⟨_, Z, Z⟩, trivial⟩ trivial, ⟨Z, Z⟩⟩

theorem dict.New_string.ok {seed : Int} {mem : Reg} {r : RP × Reg} (h : dict.New_string seed mem = some r) (rg : Nat) : Go.Lift.Spec prog 14 [.int .u64 seed] [(rg, .abs (regAbs mem))] (fun v H => v = .rp rg r.1 ∧ H = [(rg, .abs (regAbs r.2))]) := by
 unfold dict.New_string at h
 refine Go.Lift.Spec.of_body (rs := [.tmp 2]) func14 Z Z (nb Z) Z (xr (xa (.rp rg (none : RP)) Z (pu_assign Z (AEv.rpn _)) (xe (xr (xm Z Z Z ?_)))))
 obtain ⟨r3, r3e, h⟩ := bind_some h
 refine xc Z (op_call (vs := [.i 2]) (H := [(rg, .abs (regAbs mem))]) Z call27 ⟨(AEv.int _ _), trivial⟩ (List.Perm.refl _) (dict.empty_string.ok r3e rg) ?_)
 rintro _ _ ⟨rfl, rfl⟩
 refine xa (.agg [.i r3.1.size, .rs rg r3.1.l, .i 0, .rs rg (none : RS)]) Z (pu_buildArr (zs := [.i 0, .rs rg (none : RS), .i 0, .rs rg (none : RS)]) (aparts := [(0, .agg [.i r3.1.size, .rs rg r3.1.l])]) (cs := [.i r3.1.size, .rs rg r3.1.l, .i 0, .rs rg (none : RS)]) Z underlying69 sizeOf67 zeroValue69 Z ⟨Z, (tm Z), trivial⟩ Z) (xa (.agg [.int .u64 seed, .i r3.1.size, .rs rg r3.1.l, .i 0, .rs rg (none : RS), .i 0, .bool false, .i 0]) Z (pu_build (zs := [.int .u64 0, .i 0, .rs rg (none : RS), .i 0, .rs rg (none : RS), .i 0, .bool false, .i 0]) (szs := [1, 4, 1, 1, 1]) (aparts := [(0, .int .u64 seed), (1, .agg [.i r3.1.size, .rs rg r3.1.l, .i 0, .rs rg (none : RS)])]) (cs := [.int .u64 seed, .i r3.1.size, .rs rg r3.1.l, .i 0, .rs rg (none : RS), .i 0, .bool false, .i 0]) Z underlying71 zeroValue71 Z ⟨sizeOf22, sizeOf69, sizeOf3, sizeOf4, sizeOf3, trivial⟩ ⟨Z, (tm Z), ⟨Z, (tm Z), trivial⟩⟩ Z) ?_)
 obtain ⟨x4, x4e, h⟩ := letO_of h
 refine xc Z (op_regBox (i := 0) [.it .u64 seed, .it .i64 r3.1.size, .sc r3.1.l, .it .i64 0, .sc (none : RS), .it .i64 0, .bo false, .it .i64 0] Z (v := .agg [.int .u64 seed, .i r3.1.size, .rs rg r3.1.l, .i 0, .rs rg (none : RS), .i 0, .bool false, .i 0]) (tm Z) Z Z x4e (xm Z Z Z (xe (aw_ret ?_))))
 obtain rfl := some_of h
 exact ⟨[.rp rg (some (r3.2.length, 0) : RP)], _, [(rg, .abs (regAbs x4))], ⟨(tm Z), trivial⟩, vr, Weak.mkL [0] (by decide) ⟨⟨_, Z, Z⟩, trivial⟩ trivial, ⟨Z, Z⟩⟩

theorem dict.Table_string.ready.ok {t_ : RP} {mem : Reg} {r : Bool × Reg} (h : dict.Table_string.ready t_ mem = some r) (rg : Nat) : Go.Lift.Spec prog 38 [.rp rg t_] [(rg, .abs (regAbs mem))] (fun v H => v = .bool r.1 ∧ H = [(rg, .abs (regAbs r.2))]) := by
 unfold dict.Table_string.ready at h
 refine Go.Lift.Spec.of_body (rs := [.tmp 2]) func38 Z Z (nb Z) Z (xr (xa (.bool false) Z (pu_assign Z (AEv.bool _)) (xe ?_)))
 obtain ⟨s91, s91e, h92⟩ := bind_some h
 refine aw_meet (ν := Unit) (fun v => [(0, .rp rg t_)]) (fun v => [(rg, .abs (regAbs s91))]) ?_ ?_
 ·have h := s91e
  obtain ⟨s100, s100e, h101⟩ := bind_some h
  refine aw_meet (ν := Unit) (fun v => [(0, .rp rg t_), (13, .bool s100)]) (fun v => [(rg, .abs (regAbs mem))]) ?_ ?_
  ·have h := s100e
   refine aw_region (xm Z Z Z (xa (.bool t_.isSome) Z (pu_regNotNil Z underlying30 (tm Z) AEv.nilp) (xm Z Z Z ?_)))
   rcases Bool.eq_false_or_eq_true t_.isSome with hb103 | hb103
   ·replace h := ite_t hb103 h
    refine aops_known 5 Z hb103 (xq Z Z Z Z ?_)
    obtain ⟨c104, h⟩ := need_of h
    refine xp (.rp rg t_) Z Z (pu_regCheck Z (tm Z) c104) (xp (.rp rg (rpAdd t_ 1)) Z Z (pu_regField Z underlying71 Z sizeOf69 (by decide) (tm Z) c104 Z) ?_)
    obtain ⟨c105, h⟩ := need_of h
    obtain ⟨c106, h⟩ := need_of h
    refine xp (.rp rg (rpAdd (rpAdd t_ 1) 0)) Z Z (pu_regIndexA Z underlying69 sizeOf67 (tm Z) (AEv.int _ _) c105 c106) ?_
    obtain ⟨c107, h⟩ := need_of h
    refine xp (.rp rg (rpAdd (rpAdd (rpAdd t_ 1) 0) 1)) Z Z (pu_regField Z underlying67 Z sizeOf65 (by decide) (tm Z) c107 Z) ?_
    obtain ⟨r108, r108e, h⟩ := bind_some h
    refine xg Z Z (op_regLoad (i := 0) (av := .rs rg r108) Z isAgg65 (tm Z) Z (rLdL_eq r108e) Z (xp (.bool r108.isNone) Z Z (pu_regNilS Z underlying65 (tm Z)) (xa (.bool r108.isNone) Z (pu_pick (b := true) Z (tm Z) (fun _ => (tm Z)) (fun h => nomatch h)) (xe ?_))))
    obtain rfl := some_of h
    exact ⟨(), Weak.mkL [0] (by decide) ⟨⟨_, Z, Z⟩, trivial⟩ ⟨tm Z, tm Z, trivial⟩⟩
   ·replace h := ite_fb hb103 h
    refine aops_known 5 Z hb103 (xn Z Z Z (xn Z Z Z (xn Z Z Z (xn Z Z Z (xn Z Z Z (xn Z Z Z (xn Z Z Z (xa (.bool false) Z (pu_pick (b := false) Z (tm Z) (fun h => nomatch h) (fun _ => (AEv.bool _))) (xe ?_)))))))))
    obtain rfl := some_of h
    exact ⟨(), Weak.mkL [0] (by decide) ⟨⟨_, Z, Z⟩, trivial⟩ ⟨tm Z, tm Z, trivial⟩⟩
  ·intro _
   have h := h101
   refine aw_cond (b := s100) (tm Z) (fun hb122 => ?_) (fun hb122 => ?_)
   ·replace h := ite_t hb122 h
    refine aw_region (xm Z Z Z (xm Z Z Z ?_))
    obtain ⟨c109, h⟩ := need_of h
    refine xa (.rp rg t_) Z (pu_regCheck Z (tm Z) c109) (xa (.rp rg (rpAdd t_ 0)) Z (pu_regField Z underlying71 Z sizeOf22 (by decide) (tm Z) c109 Z) ?_)
    obtain ⟨r110, r110e, h⟩ := bind_some h
    refine xc Z (op_regLoad (i := 0) (av := .int .u64 r110) Z isAgg22 (tm Z) Z (rLdI_eq r110e) Z ?_)
    obtain ⟨r111, r111e, h⟩ := bind_some h
    refine xc Z (op_call (vs := [.int .u64 r110]) (H := [(rg, .abs (regAbs mem))]) Z call14 ⟨(tm Z), trivial⟩ (List.Perm.refl _) (dict.New_string.ok r111e rg) ?_)
    rintro _ _ ⟨rfl, rfl⟩
    obtain ⟨c112, h⟩ := need_of h
    refine xa (.rp rg r111.1) Z (pu_regCheck Z (tm Z) c112) ?_
    obtain ⟨r113, r113e, h⟩ := bind_some h
    obtain ⟨r114, r114e, h⟩ := bind_some h
    obtain ⟨r115, r115e, h⟩ := bind_some h
    obtain ⟨r116, r116e, h⟩ := bind_some h
    obtain ⟨r117, r117e, h⟩ := bind_some h
    obtain ⟨r118, r118e, h⟩ := bind_some h
    obtain ⟨r119, r119e, h⟩ := bind_some h
    obtain ⟨r120, r120e, h⟩ := bind_some h
    refine xc Z (op_regLoadN (i := 0) (vs := [.it .u64 r113, .it .i64 r114, .sc r115, .it .i64 r116, .sc r117, .it .i64 r118, .bo r119, .it .i64 r120]) (avs := [.int .u64 r113, .i r114, .rs rg r115, .i r116, .rs rg r117, .i r118, .bool r119, .i r120]) Z isAgg71 sizeOf71 (tm Z) Z ⟨rLdI_eq r113e, rLdI_eq r114e, rLdL_eq r115e, rLdI_eq r116e, rLdL_eq r117e, rLdI_eq r118e, rLdB_eq r119e, rLdI_eq r120e, trivial⟩ Z (by decide) Z (xa (.rp rg t_) Z (pu_regCheck Z (tm Z) c109) ?_))
    obtain ⟨r121, r121e, h⟩ := bind_some h
    refine ac0 Z Z (op_regStore (i := 0) [.it .u64 r113, .it .i64 r114, .sc r115, .it .i64 r116, .sc r117, .it .i64 r118, .bo r119, .it .i64 r120] Z sizeOf71 (tm Z) (v := .agg [.int .u64 r113, .i r114, .rs rg r115, .i r116, .rs rg r117, .i r118, .bool r119, .i r120]) (tm Z) Z Z Z r121e (xe ?_))
    obtain rfl := some_of h
    exact ⟨(), Weak.mkL [0] (by decide) ⟨⟨_, Z, Z⟩, trivial⟩ ⟨tm Z, trivial⟩⟩
   ·replace h := ite_fb hb122 h
    refine aw_skip ?_
    obtain rfl := some_of h
    exact ⟨(), Weak.mkL [0] (by decide) ⟨⟨_, Z, Z⟩, trivial⟩ ⟨tm Z, trivial⟩⟩
 ·intro _
  have h := h92
  refine xr (xm Z Z Z (xa (.bool t_.isSome) Z (pu_regNotNil Z underlying30 (tm Z) AEv.nilp) (xm Z Z Z (xe (aw_ret ?_)))))
  obtain rfl := some_of h
  exact ⟨[.bool t_.isSome], _, [(rg, .abs (regAbs s91))], ⟨(tm Z), trivial⟩, vr, Weak.mkL [0] (by decide) ⟨⟨_, Z, Z⟩, trivial⟩ trivial, ⟨Z, Z⟩⟩

theorem hash.Of.ok {seed : Int} {s_ : List UInt8} {r : Int} (h : hash.Of seed s_ = some r) : Go.Lift.Spec prog 71 [.int .u64 seed, .str s_] [] (fun v H => v = .int .u64 r ∧ H = []) := by
 unfold hash.Of at h
 refine Go.Lift.Spec.of_body (rs := [.tmp 4]) func71 Z Z (nb Z) Z (xr (xa (.int .u64 0) Z (pu_assign Z (AEv.int _ _)) (xe (xr (xm Z Z Z (xa (.int .u64 (Go.bits .xor .u64 14695981039346656037 seed)) Z (pu_int (v := .int .u64 (Go.bits .xor .u64 14695981039346656037 seed)) Z Z (AEv.int _ _) (tm Z) Z) (xm Z Z Z ?_)))))))
 refine xe ?_
 obtain ⟨s76, s76e, h77⟩ := bind_some h
 refine aw_meet (ν := Unit) (fun v => [(5, .int .u64 s76)]) (fun v => []) ?_ ?_
 ·have h := s76e
  refine xr (xm Z Z Z (xa (.i (s_.length : Int)) Z (pu_strLen Z underlying9 (tm Z)) (xa (.i 0) Z (pu_move Z (AEv.int _ _)) (xe (aw_block (aw_while (σ := hash.Of.S0) (ν := Unit) (hash.Of.body0 s_) (fun s86 v => [(1, .str s_), (5, .int .u64 s86.h), (12, .i (s_.length : Int)), (13, .i s86.t13)]) (fun s86 v => []) ⟨Go.bits .xor .u64 14695981039346656037 seed, 0⟩ () _ h (Weak.mkL [] (by decide) trivial ⟨tm Z, (AEv.le (tm Z) vr), tm Z, tm Z, trivial⟩) ?_))))))
  rintro s86 _ x88 h hx87
  unfold hash.Of.body0 at h
  refine xr (xa (.bool (decide (s86.t13 < (s_.length : Int)))) Z (pu_int (v := .bool (decide (s86.t13 < (s_.length : Int)))) Z Z (tm Z) (tm Z) Z) (xe (aw_seq (aw_cond (b := decide (s86.t13 < (s_.length : Int))) (tm Z) (fun hb91 => ?_) (fun hb91 => ?_)))))
  ·replace h := ite_t (dec_t hb91) h
   refine aw_skip (aw_seq (aw_block (xr (xm Z Z Z (xm Z Z Z (xe (aw_region (xm Z Z Z ?_))))))))
   refine xm Z Z Z (xm Z Z Z ?_)
   obtain ⟨c90, h⟩ := need_of h
   refine xa (.int .u8 (bix s_ s86.t13)) Z (pu_strIdxM Z underlying9 (tm Z) (tm Z) c90) (xa (.int .u64 (IntKind.wrap .u64 (bix s_ s86.t13))) Z (pu_conv Z underlying5 underlying22 (tm Z)) (xa (.int .u64 (Go.bits .xor .u64 s86.h (IntKind.wrap .u64 (bix s_ s86.t13)))) Z (pu_int (v := .int .u64 (Go.bits .xor .u64 s86.h (IntKind.wrap .u64 (bix s_ s86.t13)))) Z Z (tm Z) (tm Z) Z) (xa (.int .u64 (IntKind.wrap .u64 ((Go.bits .xor .u64 s86.h (IntKind.wrap .u64 (bix s_ s86.t13))) * 1099511628211))) Z (pu_int (v := .int .u64 (IntKind.wrap .u64 ((Go.bits .xor .u64 s86.h (IntKind.wrap .u64 (bix s_ s86.t13))) * 1099511628211))) Z Z (tm Z) (AEv.int _ _) Z) (xm Z Z Z (xe (aw_region (xa (.i (IntKind.wrap .i64 (s86.t13 + 1))) Z (pu_int (v := .i (IntKind.wrap .i64 (s86.t13 + 1))) Z Z (tm Z) (AEv.int _ _) Z) (xm Z Z Z (xe ?_)))))))))
   obtain rfl := some_of h
   exact ⟨_, (), Z, Weak.mkL [] (by decide) trivial ⟨tm Z, (AEv.le (tm Z) vr), tm Z, (AEv.le (tm Z) vr), trivial⟩⟩
  ·replace h := ite_f (dec_f hb91) h
   refine aw_exit ?_
   obtain rfl := some_of h
   have h := congrArg some (hx87 _ rfl)
   obtain rfl := some_of h
   exact ⟨(), Weak.mkL [] (by decide) trivial ⟨tm Z, trivial⟩⟩
 ·intro _
  have h := h77
  obtain ⟨s107, s107e, h108⟩ := bind_some h
  refine aw_meet (ν := Unit) (fun v => [(5, .int .u64 s107)]) (fun v => []) ?_ ?_
  ·have h := s107e
   refine xr (xa (.agg [.int .u64 18397679294719823053, .int .u64 14181476777654086739, .int .u64 1]) Z (pu_buildArr (zs := [.int .u64 0, .int .u64 0, .int .u64 0]) (aparts := [(0, .int .u64 18397679294719823053), (1, .int .u64 14181476777654086739), (2, .int .u64 1)]) (cs := [.int .u64 18397679294719823053, .int .u64 14181476777654086739, .int .u64 1]) Z underlying126 sizeOf22 zeroValue126 Z ⟨Z, (AEv.int _ _), ⟨Z, (AEv.int _ _), ⟨Z, (AEv.int _ _), trivial⟩⟩⟩ Z) (xa (.i 0) Z (pu_move Z (AEv.int _ _)) (xe (aw_block (aw_while (σ := hash.Of.S2) (ν := Unit) hash.Of.body2 (fun s118 v => [(5, .int .u64 s118.h), (24, .agg [.int .u64 18397679294719823053, .int .u64 14181476777654086739, .int .u64 1]), (25, .i s118.t25)]) (fun s118 v => []) ⟨s76, 0⟩ () _ h (Weak.mkL [] (by decide) trivial ⟨tm Z, tm Z, tm Z, trivial⟩) ?_)))))
   rintro s118 _ x120 h hx119
   unfold hash.Of.body2 at h
   refine xr (xa (.bool (decide (s118.t25 < 3))) Z (pu_int (v := .bool (decide (s118.t25 < 3))) Z Z (tm Z) (AEv.int _ _) Z) (xe (aw_seq (aw_cond (b := decide (s118.t25 < 3)) (tm Z) (fun hb124 => ?_) (fun hb124 => ?_)))))
   ·replace h := ite_t (dec_t hb124) h
    refine aw_skip (aw_seq (aw_block (aw_seq (aw_region ?_))))
    obtain ⟨c122, h⟩ := need_of h
    refine xa (.int .u64 (ix ([18397679294719823053, 14181476777654086739, 1] : List Int) s118.t25)) Z (pu_idxArrM (f := (AV.int .u64)) (ys := ([18397679294719823053, 14181476777654086739, 1] : List Int)) Z underlying126 sizeOf22 isAgg22 (tm Z) (tm Z) Z Z c122) (xm Z Z Z (xe (aw_region (xm Z Z Z (xm Z Z Z (xa (.int .u64 (s118.h / 2 ^ min (Int.toNat 33) (IntKind.bits .u64))) Z (pu_shr Z (tm Z) (AEv.int _ _) (by decide)) (xa (.int .u64 (Go.bits .xor .u64 s118.h (s118.h / 2 ^ min (Int.toNat 33) (IntKind.bits .u64)))) Z (pu_int (v := .int .u64 (Go.bits .xor .u64 s118.h (s118.h / 2 ^ min (Int.toNat 33) (IntKind.bits .u64)))) Z Z (tm Z) (tm Z) Z) (xm Z Z Z ?_))))))))
    obtain ⟨x123, x123e, h⟩ := letO_of h
    refine xa (.int .u64 x123) Z (APure.eq (pu_int (v := .int .u64 (IntKind.wrap .u64 ((Go.bits .xor .u64 s118.h (s118.h / 2 ^ min (Int.toNat 33) (IntKind.bits .u64))) * (ix ([18397679294719823053, 14181476777654086739, 1] : List Int) s118.t25)))) Z Z (tm Z) (tm Z) Z) (congrArg (AV.int .u64) x123e.symm)) (xm Z Z Z (xe (aw_region (xa (.i (IntKind.wrap .i64 (s118.t25 + 1))) Z (pu_int (v := .i (IntKind.wrap .i64 (s118.t25 + 1))) Z Z (tm Z) (AEv.int _ _) Z) (xm Z Z Z (xe ?_))))))
    obtain rfl := some_of h
    exact ⟨_, (), Z, Weak.mkL [] (by decide) trivial ⟨tm Z, tm Z, (AEv.le (tm Z) vr), trivial⟩⟩
   ·replace h := ite_f (dec_f hb124) h
    refine aw_exit ?_
    obtain rfl := some_of h
    have h := congrArg some (hx119 _ rfl)
    obtain rfl := some_of h
    exact ⟨(), Weak.mkL [] (by decide) trivial ⟨tm Z, trivial⟩⟩
  ·intro _
   have h := h108
   refine xr (xm Z Z Z (xm Z Z Z (xe (aw_ret ?_))))
   obtain rfl := some_of h
   exact ⟨[.int .u64 s107], _, [], ⟨(tm Z), trivial⟩, vr, Weak.mkL [] (by decide) trivial trivial, ⟨Z, Z⟩⟩

theorem hash.size.ok {b : Int} {r : Int} (h : hash.size b = some r) : Go.Lift.Spec prog 74 [.i b] [] (fun v H => v = .i r ∧ H = []) := by
 unfold hash.size at h
 refine Go.Lift.Spec.of_body (rs := [.tmp 2]) func74 Z Z (nb Z) Z (xr (xa (.i 0) Z (pu_assign Z (AEv.int _ _)) (xe (xr (xm Z Z Z (xa (.i (if b < 0 then 0 else b)) Z (pu_max2 Z (tm Z) (AEv.int _ _)) (xa (.i (if 16 < (if b < 0 then 0 else b) then 16 else (if b < 0 then 0 else b))) Z (pu_min2 Z (tm Z) (AEv.int _ _)) ?_)))))))
 refine xm Z Z Z (xe (aw_ret ?_))
 obtain rfl := some_of h
 exact ⟨[.i (if 16 < (if b < 0 then 0 else b) then 16 else (if b < 0 then 0 else b))], _, [], ⟨(tm Z), trivial⟩, vr, Weak.mkL [] (by decide) trivial trivial, ⟨Z, Z⟩⟩

theorem hash.low.ok {n_ : Int} {b : Int} {r : Int} (h : hash.low n_ b = some r) : Go.Lift.Spec prog 73 [.int .u64 n_, .i b] [] (fun v H => v = .int .u64 r ∧ H = []) := by
 unfold hash.low at h
 refine Go.Lift.Spec.of_body (rs := [.tmp 4]) func73 Z Z (nb Z) Z (xr (xa (.int .u64 0) Z (pu_assign Z (AEv.int _ _)) (xe (xr (xm Z Z Z (xm Z Z Z ?_))))))
 obtain ⟨r3, r3e, h⟩ := bind_some h
 refine xc Z (op_call (vs := [.i b]) (H := []) Z call74 ⟨(tm Z), trivial⟩ (List.Perm.refl _) (hash.size.ok r3e) ?_)
 rintro _ _ ⟨rfl, rfl⟩
 obtain ⟨c4, h⟩ := need_of h
 refine xa (.int .u64 (IntKind.wrap .u64 (1 * 2 ^ min (Int.toNat r3) (IntKind.bits .u64)))) Z (pu_shl Z (AEv.int _ _) (tm Z) c4) (xa (.int .u64 (IntKind.wrap .u64 ((IntKind.wrap .u64 (1 * 2 ^ min (Int.toNat r3) (IntKind.bits .u64))) - 1))) Z (pu_int (v := .int .u64 (IntKind.wrap .u64 ((IntKind.wrap .u64 (1 * 2 ^ min (Int.toNat r3) (IntKind.bits .u64))) - 1))) Z Z (tm Z) (AEv.int _ _) Z) (xa (.int .u64 (Go.bits .and .u64 n_ (IntKind.wrap .u64 ((IntKind.wrap .u64 (1 * 2 ^ min (Int.toNat r3) (IntKind.bits .u64))) - 1)))) Z (pu_int (v := .int .u64 (Go.bits .and .u64 n_ (IntKind.wrap .u64 ((IntKind.wrap .u64 (1 * 2 ^ min (Int.toNat r3) (IntKind.bits .u64))) - 1)))) Z Z (tm Z) (tm Z) Z) (xm Z Z Z (xe (aw_ret ?_)))))
 obtain rfl := some_of h
 exact ⟨[.int .u64 (Go.bits .and .u64 n_ (IntKind.wrap .u64 ((IntKind.wrap .u64 (1 * 2 ^ min (Int.toNat r3) (IntKind.bits .u64))) - 1)))], _, [], ⟨(tm Z), trivial⟩, vr, Weak.mkL [] (by decide) trivial trivial, ⟨Z, Z⟩⟩

theorem hash.Place.ok {h_ : Int} {b : Int} {r : Int} (h : hash.Place h_ b = some r) : Go.Lift.Spec prog 70 [.int .u64 h_, .i b] [] (fun v H => v = .i r ∧ H = []) := by
 unfold hash.Place at h
 refine Go.Lift.Spec.of_body (rs := [.tmp 4]) func70 Z Z (nb Z) Z (xr (xa (.i 0) Z (pu_assign Z (AEv.int _ _)) (xe (xr (xm Z Z Z (xm Z Z Z ?_))))))
 obtain ⟨r2, r2e, h⟩ := bind_some h
 refine xc Z (op_call (vs := [.int .u64 h_, .i b]) (H := []) Z call73 ⟨(tm Z), (tm Z), trivial⟩ (List.Perm.refl _) (hash.low.ok r2e) ?_)
 rintro _ _ ⟨rfl, rfl⟩
 refine xa (.i (IntKind.wrap .i64 r2)) Z (pu_conv Z underlying22 underlying3 (tm Z)) (xm Z Z Z (xe (aw_ret ?_)))
 obtain rfl := some_of h
 exact ⟨[.i (IntKind.wrap .i64 r2)], _, [], ⟨(tm Z), trivial⟩, vr, Weak.mkL [] (by decide) trivial trivial, ⟨Z, Z⟩⟩

theorem dict.Table_string.slot.ok {t_ : RP} {k_ : Int} {key : List UInt8} {mem : Reg} {r : RP} (h : dict.Table_string.slot t_ k_ key mem = some r) (rg : Nat) : Go.Lift.Spec prog 62 [.rp rg t_, .i k_, .str key] [(rg, .abs (regAbs mem))] (fun v H => v = .rp rg r ∧ H = [(rg, .abs (regAbs mem))]) := by
 unfold dict.Table_string.slot at h
 refine Go.Lift.Spec.of_body (rs := [.tmp 6]) func62 Z Z (nb Z) Z (xr (xa (.rp rg (none : RP)) Z (pu_assign Z (AEv.rpn _)) (xe (xr (xm Z Z Z (xm Z Z Z ?_))))))
 obtain ⟨c11, h⟩ := need_of h
 refine xa (.rp rg t_) Z (pu_regCheck Z (tm Z) c11) (xa (.rp rg (rpAdd t_ 1)) Z (pu_regField Z underlying71 Z sizeOf69 (by decide) (tm Z) c11 Z) ?_)
 obtain ⟨c12, h⟩ := need_of h
 obtain ⟨c13, h⟩ := need_of h
 refine xa (.rp rg (rpAdd (rpAdd t_ 1) (Int.toNat k_ * 2))) Z (pu_regIndexA Z underlying69 sizeOf67 (tm Z) (tm Z) c12 c13) (xm Z Z Z (xe (aw_seq ?_)))
 obtain ⟨c14, h⟩ := need_of h
 obtain ⟨r15, r15e, h⟩ := bind_some h
 obtain ⟨r16, r16e, h⟩ := bind_some h
 obtain ⟨r17, r17e, h⟩ := bind_some h
 obtain ⟨r18, r18e, h⟩ := bind_some h
 obtain ⟨r19, r19e, h⟩ := bind_some h
 obtain ⟨c20, h⟩ := need_of h
 refine aw_planR (by decide +kernel) [[], [], [], [(0, 0, false)], [], [], [], [(0, 0, false)], [], [], [], [], [], [(0, 0, false)], [], [], []] [[]] [[[(rg, .abs (regAbs mem))]]] [.rp rg (rpAdd (rpAdd t_ 1) (Int.toNat k_ * 2)), .rp rg (rpAdd (rpAdd t_ 1) (Int.toNat k_ * 2)), .rp rg (rpAdd (rpAdd (rpAdd t_ 1) (Int.toNat k_ * 2)) 1), .rs rg r15, .rp rg t_, .rp rg t_, .rp rg (rpAdd t_ 0), .int .u64 r16, .str key, .int .u64 r17, .rp rg (rpAdd (rpAdd t_ 1) (Int.toNat k_ * 2)), .rp rg (rpAdd (rpAdd t_ 1) (Int.toNat k_ * 2)), .rp rg (rpAdd (rpAdd (rpAdd t_ 1) (Int.toNat k_ * 2)) 0), .i r18, .i r19, .rp rg (rsPtr r15 r19 1), .rp rg (rsPtr r15 r19 1)] (by decide +kernel) Z Z ?_ ?_
 ·exact ⟨ym Z Z Z, yp Z (pu_regCheck Z (tm Z) c14), yp Z (pu_regField Z underlying67 Z sizeOf65 (by decide) (tm Z) c14 Z), stepg_plain Z (op_regLoad (i := 0) (av := .rs rg r15) Z isAgg65 (tm Z) Z (rLdL_eq r15e) Z ⟨Z, Z⟩), ym Z Z Z, yp Z (pu_regCheck Z (tm Z) c11), yp Z (pu_regField Z underlying71 Z sizeOf22 (by decide) (tm Z) c11 Z), stepg_plain Z (op_regLoad (i := 0) (av := .int .u64 r16) Z isAgg22 (tm Z) Z (rLdI_eq r16e) Z ⟨Z, Z⟩), ym Z Z Z, stepg_plain Z (op_call (vs := [.int .u64 r16, .str key]) (H := []) Z call71 ⟨(tm Z), (tm Z), trivial⟩ (R := []) (List.Perm.refl _) (hash.Of.ok r17e) (by rintro _ _ ⟨rfl, rfl⟩; exact ⟨Z, Z⟩)), ym Z Z Z, yp Z (pu_regCheck Z (tm Z) c14), yp Z (pu_regField Z underlying67 Z sizeOf3 (by decide) (tm Z) c14 Z), stepg_plain Z (op_regLoad (i := 0) (av := .i r18) Z isAgg3 (tm Z) Z (rLdI_eq r18e) Z ⟨Z, Z⟩), stepg_plain Z (op_call (vs := [.int .u64 r17, .i r18]) (H := []) Z call70 ⟨(tm Z), (tm Z), trivial⟩ (R := []) (List.Perm.refl _) (hash.Place.ok r19e) (by rintro _ _ ⟨rfl, rfl⟩; exact ⟨Z, Z⟩)), yp Z (pu_regIndexS Z underlying65 sizeOf87 (tm Z) (tm Z) c20), ym Z Z Z, trivial⟩
 refine aw_ret ?_
 obtain rfl := some_of h
 exact ⟨[.rp rg (rsPtr r15 r19 1)], _, [(rg, .abs (regAbs mem))], ⟨(tm Z), trivial⟩, vr, Weak.mkL [0] (by decide) ⟨⟨_, Z, Z⟩, trivial⟩ trivial, ⟨Z, Z⟩⟩

theorem dict.Table_string.front.ok {t_ : RP} {k_ : Int} {x_ : RP} {mem : Reg} {r : Reg} (h : dict.Table_string.front t_ k_ x_ mem = some r) (rg : Nat) : Go.Lift.Spec prog 41 [.rp rg t_, .i k_, .rp rg x_] [(rg, .abs (regAbs mem))] (fun v H => v = .tup [] ∧ H = [(rg, .abs (regAbs r))]) := by
 unfold dict.Table_string.front at h
 refine Go.Lift.Spec.of_body (rs := []) func41 Z Z (nb Z) Z (aw_upd (xr (xm Z Z Z (xm Z Z Z (xm Z Z Z ?_)))))
 obtain ⟨c8, h⟩ := need_of h
 refine xa (.rp rg x_) Z (pu_regCheck Z (tm Z) c8) (xa (.rp rg (rpAdd x_ 0)) Z (pu_regField Z underlying89 Z sizeOf9 (by decide) (tm Z) c8 Z) ?_)
 obtain ⟨r9, r9e, h⟩ := bind_some h
 refine xc Z (op_regLoad (i := 0) (av := .str r9) Z isAgg9 (tm Z) Z (rLdS_eq r9e) Z ?_)
 obtain ⟨r10, r10e, h⟩ := bind_some h
 refine xc Z (op_call (vs := [.rp rg t_, .i k_, .str r9]) (H := [(rg, .abs (regAbs mem))]) Z call62 ⟨(tm Z), (tm Z), (tm Z), trivial⟩ (List.Perm.refl _) (dict.Table_string.slot.ok r10e rg) ?_)
 rintro _ _ ⟨rfl, rfl⟩
 refine xm Z Z Z (xe (aw_region (xm Z Z Z (xm Z Z Z (xm Z Z Z ?_)))))
 obtain ⟨c11, h⟩ := need_of h
 refine xa (.rp rg r10) Z (pu_regCheck Z (tm Z) c11) ?_
 obtain ⟨r12, r12e, h⟩ := bind_some h
 refine xc Z (op_regLoad (i := 0) (av := .rp rg r12) Z isAgg87 (tm Z) Z (rLdP_eq r12e) Z (xm Z Z Z (xa (.rp rg x_) Z (pu_regCheck Z (tm Z) c8) (xa (.rp rg (rpAdd x_ 2)) Z (pu_regField Z underlying89 Z sizeOf87 (by decide) (tm Z) c8 Z) ?_))))
 obtain ⟨r13, r13e, h⟩ := bind_some h
 refine ac0 Z Z (op_regStore (i := 0) [.pt r12] Z sizeOf87 (tm Z) (v := .rp rg r12) (tm Z) Z Z Z r13e (xa (.rp rg r10) Z (pu_regCheck Z (tm Z) c11) ?_))
 obtain ⟨r14, r14e, h⟩ := bind_some h
 refine ac0 Z Z (op_regStore (i := 0) [.pt x_] Z sizeOf87 (tm Z) (v := .rp rg x_) (tm Z) Z Z Z r14e (xe (upd_done ?_)))
 obtain rfl := some_of h
 exact ⟨[], _, [(rg, .abs (regAbs r14))], trivial, vr, Weak.mkL [0] (by decide) ⟨⟨_, Z, Z⟩, trivial⟩ trivial, ⟨Z, Z⟩⟩

theorem dict.Table_string.step.ok {t_ : RP} {mem : Reg} {r : Bool × Reg} (h : dict.Table_string.step t_ mem = some r) (rg : Nat) : Go.Lift.Spec prog 39 [.rp rg t_] [(rg, .abs (regAbs mem))] (fun v H => v = .bool r.1 ∧ H = [(rg, .abs (regAbs r.2))]) := by
 unfold dict.Table_string.step at h
 refine Go.Lift.Spec.of_body (rs := [.tmp 2]) func39 Z Z (nb Z) Z (xr (xa (.bool false) Z (pu_assign Z (AEv.bool _)) (xe (aw_seq (xr (xm Z Z Z ?_))))))
 obtain ⟨c88, h⟩ := need_of h
 refine xa (.rp rg t_) Z (pu_regCheck Z (tm Z) c88) (xa (.rp rg (rpAdd t_ 6)) Z (pu_regField Z underlying71 Z sizeOf4 (by decide) (tm Z) c88 Z) ?_)
 obtain ⟨r89, r89e, h⟩ := bind_some h
 refine xc Z (op_regLoad (i := 0) (av := .bool r89) Z isAgg4 (tm Z) Z (rLdB_eq r89e) Z (xa (.bool (!r89)) Z (pu_not Z (tm Z)) (xe (aw_cond (b := (!r89)) (tm Z) (fun hb174 => ?_) (fun hb174 => ?_)))))
 ·replace h := ite_t hb174 h
  refine xr (xa (.bool false) Z (pu_assign Z (AEv.bool _)) (xe (aw_ret ?_)))
  obtain rfl := some_of h
  exact ⟨[.bool false], _, [(rg, .abs (regAbs mem))], ⟨(tm Z), trivial⟩, vr, Weak.mkL [0] (by decide) ⟨⟨_, Z, Z⟩, trivial⟩ trivial, ⟨Z, Z⟩⟩
 ·replace h := ite_fb hb174 h
  refine aw_skip (aw_seq ?_)
  obtain ⟨c90, h⟩ := need_of h
  obtain ⟨c91, h⟩ := need_of h
  obtain ⟨c92, h⟩ := need_of h
  obtain ⟨r93, r93e, h⟩ := bind_some h
  obtain ⟨r94, r94e, h⟩ := bind_some h
  obtain ⟨c95, h⟩ := need_of h
  obtain ⟨r96, r96e, h⟩ := bind_some h
  refine aw_planR (by decide +kernel) [[], [], [], [], [], [(0, 0, false)], [], [], [], [(0, 0, false)], [], [(0, 0, false)], []] [[]] [[[(rg, .abs (regAbs mem))]]] [.rp rg t_, .rp rg t_, .rp rg (rpAdd t_ 1), .rp rg (rpAdd (rpAdd t_ 1) 0), .rp rg (rpAdd (rpAdd (rpAdd t_ 1) 0) 1), .rs rg r93, .rp rg t_, .rp rg t_, .rp rg (rpAdd t_ 5), .i r94, .rp rg (rsPtr r93 r94 1), .rp rg r96, .rp rg r96] (by decide +kernel) Z Z ?_ ?_
  ·exact ⟨ym Z Z Z, yp Z (pu_regCheck Z (tm Z) c88), yp Z (pu_regField Z underlying71 Z sizeOf69 (by decide) (tm Z) c88 Z), yp Z (pu_regIndexA Z underlying69 sizeOf67 (tm Z) (AEv.int _ _) c90 c91), yp Z (pu_regField Z underlying67 Z sizeOf65 (by decide) (tm Z) c92 Z), stepg_plain Z (op_regLoad (i := 0) (av := .rs rg r93) Z isAgg65 (tm Z) Z (rLdL_eq r93e) Z ⟨Z, Z⟩), ym Z Z Z, yp Z (pu_regCheck Z (tm Z) c88), yp Z (pu_regField Z underlying71 Z sizeOf3 (by decide) (tm Z) c88 Z), stepg_plain Z (op_regLoad (i := 0) (av := .i r94) Z isAgg3 (tm Z) Z (rLdI_eq r94e) Z ⟨Z, Z⟩), yp Z (pu_regIndexS Z underlying65 sizeOf87 (tm Z) (tm Z) c95), stepg_plain Z (op_regLoad (i := 0) (av := .rp rg r96) Z isAgg87 (tm Z) Z (rLdP_eq r96e) Z ⟨Z, Z⟩), ym Z Z Z, trivial⟩
  refine aw_seq ?_
  obtain ⟨c97, h⟩ := need_of h
  obtain ⟨r98, r98e, h⟩ := bind_some h
  obtain ⟨r99, r99e, h⟩ := bind_some h
  obtain ⟨c100, h⟩ := need_of h
  obtain ⟨r101, r101e, h⟩ := bind_some h
  refine aw_planR (by decide +kernel) [[], [], [], [], [], [(0, 0, false)], [], [], [], [(0, 0, false)], [], [(0, 0, true)]] [[11]] [[[(rg, .abs (regAbs mem))], [(rg, .abs (regAbs r101))]]] [.rp rg t_, .rp rg t_, .rp rg (rpAdd t_ 1), .rp rg (rpAdd (rpAdd t_ 1) 0), .rp rg (rpAdd (rpAdd (rpAdd t_ 1) 0) 1), .rs rg r98, .rp rg t_, .rp rg t_, .rp rg (rpAdd t_ 5), .i r99, .rp rg (rsPtr r98 r99 1), .un] (by decide +kernel) Z Z ?_ ?_
  ·exact ⟨ym Z Z Z, yp Z (pu_regCheck Z (tm Z) c88), yp Z (pu_regField Z underlying71 Z sizeOf69 (by decide) (tm Z) c88 Z), yp Z (pu_regIndexA Z underlying69 sizeOf67 (tm Z) (AEv.int _ _) c90 c97), yp Z (pu_regField Z underlying67 Z sizeOf65 (by decide) (tm Z) c92 Z), stepg_plain Z (op_regLoad (i := 0) (av := .rs rg r98) Z isAgg65 (tm Z) Z (rLdL_eq r98e) Z ⟨Z, Z⟩), ym Z Z Z, yp Z (pu_regCheck Z (tm Z) c88), yp Z (pu_regField Z underlying71 Z sizeOf3 (by decide) (tm Z) c88 Z), stepg_plain Z (op_regLoad (i := 0) (av := .i r99) Z isAgg3 (tm Z) Z (rLdI_eq r99e) Z ⟨Z, Z⟩), yp Z (pu_regIndexS Z underlying65 sizeOf87 (tm Z) (tm Z) c100), stepg_plain Z (op_regStore (i := 0) [.pt (none : RP)] Z sizeOf87 (tm Z) (v := .rp rg (none : RP)) (AEv.rpn _) Z Z Z r101e ⟨Z, Z⟩), trivial⟩
  obtain ⟨s120, s120e, h121⟩ := bind_some h
  refine aw_meet (ν := Unit) (fun v => [(0, .rp rg t_)]) (fun v => [(rg, .abs (regAbs s120))]) ?_ ?_
  ·have h := s120e
   refine aw_block (aw_while (σ := dict.Table_string.step.S0) (ν := Unit) (dict.Table_string.step.body0 t_) (fun s133 v => [(0, .rp rg t_), (3, .rp rg s133.x)]) (fun s133 v => [(rg, .abs (regAbs s133.mem))]) ⟨r96, r101⟩ () _ h (Weak.mkL [0] (by decide) ⟨⟨_, Z, Z⟩, trivial⟩ ⟨tm Z, tm Z, trivial⟩) ?_)
   rintro s133 _ x135 h hx134
   unfold dict.Table_string.step.body0 at h
   refine aw_seq (xr (xm Z Z Z (xa (.bool s133.x.isSome) Z (pu_regNotNil Z underlying87 (tm Z) AEv.nilp) (xe (aw_cond (b := s133.x.isSome) (tm Z) (fun hb140 => ?_) (fun hb140 => ?_))))))
   ·replace h := ite_t hb140 h
    refine aw_skip (aw_block (xr (xm Z Z Z ?_)))
    obtain ⟨c137, h⟩ := need_of h
    refine xa (.rp rg s133.x) Z (pu_regCheck Z (tm Z) c137) (xa (.rp rg (rpAdd s133.x 2)) Z (pu_regField Z underlying89 Z sizeOf87 (by decide) (tm Z) c137 Z) ?_)
    obtain ⟨r138, r138e, h⟩ := bind_some h
    refine xc Z (op_regLoad (i := 0) (av := .rp rg r138) Z isAgg87 (tm Z) Z (rLdP_eq r138e) Z (xm Z Z Z (xe (xr (xm Z Z Z (xm Z Z Z ?_))))))
    obtain ⟨r139, r139e, h⟩ := bind_some h
    refine xc Z (op_call (vs := [.rp rg t_, .i 1, .rp rg s133.x]) (H := [(rg, .abs (regAbs s133.mem))]) Z call41 ⟨(tm Z), (AEv.int _ _), (tm Z), trivial⟩ (List.Perm.refl _) (dict.Table_string.front.ok r139e rg) ?_)
    rintro _ _ ⟨rfl, rfl⟩
    refine xe (aw_region (xm Z Z Z (xm Z Z Z (xe ?_))))
    obtain rfl := some_of h
    exact ⟨_, (), Z, Weak.mkL [0] (by decide) ⟨⟨_, Z, Z⟩, trivial⟩ ⟨tm Z, tm Z, trivial⟩⟩
   ·replace h := ite_fb hb140 h
    refine aw_exit ?_
    obtain rfl := some_of h
    have h := congrArg some (hx134 _ rfl)
    obtain rfl := some_of h
    exact ⟨(), Weak.mkL [0] (by decide) ⟨⟨_, Z, Z⟩, trivial⟩ ⟨tm Z, trivial⟩⟩
  ·intro _
   have h := h121
   obtain ⟨s156, s156e, h157⟩ := bind_some h
   refine aw_meet (ν := Unit) (fun v => []) (fun v => [(rg, .abs (regAbs s156))]) ?_ ?_
   ·have h := s156e
    refine xr (xm Z Z Z ?_)
    obtain ⟨c159, h⟩ := need_of h
    refine xa (.rp rg t_) Z (pu_regCheck Z (tm Z) c159) (xa (.rp rg (rpAdd t_ 5)) Z (pu_regField Z underlying71 Z sizeOf3 (by decide) (tm Z) c159 Z) ?_)
    obtain ⟨r160, r160e, h⟩ := bind_some h
    refine xc Z (op_regLoad (i := 0) (av := .i r160) Z isAgg3 (tm Z) Z (rLdI_eq r160e) Z (xa (.i (IntKind.wrap .i64 (r160 + 1))) Z (pu_int (v := .i (IntKind.wrap .i64 (r160 + 1))) Z Z (tm Z) (AEv.int _ _) Z) (xa (.rp rg t_) Z (pu_regCheck Z (tm Z) c159) (xa (.rp rg (rpAdd t_ 5)) Z (pu_regField Z underlying71 Z sizeOf3 (by decide) (tm Z) c159 Z) ?_))))
    obtain ⟨r161, r161e, h⟩ := bind_some h
    refine ac0 Z Z (op_regStore (i := 0) [.it .i64 (IntKind.wrap .i64 (r160 + 1))] Z sizeOf3 (tm Z) (v := .i (IntKind.wrap .i64 (r160 + 1))) (tm Z) Z Z Z r161e (xe (aw_seq ?_)))
    obtain ⟨r162, r162e, h⟩ := bind_some h
    obtain ⟨c163, h⟩ := need_of h
    obtain ⟨c164, h⟩ := need_of h
    obtain ⟨c165, h⟩ := need_of h
    obtain ⟨r166, r166e, h⟩ := bind_some h
    refine aw_planR (by decide +kernel) [[], [], [], [(0, 0, false)], [], [], [], [], [], [(0, 0, false)], [], []] [[]] [[[(rg, .abs (regAbs r161))]]] [.rp rg t_, .rp rg t_, .rp rg (rpAdd t_ 5), .i r162, .rp rg t_, .rp rg t_, .rp rg (rpAdd t_ 1), .rp rg (rpAdd (rpAdd t_ 1) 0), .rp rg (rpAdd (rpAdd (rpAdd t_ 1) 0) 1), .rs rg r166, .i (rsLen r166 : Int), .bool (decide (r162 = (rsLen r166 : Int)))] (by decide +kernel) Z Z ?_ ?_
    ·exact ⟨ym Z Z Z, yp Z (pu_regCheck Z (tm Z) c159), yp Z (pu_regField Z underlying71 Z sizeOf3 (by decide) (tm Z) c159 Z), stepg_plain Z (op_regLoad (i := 0) (av := .i r162) Z isAgg3 (tm Z) Z (rLdI_eq r162e) Z ⟨Z, Z⟩), ym Z Z Z, yp Z (pu_regCheck Z (tm Z) c159), yp Z (pu_regField Z underlying71 Z sizeOf69 (by decide) (tm Z) c159 Z), yp Z (pu_regIndexA Z underlying69 sizeOf67 (tm Z) (AEv.int _ _) c163 c164), yp Z (pu_regField Z underlying67 Z sizeOf65 (by decide) (tm Z) c165 Z), stepg_plain Z (op_regLoad (i := 0) (av := .rs rg r166) Z isAgg65 (tm Z) Z (rLdL_eq r166e) Z ⟨Z, Z⟩), yp Z (pu_regLen Z underlying65 (tm Z)), yp Z (pu_int (v := .bool (decide (r162 = (rsLen r166 : Int)))) Z Z (tm Z) (tm Z) Z), trivial⟩
    refine aw_cond (b := decide (r162 = (rsLen r166 : Int))) (tm Z) (fun hb173 => ?_) (fun hb173 => ?_)
    ·replace h := ite_t (dec_t hb173) h
     refine xr (xm Z Z Z (xm Z Z Z (xa (.rp rg t_) Z (pu_regCheck Z (tm Z) c159) (xa (.rp rg (rpAdd t_ 1)) Z (pu_regField Z underlying71 Z sizeOf69 (by decide) (tm Z) c159 Z) ?_))))
     obtain ⟨c167, h⟩ := need_of h
     refine xa (.rp rg (rpAdd (rpAdd t_ 1) 2)) Z (pu_regIndexA Z underlying69 sizeOf67 (tm Z) (AEv.int _ _) c163 c167) ?_
     obtain ⟨r168, r168e, h⟩ := bind_some h
     obtain ⟨r169, r169e, h⟩ := bind_some h
     refine xc Z (op_regLoadN (i := 0) (vs := [.it .i64 r168, .sc r169]) (avs := [.i r168, .rs rg r169]) Z isAgg67 sizeOf67 (tm Z) Z ⟨rLdI_eq r168e, rLdL_eq r169e, trivial⟩ Z (by decide) Z (xa (.agg [.i r168, .rs rg r169, .i 0, .rs rg (none : RS)]) Z (pu_buildArr (zs := [.i 0, .rs rg (none : RS), .i 0, .rs rg (none : RS)]) (aparts := [(0, .agg [.i r168, .rs rg r169])]) (cs := [.i r168, .rs rg r169, .i 0, .rs rg (none : RS)]) Z underlying69 sizeOf67 zeroValue69 Z ⟨Z, (tm Z), trivial⟩ Z) (xa (.rp rg t_) Z (pu_regCheck Z (tm Z) c159) (xa (.rp rg (rpAdd t_ 1)) Z (pu_regField Z underlying71 Z sizeOf69 (by decide) (tm Z) c159 Z) ?_))))
     obtain ⟨r170, r170e, h⟩ := bind_some h
     refine ac0 Z Z (op_regStore (i := 0) [.it .i64 r168, .sc r169, .it .i64 0, .sc (none : RS)] Z sizeOf69 (tm Z) (v := .agg [.i r168, .rs rg r169, .i 0, .rs rg (none : RS)]) (tm Z) Z Z Z r170e (xe (aw_region (xm Z Z Z (xm Z Z Z (xa (.rp rg t_) Z (pu_regCheck Z (tm Z) c159) (xa (.rp rg (rpAdd t_ 6)) Z (pu_regField Z underlying71 Z sizeOf4 (by decide) (tm Z) c159 Z) ?_)))))))
     obtain ⟨r171, r171e, h⟩ := bind_some h
     refine ac0 Z Z (op_regStore (i := 0) [.bo false] Z sizeOf4 (tm Z) (v := .bool false) (AEv.bool _) Z Z Z r171e (xa (.rp rg t_) Z (pu_regCheck Z (tm Z) c159) (xa (.rp rg (rpAdd t_ 5)) Z (pu_regField Z underlying71 Z sizeOf3 (by decide) (tm Z) c159 Z) ?_)))
     obtain ⟨r172, r172e, h⟩ := bind_some h
     refine ac0 Z Z (op_regStore (i := 0) [.it .i64 0] Z sizeOf3 (tm Z) (v := .i 0) (AEv.int _ _) Z Z Z r172e (xe ?_))
     obtain rfl := some_of h
     exact ⟨(), Weak.mkL [0] (by decide) ⟨⟨_, Z, Z⟩, trivial⟩ trivial⟩
    ·replace h := ite_f (dec_f hb173) h
     refine aw_skip ?_
     obtain rfl := some_of h
     exact ⟨(), Weak.mkL [0] (by decide) ⟨⟨_, Z, Z⟩, trivial⟩ trivial⟩
   ·intro _
    have h := h157
    refine xr (xa (.bool true) Z (pu_assign Z (AEv.bool _)) (xe (aw_ret ?_)))
    obtain rfl := some_of h
    exact ⟨[.bool true], _, [(rg, .abs (regAbs s156))], ⟨(tm Z), trivial⟩, vr, Weak.mkL [0] (by decide) ⟨⟨_, Z, Z⟩, trivial⟩ trivial, ⟨Z, Z⟩⟩

theorem dict.Table_string.find.ok {t_ : RP} {key : List UInt8} {mem : Reg} {r : RP} (h : dict.Table_string.find t_ key mem = some r) (rg : Nat) : Go.Lift.Spec prog 37 [.rp rg t_, .str key] [(rg, .abs (regAbs mem))] (fun v H => v = .rp rg r ∧ H = [(rg, .abs (regAbs mem))]) := by
 unfold dict.Table_string.find at h
 refine Go.Lift.Spec.of_body (rs := [.tmp 4]) func37 Z Z (nb Z) Z (xr (xa (.rp rg (none : RP)) Z (pu_assign Z (AEv.rpn _)) (xe ?_)))
 obtain ⟨s1148, s1148e, h861⟩ := bind_some h
 refine aw_join (σ := Unit) (ν := Unit) (fun u v => []) (fun u v => [(rg, .abs (regAbs mem))]) (fun u => s1148 = .inl u) ?_ ?_
 ·intro s860
  intro _
  rintro rfl
  have h := onSum_inl h861
  refine xr (xa (.rp rg (none : RP)) Z (pu_assign Z (AEv.rpn _)) (xe (aw_ret ?_)))
  obtain rfl := some_of h
  exact ⟨[.rp rg (none : RP)], _, [(rg, .abs (regAbs mem))], ⟨(tm Z), trivial⟩, vr, Weak.mkL [0] (by decide) ⟨⟨_, Z, Z⟩, trivial⟩ trivial, ⟨Z, Z⟩⟩
 ·have h := s1148e
  refine xr (xa (.i 0) Z (pu_move Z (AEv.int _ _)) (xe (aw_block (aw_while (σ := dict.Table_string.find.S0) (ν := Unit) (dict.Table_string.find.body0 t_ mem key) (fun s1051 v => [(0, .rp rg t_), (1, .str key), (7, .i s1051.t7)]) (fun s1051 v => [(rg, .abs (regAbs mem))]) ⟨0⟩ () _ h (Weak.mkL [0] (by decide) ⟨⟨_, Z, Z⟩, trivial⟩ ⟨tm Z, tm Z, tm Z, trivial⟩) ?_))))
  rintro s1051 _ x1053 h hx1052
  unfold dict.Table_string.find.body0 at h
  refine xr (xa (.bool (decide (s1051.t7 < 2))) Z (pu_int (v := .bool (decide (s1051.t7 < 2))) Z Z (tm Z) (AEv.int _ _) Z) (xe (aw_seq (aw_cond (b := decide (s1051.t7 < 2)) (tm Z) (fun hb1147 => ?_) (fun hb1147 => ?_)))))
  ·replace h := ite_t (dec_t hb1147) h
   refine aw_skip ?_
   obtain ⟨s1146, s1146e, h1100⟩ := bind_some h
   refine aw_join (σ := Unit) (ν := Unit) (fun u v => [(0, .rp rg t_), (1, .str key), (7, .i s1051.t7)]) (fun u v => [(rg, .abs (regAbs mem))]) (fun u => s1146 = .inl u) ?_ ?_
   ·intro s1099
    intro _
    rintro rfl
    have h := onSum_inl h1100
    refine aw_region (xa (.i (IntKind.wrap .i64 (s1051.t7 + 1))) Z (pu_int (v := .i (IntKind.wrap .i64 (s1051.t7 + 1))) Z Z (tm Z) (AEv.int _ _) Z) (xm Z Z Z (xe ?_)))
    obtain rfl := some_of h
    exact ⟨_, (), Z, Weak.mkL [0] (by decide) ⟨⟨_, Z, Z⟩, trivial⟩ ⟨tm Z, tm Z, (AEv.le (tm Z) vr), trivial⟩⟩
   ·have h := s1146e
    refine aw_block (xr (xm Z Z Z (xm Z Z Z (xe (aw_seq ?_)))))
    obtain ⟨s1105, s1105e, h1106⟩ := bind_some h
    refine aw_meet (ν := Unit) (fun v => [(0, .rp rg t_), (1, .str key), (5, .i s1051.t7), (7, .i s1051.t7), (18, .bool s1105)]) (fun v => [(rg, .abs (regAbs mem))]) ?_ ?_
    ·have h := s1105e
     refine aw_region (xm Z Z Z (xa (.bool (decide (s1051.t7 = 1))) Z (pu_int (v := .bool (decide (s1051.t7 = 1))) Z Z (tm Z) (AEv.int _ _) Z) (xm Z Z Z ?_)))
     rcases Bool.eq_false_or_eq_true (decide (s1051.t7 = 1)) with hb1108 | hb1108
     ·replace h := ite_t (dec_t hb1108) h
      refine aops_known 12 Z hb1108 (xq Z Z Z Z ?_)
      obtain ⟨c1109, h⟩ := need_of h
      refine xp (.rp rg t_) Z Z (pu_regCheck Z (tm Z) c1109) (xp (.rp rg (rpAdd t_ 6)) Z Z (pu_regField Z underlying71 Z sizeOf4 (by decide) (tm Z) c1109 Z) ?_)
      obtain ⟨r1110, r1110e, h⟩ := bind_some h
      refine xg Z Z (op_regLoad (i := 0) (av := .bool r1110) Z isAgg4 (tm Z) Z (rLdB_eq r1110e) Z (xp (.bool (!r1110)) Z Z (pu_not Z (tm Z)) (xa (.bool (!r1110)) Z (pu_pick (b := true) Z (tm Z) (fun _ => (tm Z)) (fun h => nomatch h)) (xe ?_))))
      obtain rfl := some_of h
      exact ⟨(), Weak.mkL [0] (by decide) ⟨⟨_, Z, Z⟩, trivial⟩ ⟨tm Z, tm Z, tm Z, tm Z, tm Z, trivial⟩⟩
     ·replace h := ite_f (dec_f hb1108) h
      refine aops_known 12 Z hb1108 (xn Z Z Z (xn Z Z Z (xn Z Z Z (xn Z Z Z (xn Z Z Z (xa (.bool false) Z (pu_pick (b := false) Z (tm Z) (fun h => nomatch h) (fun _ => (AEv.bool _))) (xe ?_)))))))
      obtain rfl := some_of h
      exact ⟨(), Weak.mkL [0] (by decide) ⟨⟨_, Z, Z⟩, trivial⟩ ⟨tm Z, tm Z, tm Z, tm Z, tm Z, trivial⟩⟩
    ·intro _
     have h := h1106
     refine aw_cond (b := s1105) (tm Z) (fun hb1145 => ?_) (fun hb1145 => ?_)
     ·replace h := ite_t hb1145 h
      refine aw_exit ?_
      obtain rfl := some_of h
      have h := onSum_inr h1100
      obtain rfl := some_of h
      have h := congrArg some (hx1052 _ rfl)
      exact ⟨(), (), (some_of h).symm, Weak.mkL [0] (by decide) ⟨⟨_, Z, Z⟩, trivial⟩ trivial⟩
     ·replace h := ite_fb hb1145 h
      refine aw_skip (xr (xm Z Z Z (xm Z Z Z (xm Z Z Z ?_))))
      obtain ⟨r1111, r1111e, h⟩ := bind_some h
      refine xc Z (op_call (vs := [.rp rg t_, .i s1051.t7, .str key]) (H := [(rg, .abs (regAbs mem))]) Z call62 ⟨(tm Z), (tm Z), (tm Z), trivial⟩ (List.Perm.refl _) (dict.Table_string.slot.ok r1111e rg) ?_)
      rintro _ _ ⟨rfl, rfl⟩
      refine xm Z Z Z (xe (aw_block (aw_while (σ := dict.Table_string.find.S2) (ν := Unit) (dict.Table_string.find.body2 mem key) (fun s1132 v => [(0, .rp rg t_), (1, .str key), (6, .rp rg s1132.at_), (7, .i s1051.t7)]) (fun s1132 v => [(rg, .abs (regAbs mem))]) ⟨r1111⟩ () _ h (Weak.mkL [0] (by decide) ⟨⟨_, Z, Z⟩, trivial⟩ ⟨tm Z, tm Z, tm Z, tm Z, trivial⟩) ?_)))
      rintro s1132 _ x1134 h hx1133
      unfold dict.Table_string.find.body2 at h
      refine aw_seq (xr (xm Z Z Z ?_))
      obtain ⟨c1136, h⟩ := need_of h
      refine xa (.rp rg s1132.at_) Z (pu_regCheck Z (tm Z) c1136) ?_
      obtain ⟨r1137, r1137e, h⟩ := bind_some h
      refine xc Z (op_regLoad (i := 0) (av := .rp rg r1137) Z isAgg87 (tm Z) Z (rLdP_eq r1137e) Z (xa (.bool r1137.isSome) Z (pu_regNotNil Z underlying87 (tm Z) AEv.nilp) (xe (aw_cond (b := r1137.isSome) (tm Z) (fun hb1144 => ?_) (fun hb1144 => ?_)))))
      ·replace h := ite_t hb1144 h
       refine aw_skip (aw_seq (aw_block (xr (xm Z Z Z (xa (.rp rg s1132.at_) Z (pu_regCheck Z (tm Z) c1136) ?_)))))
       obtain ⟨r1138, r1138e, h⟩ := bind_some h
       refine xc Z (op_regLoad (i := 0) (av := .rp rg r1138) Z isAgg87 (tm Z) Z (rLdP_eq r1138e) Z ?_)
       obtain ⟨c1139, h⟩ := need_of h
       refine xa (.rp rg r1138) Z (pu_regCheck Z (tm Z) c1139) (xa (.rp rg (rpAdd r1138 0)) Z (pu_regField Z underlying89 Z sizeOf9 (by decide) (tm Z) c1139 Z) ?_)
       obtain ⟨r1140, r1140e, h⟩ := bind_some h
       refine xc Z (op_regLoad (i := 0) (av := .str r1140) Z isAgg9 (tm Z) Z (rLdS_eq r1140e) Z (xm Z Z Z (xa (.bool (decide (r1140 = key))) Z (pu_str (v := .bool (decide (r1140 = key))) Z Z (tm Z) (tm Z) Z) (xe (aw_cond (b := decide (r1140 = key)) (tm Z) (fun hb1143 => ?_) (fun hb1143 => ?_))))))
       ·replace h := ite_t (dec_t hb1143) h
        refine xr (xm Z Z Z (xm Z Z Z (xe (aw_ret ?_))))
        obtain rfl := some_of h
        have h := congrArg some (hx1133 _ rfl)
        obtain rfl := some_of h
        have h := onSum_inr h1100
        obtain rfl := some_of h
        have h := congrArg some (hx1052 _ rfl)
        obtain rfl := some_of h
        have h := onSum_inr h861
        obtain rfl := some_of h
        exact ⟨[.rp rg s1132.at_], _, [(rg, .abs (regAbs mem))], ⟨(tm Z), trivial⟩, vr, Weak.mkL [0] (by decide) ⟨⟨_, Z, Z⟩, trivial⟩ trivial, ⟨Z, Z⟩⟩
       ·replace h := ite_f (dec_f hb1143) h
        refine aw_skip (aw_region (xm Z Z Z (xa (.rp rg s1132.at_) Z (pu_regCheck Z (tm Z) c1136) ?_)))
        obtain ⟨r1141, r1141e, h⟩ := bind_some h
        refine xc Z (op_regLoad (i := 0) (av := .rp rg r1141) Z isAgg87 (tm Z) Z (rLdP_eq r1141e) Z ?_)
        obtain ⟨c1142, h⟩ := need_of h
        refine xa (.rp rg r1141) Z (pu_regCheck Z (tm Z) c1142) (xa (.rp rg (rpAdd r1141 2)) Z (pu_regField Z underlying89 Z sizeOf87 (by decide) (tm Z) c1142 Z) (xm Z Z Z (xe ?_)))
        obtain rfl := some_of h
        exact ⟨_, (), Z, Weak.mkL [0] (by decide) ⟨⟨_, Z, Z⟩, trivial⟩ ⟨tm Z, tm Z, (AEv.le (tm Z) vr), tm Z, trivial⟩⟩
      ·replace h := ite_fb hb1144 h
       refine aw_exit ?_
       obtain rfl := some_of h
       have h := congrArg some (hx1133 _ rfl)
       exact ⟨(), (), (some_of h).symm, Weak.mkL [0] (by decide) ⟨⟨_, Z, Z⟩, trivial⟩ ⟨tm Z, tm Z, tm Z, trivial⟩⟩
  ·replace h := ite_f (dec_f hb1147) h
   refine aw_exit ?_
   obtain rfl := some_of h
   have h := congrArg some (hx1052 _ rfl)
   exact ⟨(), (), (some_of h).symm, Weak.mkL [0] (by decide) ⟨⟨_, Z, Z⟩, trivial⟩ trivial⟩

theorem dict.Table_string.part.ok {t_ : RP} {size : Int} {mem : Reg} {r : Reg} (h : dict.Table_string.part t_ size mem = some r) (rg : Nat) : Go.Lift.Spec prog 40 [.rp rg t_, .i size] [(rg, .abs (regAbs mem))] (fun v H => v = .tup [] ∧ H = [(rg, .abs (regAbs r))]) := by
 unfold dict.Table_string.part at h
 refine Go.Lift.Spec.of_body (rs := []) func40 Z Z (nb Z) Z (aw_upd (aw_seq ?_))
 obtain ⟨r8, r8e, h⟩ := bind_some h
 obtain ⟨c9, h⟩ := need_of h
 obtain ⟨c10, h⟩ := need_of h
 obtain ⟨c11, h⟩ := need_of h
 obtain ⟨r12, r12e, h⟩ := bind_some h
 refine aw_planR (by decide +kernel) [[], [], [(0, 0, true)], [], [], [], [(0, 1, true)]] [[2, 6]] [[[(rg, .abs (regAbs mem))], [(rg, .abs (regAbs r8.2))], [(rg, .abs (regAbs r12))]]] [.rp rg t_, .i size, .agg [.i r8.1.size, .rs rg r8.1.l], .rp rg t_, .rp rg (rpAdd t_ 1), .rp rg (rpAdd (rpAdd t_ 1) 2), .un] (by decide +kernel) Z Z ?_ ?_
 ·exact ⟨ym Z Z Z, ym Z Z Z, stepg_plain Z (op_call (vs := [.i size]) (H := [(rg, .abs (regAbs mem))]) Z call27 ⟨(tm Z), trivial⟩ (R := []) (List.Perm.refl _) (dict.empty_string.ok r8e rg) (by rintro _ _ ⟨rfl, rfl⟩; exact ⟨Z, Z⟩)), yp Z (pu_regCheck Z (tm Z) c9), yp Z (pu_regField Z underlying71 Z sizeOf69 (by decide) (tm Z) c9 Z), yp Z (pu_regIndexA Z underlying69 sizeOf67 (tm Z) (AEv.int _ _) c10 c11), stepg_plain Z (op_regStore (i := 0) [.it .i64 r8.1.size, .sc r8.1.l] Z sizeOf67 (tm Z) (v := .agg [.i r8.1.size, .rs rg r8.1.l]) (tm Z) Z Z Z r12e ⟨Z, Z⟩), trivial⟩
 refine aw_region (xm Z Z Z (xm Z Z Z (xa (.rp rg t_) Z (pu_regCheck Z (tm Z) c9) (xa (.rp rg (rpAdd t_ 6)) Z (pu_regField Z underlying71 Z sizeOf4 (by decide) (tm Z) c9 Z) ?_))))
 obtain ⟨r13, r13e, h⟩ := bind_some h
 refine ac0 Z Z (op_regStore (i := 0) [.bo true] Z sizeOf4 (tm Z) (v := .bool true) (AEv.bool _) Z Z Z r13e (xa (.rp rg t_) Z (pu_regCheck Z (tm Z) c9) (xa (.rp rg (rpAdd t_ 5)) Z (pu_regField Z underlying71 Z sizeOf3 (by decide) (tm Z) c9 Z) ?_)))
 obtain ⟨r14, r14e, h⟩ := bind_some h
 refine ac0 Z Z (op_regStore (i := 0) [.it .i64 0] Z sizeOf3 (tm Z) (v := .i 0) (AEv.int _ _) Z Z Z r14e (xe (upd_done ?_)))
 obtain rfl := some_of h
 exact ⟨[], _, [(rg, .abs (regAbs r14))], trivial, vr, Weak.mkL [0] (by decide) ⟨⟨_, Z, Z⟩, trivial⟩ trivial, ⟨Z, Z⟩⟩

theorem dict.Table_string.Put.ok {t_ : RP} {key : List UInt8} {v_ : List UInt8} {mem : Reg} {r : Bool × Reg} (h : dict.Table_string.Put t_ key v_ mem = some r) (rg : Nat) : Go.Lift.Spec prog 28 [.rp rg t_, .str key, .str v_] [(rg, .abs (regAbs mem))] (fun v H => v = .bool r.1 ∧ H = [(rg, .abs (regAbs r.2))]) := by
 unfold dict.Table_string.Put at h
 refine Go.Lift.Spec.of_body (rs := [.tmp 6]) func28 Z Z (nb Z) Z (xr (xa (.bool false) Z (pu_assign Z (AEv.bool _)) (xe (aw_seq (xr (xm Z Z Z ?_))))))
 obtain ⟨r63, r63e, h⟩ := bind_some h
 refine xc Z (op_call (vs := [.rp rg t_]) (H := [(rg, .abs (regAbs mem))]) Z call38 ⟨(tm Z), trivial⟩ (List.Perm.refl _) (dict.Table_string.ready.ok r63e rg) ?_)
 rintro _ _ ⟨rfl, rfl⟩
 refine xa (.bool (!r63.1)) Z (pu_not Z (tm Z)) (xe (aw_cond (b := (!r63.1)) (tm Z) (fun hb124 => ?_) (fun hb124 => ?_)))
 ·replace h := ite_t hb124 h
  refine xr (xa (.bool false) Z (pu_assign Z (AEv.bool _)) (xe (aw_ret ?_)))
  obtain rfl := some_of h
  exact ⟨[.bool false], _, [(rg, .abs (regAbs r63.2))], ⟨(tm Z), trivial⟩, vr, Weak.mkL [0] (by decide) ⟨⟨_, Z, Z⟩, trivial⟩ trivial, ⟨Z, Z⟩⟩
 ·replace h := ite_fb hb124 h
  refine aw_skip (xr (xm Z Z Z ?_))
  obtain ⟨r64, r64e, h⟩ := bind_some h
  refine xc Z (op_call (vs := [.rp rg t_]) (H := [(rg, .abs (regAbs r63.2))]) Z call39 ⟨(tm Z), trivial⟩ (List.Perm.refl _) (dict.Table_string.step.ok r64e rg) ?_)
  rintro _ _ ⟨rfl, rfl⟩
  refine xe (aw_seq (xr (xm Z Z Z (xm Z Z Z ?_))))
  obtain ⟨r65, r65e, h⟩ := bind_some h
  refine xc Z (op_call (vs := [.rp rg t_, .str key]) (H := [(rg, .abs (regAbs r64.2))]) Z call37 ⟨(tm Z), (tm Z), trivial⟩ (List.Perm.refl _) (dict.Table_string.find.ok r65e rg) ?_)
  rintro _ _ ⟨rfl, rfl⟩
  refine xm Z Z Z (xe (xr (xm Z Z Z (xa (.bool r65.isSome) Z (pu_regNotNil Z underlying85 (tm Z) AEv.nilp) (xe (aw_cond (b := r65.isSome) (tm Z) (fun hb123 => ?_) (fun hb123 => ?_)))))))
  ·replace h := ite_t hb123 h
   refine xr (xm Z Z Z ?_)
   obtain ⟨c66, h⟩ := need_of h
   refine xa (.rp rg r65) Z (pu_regCheck Z (tm Z) c66) ?_
   obtain ⟨r67, r67e, h⟩ := bind_some h
   refine xc Z (op_regLoad (i := 0) (av := .rp rg r67) Z isAgg87 (tm Z) Z (rLdP_eq r67e) Z (xm Z Z Z ?_))
   obtain ⟨c68, h⟩ := need_of h
   refine xa (.rp rg r67) Z (pu_regCheck Z (tm Z) c68) (xa (.rp rg (rpAdd r67 1)) Z (pu_regField Z underlying89 Z sizeOf9 (by decide) (tm Z) c68 Z) ?_)
   obtain ⟨r69, r69e, h⟩ := bind_some h
   refine ac0 Z Z (op_regStore (i := 0) [.tx v_] Z sizeOf9 (tm Z) (v := .str v_) (tm Z) Z Z Z r69e (xe (xr (xa (.bool false) Z (pu_assign Z (AEv.bool _)) (xe (aw_ret ?_))))))
   obtain rfl := some_of h
   exact ⟨[.bool false], _, [(rg, .abs (regAbs r69))], ⟨(tm Z), trivial⟩, vr, Weak.mkL [0] (by decide) ⟨⟨_, Z, Z⟩, trivial⟩ trivial, ⟨Z, Z⟩⟩
  ·replace h := ite_fb hb123 h
   refine aw_skip (xr (xa (.i 0) Z (pu_assign Z (AEv.int _ _)) (xe ?_)))
   obtain ⟨s73, s73e, h74⟩ := bind_some h
   refine aw_meet (ν := Unit) (fun v => [(0, .rp rg t_), (1, .str key), (2, .str v_), (8, .i s73)]) (fun v => [(rg, .abs (regAbs r64.2))]) ?_ ?_
   ·have h := s73e
    refine xr (xm Z Z Z ?_)
    obtain ⟨c76, h⟩ := need_of h
    refine xa (.rp rg t_) Z (pu_regCheck Z (tm Z) c76) (xa (.rp rg (rpAdd t_ 6)) Z (pu_regField Z underlying71 Z sizeOf4 (by decide) (tm Z) c76 Z) ?_)
    obtain ⟨r77, r77e, h⟩ := bind_some h
    refine xc Z (op_regLoad (i := 0) (av := .bool r77) Z isAgg4 (tm Z) Z (rLdB_eq r77e) Z (xe (aw_cond (b := r77) (tm Z) (fun hb78 => ?_) (fun hb78 => ?_))))
    ·replace h := ite_t hb78 h
     refine aw_region (xa (.i 1) Z (pu_assign Z (AEv.int _ _)) (xe ?_))
     obtain rfl := some_of h
     exact ⟨(), Weak.mkL [0] (by decide) ⟨⟨_, Z, Z⟩, trivial⟩ ⟨tm Z, tm Z, tm Z, tm Z, trivial⟩⟩
    ·replace h := ite_fb hb78 h
     refine aw_skip ?_
     obtain rfl := some_of h
     exact ⟨(), Weak.mkL [0] (by decide) ⟨⟨_, Z, Z⟩, trivial⟩ ⟨tm Z, tm Z, tm Z, tm Z, trivial⟩⟩
   ·intro _
    have h := h74
    refine xr (xm Z Z Z (xm Z Z Z (xm Z Z Z (xm Z Z Z (xa (.agg [.str key, .str v_, .rp rg (none : RP)]) Z (pu_build (zs := [.str ([] : List UInt8), .str ([] : List UInt8), .rp rg (none : RP)]) (szs := [1, 1, 1]) (aparts := [(0, .str key), (1, .str v_)]) (cs := [.str key, .str v_, .rp rg (none : RP)]) Z underlying89 zeroValue89 Z ⟨sizeOf9, sizeOf9, sizeOf87, trivial⟩ ⟨Z, (tm Z), ⟨Z, (tm Z), trivial⟩⟩ Z) ?_)))))
    obtain ⟨x79, x79e, h⟩ := letO_of h
    refine xc Z (op_regBox (i := 0) [.tx key, .tx v_, .pt (none : RP)] Z (v := .agg [.str key, .str v_, .rp rg (none : RP)]) (tm Z) Z Z x79e ?_)
    obtain ⟨r80, r80e, h⟩ := bind_some h
    refine xc Z (op_call (vs := [.rp rg t_, .i s73, .rp rg (some (r64.2.length, 0) : RP)]) (H := [(rg, .abs (regAbs x79))]) Z call41 ⟨(tm Z), (tm Z), (tm Z), trivial⟩ (List.Perm.refl _) (dict.Table_string.front.ok r80e rg) ?_)
    rintro _ _ ⟨rfl, rfl⟩
    refine xe (xr (xm Z Z Z ?_))
    obtain ⟨c81, h⟩ := need_of h
    refine xa (.rp rg t_) Z (pu_regCheck Z (tm Z) c81) (xa (.rp rg (rpAdd t_ 7)) Z (pu_regField Z underlying71 Z sizeOf3 (by decide) (tm Z) c81 Z) ?_)
    obtain ⟨r82, r82e, h⟩ := bind_some h
    refine xc Z (op_regLoad (i := 0) (av := .i r82) Z isAgg3 (tm Z) Z (rLdI_eq r82e) Z (xa (.i (IntKind.wrap .i64 (r82 + 1))) Z (pu_int (v := .i (IntKind.wrap .i64 (r82 + 1))) Z Z (tm Z) (AEv.int _ _) Z) (xa (.rp rg t_) Z (pu_regCheck Z (tm Z) c81) (xa (.rp rg (rpAdd t_ 7)) Z (pu_regField Z underlying71 Z sizeOf3 (by decide) (tm Z) c81 Z) ?_))))
    obtain ⟨r83, r83e, h⟩ := bind_some h
    refine ac0 Z Z (op_regStore (i := 0) [.it .i64 (IntKind.wrap .i64 (r82 + 1))] Z sizeOf3 (tm Z) (v := .i (IntKind.wrap .i64 (r82 + 1))) (tm Z) Z Z Z r83e (xe ?_))
    obtain ⟨s102, s102e, h103⟩ := bind_some h
    refine aw_meet (ν := Unit) (fun v => []) (fun v => [(rg, .abs (regAbs s102))]) ?_ ?_
    ·have h := s102e
     refine xr (xm Z Z Z (xa (.rp rg t_) Z (pu_regCheck Z (tm Z) c81) (xa (.rp rg (rpAdd t_ 1)) Z (pu_regField Z underlying71 Z sizeOf69 (by decide) (tm Z) c81 Z) ?_)))
     obtain ⟨c105, h⟩ := need_of h
     obtain ⟨c106, h⟩ := need_of h
     refine xa (.rp rg (rpAdd (rpAdd t_ 1) 0)) Z (pu_regIndexA Z underlying69 sizeOf67 (tm Z) (AEv.int _ _) c105 c106) ?_
     obtain ⟨r107, r107e, h⟩ := bind_some h
     obtain ⟨r108, r108e, h⟩ := bind_some h
     refine xc Z (op_regLoadN (i := 0) (vs := [.it .i64 r107, .sc r108]) (avs := [.i r107, .rs rg r108]) Z isAgg67 sizeOf67 (tm Z) Z ⟨rLdI_eq r107e, rLdL_eq r108e, trivial⟩ Z (by decide) Z (xc Z (op_alloc (cs := [.i 0, .rs rg (none : RS)]) (v := .agg [.i 0, .rs rg (none : RS)]) Z zeroValue67 Z Z Z ?_)))
     intro p109
     refine ac0 Z Z (op_store (i := 0) (cs' := [.i r107, .rs rg r108]) Z sizeOf67 (tm Z) (v := .agg [.i r107, .rs rg r108]) (tm Z) Z Z Z (nb Z) Z (xe ?_))
     obtain ⟨s114, s114e, h115⟩ := bind_some h
     refine aw_meet (ν := Unit) (fun v => [(0, .rp rg t_), (9, .ptr p109 0), (68, .bool s114)]) (fun v => [(rg, .abs (regAbs r83)), (p109, .cells [.i r107, .rs rg r108])]) ?_ ?_
     ·have h := s114e
      obtain ⟨r117, r117e, h⟩ := bind_some h
      rcases Bool.eq_false_or_eq_true (!r117) with hb118 | hb118
      ·replace h := ite_t hb118 h
       obtain ⟨r119, r119e, h⟩ := bind_some h
       rcases Bool.eq_false_or_eq_true (decide ((rsLen r108 : Int) < r119)) with hb120 | hb120
       ·replace h := ite_t (dec_t hb120) h
        refine aw_planR (by decide +kernel) [[], [], [], [(1, 0, false)], [], [], [], [], [], [(1, 0, false)], [], [(0, 0, false)], [], [], [], [], [], [(0, 0, false)], [], []] [[], []] [[[(p109, .cells [.i r107, .rs rg r108])]], [[(rg, .abs (regAbs r83))]]] [.rp rg t_, .rp rg t_, .rp rg (rpAdd t_ 6), .bool r117, .bool (!r117), .bool true, .rp rg t_, .rp rg t_, .rp rg (rpAdd t_ 7), .i r119, .ptr p109 1, .rs rg r108, .i (rsLen r108 : Int), .bool (decide ((rsLen r108 : Int) < r119)), .bool (decide ((rsLen r108 : Int) < r119)), .bool true, .ptr p109 0, .i r107, .bool (decide (r107 < 16)), .bool (decide (r107 < 16))] (by decide +kernel) Z Z ?_ ?_
        ·exact ⟨ym Z Z Z, yp Z (pu_regCheck Z (tm Z) c81), yp Z (pu_regField Z underlying71 Z sizeOf4 (by decide) (tm Z) c81 Z), stepg_plain Z (op_regLoad (i := 0) (av := .bool r117) Z isAgg4 (tm Z) Z (rLdB_eq r117e) Z ⟨Z, Z⟩), yp Z (pu_not Z (tm Z)), AStepG.cast (ym Z Z Z) (congrArg AV.bool hb118), yq Z Z (pu_move Z (tm Z)), yq Z Z (pu_regCheck Z (tm Z) c81), yq Z Z (pu_regField Z underlying71 Z sizeOf3 (by decide) (tm Z) c81 Z), yg Z Z (op_regLoad (i := 0) (av := .i r119) Z isAgg3 (tm Z) Z (rLdI_eq r119e) Z ⟨Z, Z⟩), yq Z Z (fa Z underlying67 Z sizeOf65 Z Z Z), yg Z Z (op_load1 (i := 0) Z isAgg65 (tm Z) Z Z ⟨Z, Z⟩), yq Z Z (pu_regLen Z underlying65 (tm Z)), yq Z Z (pu_int (v := .bool (decide ((rsLen r108 : Int) < r119))) Z Z (tm Z) (tm Z) Z), yp Z (pu_pick (b := true) Z (tm Z) (fun _ => (tm Z)) (fun h => nomatch h)), AStepG.cast (ym Z Z Z) (congrArg AV.bool hb120), yq Z Z (fa Z underlying67 Z sizeOf3 Z Z Z), yg Z Z (op_load1 (i := 0) Z isAgg3 (tm Z) Z Z ⟨Z, Z⟩), yq Z Z (pu_int (v := .bool (decide (r107 < 16))) Z Z (tm Z) (AEv.int _ _) Z), yp Z (pu_pick (b := true) Z (tm Z) (fun _ => (tm Z)) (fun h => nomatch h)), trivial⟩
        obtain rfl := some_of h
        exact ⟨(), Weak.mkL [1, 0] (by decide) ⟨⟨_, Z, Z⟩, ⟨_, Z, cr, Z⟩, trivial⟩ ⟨tm Z, tm Z, (AEv.le (tm Z) vr), trivial⟩⟩
       ·replace h := ite_f (dec_f hb120) h
        refine aw_planR (by decide +kernel) [[], [], [], [(1, 0, false)], [], [], [], [], [], [(1, 0, false)], [], [(0, 0, false)], [], [], [], [], [], [], [], []] [[], []] [[[(p109, .cells [.i r107, .rs rg r108])]], [[(rg, .abs (regAbs r83))]]] [.rp rg t_, .rp rg t_, .rp rg (rpAdd t_ 6), .bool r117, .bool (!r117), .bool true, .rp rg t_, .rp rg t_, .rp rg (rpAdd t_ 7), .i r119, .ptr p109 1, .rs rg r108, .i (rsLen r108 : Int), .bool (decide ((rsLen r108 : Int) < r119)), .bool (decide ((rsLen r108 : Int) < r119)), .bool false, .lit undef, .lit undef, .lit undef, .bool false] (by decide +kernel) Z Z ?_ ?_
        ·exact ⟨ym Z Z Z, yp Z (pu_regCheck Z (tm Z) c81), yp Z (pu_regField Z underlying71 Z sizeOf4 (by decide) (tm Z) c81 Z), stepg_plain Z (op_regLoad (i := 0) (av := .bool r117) Z isAgg4 (tm Z) Z (rLdB_eq r117e) Z ⟨Z, Z⟩), yp Z (pu_not Z (tm Z)), AStepG.cast (ym Z Z Z) (congrArg AV.bool hb118), yq Z Z (pu_move Z (tm Z)), yq Z Z (pu_regCheck Z (tm Z) c81), yq Z Z (pu_regField Z underlying71 Z sizeOf3 (by decide) (tm Z) c81 Z), yg Z Z (op_regLoad (i := 0) (av := .i r119) Z isAgg3 (tm Z) Z (rLdI_eq r119e) Z ⟨Z, Z⟩), yq Z Z (fa Z underlying67 Z sizeOf65 Z Z Z), yg Z Z (op_load1 (i := 0) Z isAgg65 (tm Z) Z Z ⟨Z, Z⟩), yq Z Z (pu_regLen Z underlying65 (tm Z)), yq Z Z (pu_int (v := .bool (decide ((rsLen r108 : Int) < r119))) Z Z (tm Z) (tm Z) Z), yp Z (pu_pick (b := true) Z (tm Z) (fun _ => (tm Z)) (fun h => nomatch h)), AStepG.cast (ym Z Z Z) (congrArg AV.bool hb120), yx Z Z Z, yx Z Z Z, yx Z Z Z, yp Z (pu_pick (b := false) Z (tm Z) (fun h => nomatch h) (fun _ => (AEv.bool _))), trivial⟩
        obtain rfl := some_of h
        exact ⟨(), Weak.mkL [1, 0] (by decide) ⟨⟨_, Z, Z⟩, ⟨_, Z, cr, Z⟩, trivial⟩ ⟨tm Z, tm Z, tm Z, trivial⟩⟩
      ·replace h := ite_fb hb118 h
       refine aw_planR (by decide +kernel) [[], [], [], [(1, 0, false)], [], [], [], [], [], [], [], [], [], [], [], [], [], [], [], []] [[], []] [[[(p109, .cells [.i r107, .rs rg r108])]], [[(rg, .abs (regAbs r83))]]] [.rp rg t_, .rp rg t_, .rp rg (rpAdd t_ 6), .bool r117, .bool (!r117), .bool false, .lit undef, .lit undef, .lit undef, .lit undef, .lit undef, .lit undef, .lit undef, .lit undef, .bool false, .bool false, .lit undef, .lit undef, .lit undef, .bool false] (by decide +kernel) Z Z ?_ ?_
       ·exact ⟨ym Z Z Z, yp Z (pu_regCheck Z (tm Z) c81), yp Z (pu_regField Z underlying71 Z sizeOf4 (by decide) (tm Z) c81 Z), stepg_plain Z (op_regLoad (i := 0) (av := .bool r117) Z isAgg4 (tm Z) Z (rLdB_eq r117e) Z ⟨Z, Z⟩), yp Z (pu_not Z (tm Z)), AStepG.cast (ym Z Z Z) (congrArg AV.bool hb118), yx Z Z Z, yx Z Z Z, yx Z Z Z, yx Z Z Z, yx Z Z Z, yx Z Z Z, yx Z Z Z, yx Z Z Z, yp Z (pu_pick (b := false) Z (tm Z) (fun h => nomatch h) (fun _ => (AEv.bool _))), ym Z Z Z, yx Z Z Z, yx Z Z Z, yx Z Z Z, yp Z (pu_pick (b := false) Z (tm Z) (fun h => nomatch h) (fun _ => (AEv.bool _))), trivial⟩
       obtain rfl := some_of h
       exact ⟨(), Weak.mkL [1, 0] (by decide) ⟨⟨_, Z, Z⟩, ⟨_, Z, cr, Z⟩, trivial⟩ ⟨tm Z, tm Z, tm Z, trivial⟩⟩
     ·intro _
      have h := h115
      refine aw_cond (b := s114) (tm Z) (fun hb122 => ?_) (fun hb122 => ?_)
      ·replace h := ite_t hb122 h
       refine aw_region (xm Z Z Z (xa (.ptr p109 0) Z (fa Z underlying67 Z sizeOf3 Z Z Z) (xc Z (op_load1 (i := 1) Z isAgg3 (tm Z) Z Z (xa (.i (IntKind.wrap .i64 (r107 + 1))) Z (pu_int (v := .i (IntKind.wrap .i64 (r107 + 1))) Z Z (tm Z) (AEv.int _ _) Z) ?_)))))
       obtain ⟨r121, r121e, h⟩ := bind_some h
       refine xc Z (op_call (vs := [.rp rg t_, .i (IntKind.wrap .i64 (r107 + 1))]) (H := [(rg, .abs (regAbs r83))]) Z call40 ⟨(tm Z), (tm Z), trivial⟩ (List.Perm.refl _) (dict.Table_string.part.ok r121e rg) ?_)
       rintro _ _ ⟨rfl, rfl⟩
       refine xe ?_
       obtain rfl := some_of h
       exact ⟨(), Weak.mkL [0] (by decide) ⟨⟨_, Z, Z⟩, trivial⟩ trivial⟩
      ·replace h := ite_fb hb122 h
       refine aw_skip ?_
       obtain rfl := some_of h
       exact ⟨(), Weak.mkL [0] (by decide) ⟨⟨_, Z, Z⟩, trivial⟩ trivial⟩
    ·intro _
     have h := h103
     refine xr (xa (.bool true) Z (pu_assign Z (AEv.bool _)) (xe (aw_ret ?_)))
     obtain rfl := some_of h
     exact ⟨[.bool true], _, [(rg, .abs (regAbs s102))], ⟨(tm Z), trivial⟩, vr, Weak.mkL [0] (by decide) ⟨⟨_, Z, Z⟩, trivial⟩ trivial, ⟨Z, Z⟩⟩

theorem field.Put.ok {t_ : RP} {fields : List api.Field} {mem : Reg} {r : Int × Reg} (h : field.Put t_ fields mem = some r) (rg : Nat) : Go.Lift.Spec prog 15 [.rp rg t_, .sl .no 2 (fields.map api.Field.av)] [(rg, .abs (regAbs mem))] (fun v H => v = .i r.1 ∧ H = [(rg, .abs (regAbs r.2))]) := by
 unfold field.Put at h
 refine Go.Lift.Spec.of_body (rs := [.tmp 4]) func15 Z Z (nb Z) Z (xr (xa (.i 0) Z (pu_assign Z (AEv.int _ _)) (xe (xr (xa (.i 0) Z (pu_assign Z (AEv.int _ _)) (xe ?_))))))
 obtain ⟨s130, s130e, h131⟩ := bind_some h
 refine aw_meet (ν := Unit) (fun v => [(5, .i s130.1)]) (fun v => [(rg, .abs (regAbs s130.2))]) ?_ ?_
 ·have h := s130e
  refine xr (xm Z Z Z (xa (.i (fields.length : Int)) Z (pu_lenM Z underlying23 (tm Z)) (xa (.i 0) Z (pu_move Z (AEv.int _ _)) (xe (aw_block (aw_while (σ := field.Put.S0) (ν := Unit) (field.Put.body0 fields t_) (fun s159 v => [(0, .rp rg t_), (5, .i s159.n), (8, .sl .no 2 (fields.map api.Field.av)), (9, .i (fields.length : Int)), (10, .i s159.t10)]) (fun s159 v => [(rg, .abs (regAbs s159.mem))]) ⟨0, 0, mem⟩ () _ h (Weak.mkL [0] (by decide) ⟨⟨_, Z, Z⟩, trivial⟩ ⟨tm Z, tm Z, tm Z, tm Z, tm Z, trivial⟩) ?_))))))
  rintro s159 _ x161 h hx160
  unfold field.Put.body0 at h
  refine xr (xa (.bool (decide (s159.t10 < (fields.length : Int)))) Z (pu_int (v := .bool (decide (s159.t10 < (fields.length : Int)))) Z Z (tm Z) (tm Z) Z) (xe (aw_seq (aw_cond (b := decide (s159.t10 < (fields.length : Int))) (tm Z) (fun hb174 => ?_) (fun hb174 => ?_)))))
  ·replace h := ite_t (dec_t hb174) h
   refine aw_skip ?_
   obtain ⟨s167, s167e, h168⟩ := bind_some h
   refine aw_meet (ν := Unit) (fun v => [(0, .rp rg t_), (5, .i s167.1), (8, .sl .no 2 (fields.map api.Field.av)), (9, .i (fields.length : Int)), (10, .i s159.t10)]) (fun v => [(rg, .abs (regAbs s167.2))]) ?_ ?_
   ·have h := s167e
    refine aw_block (aw_seq (aw_region ?_))
    obtain ⟨c170, h⟩ := need_of h
    refine xa (.vptr [.str (ix fields s159.t10).Key, .str (ix fields s159.t10).Val]) Z (pu_indexAddrM Z underlying23 sizeOf34 (tm Z) (tm Z) c170 Z) (xc Z (op_loadVN Z isAgg34 sizeOf34 (tm Z) (nb Z) Z (xc Z (op_alloc (cs := [.str ([] : List UInt8), .str ([] : List UInt8)]) (v := .agg [.str ([] : List UInt8), .str ([] : List UInt8)]) Z zeroValue34 Z Z Z ?_))))
    intro p171
    refine ac0 Z Z (op_store (i := 0) (cs' := [.str (ix fields s159.t10).Key, .str (ix fields s159.t10).Val]) Z sizeOf34 (tm Z) (v := .agg [.str (ix fields s159.t10).Key, .str (ix fields s159.t10).Val]) (tm Z) Z Z Z (nb Z) Z (xe (xr (xm Z Z Z (xa (.ptr p171 0) Z (fa Z underlying34 Z sizeOf9 Z Z Z) (xc Z (op_load1 (i := 0) Z isAgg9 (tm Z) Z Z (xa (.ptr p171 1) Z (fa Z underlying34 Z sizeOf9 Z Z Z) (xc Z (op_load1 (i := 0) Z isAgg9 (tm Z) Z Z ?_))))))))))
    obtain ⟨r172, r172e, h⟩ := bind_some h
    refine aops_weak (weak_pick [1, 0] (by decide) Z) (xc Z (op_call (vs := [.rp rg t_, .str (ix fields s159.t10).Key, .str (ix fields s159.t10).Val]) (H := [(rg, .abs (regAbs s159.mem))]) Z call28 ⟨(tm Z), (tm Z), (tm Z), trivial⟩ (List.Perm.refl _) (dict.Table_string.Put.ok r172e rg) ?_))
    rintro _ _ ⟨rfl, rfl⟩
    refine xe (aw_cond (b := r172.1) (tm Z) (fun hb173 => ?_) (fun hb173 => ?_))
    ·replace h := ite_t hb173 h
     refine aw_region (xm Z Z Z (xa (.i (IntKind.wrap .i64 (s159.n + 1))) Z (pu_int (v := .i (IntKind.wrap .i64 (s159.n + 1))) Z Z (tm Z) (AEv.int _ _) Z) (xm Z Z Z (xe ?_))))
     obtain rfl := some_of h
     exact ⟨(), Weak.mkL [0] (by decide) ⟨⟨_, Z, Z⟩, trivial⟩ ⟨tm Z, (AEv.le (tm Z) vr), tm Z, tm Z, tm Z, trivial⟩⟩
    ·replace h := ite_fb hb173 h
     refine aw_skip ?_
     obtain rfl := some_of h
     exact ⟨(), Weak.mkL [0] (by decide) ⟨⟨_, Z, Z⟩, trivial⟩ ⟨tm Z, tm Z, tm Z, tm Z, tm Z, trivial⟩⟩
   ·intro _
    have h := h168
    refine aw_region (xa (.i (IntKind.wrap .i64 (s159.t10 + 1))) Z (pu_int (v := .i (IntKind.wrap .i64 (s159.t10 + 1))) Z Z (tm Z) (AEv.int _ _) Z) (xm Z Z Z (xe ?_)))
    obtain rfl := some_of h
    exact ⟨_, (), Z, Weak.mkL [0] (by decide) ⟨⟨_, Z, Z⟩, trivial⟩ ⟨tm Z, tm Z, tm Z, tm Z, (AEv.le (tm Z) vr), trivial⟩⟩
  ·replace h := ite_f (dec_f hb174) h
   refine aw_exit ?_
   obtain rfl := some_of h
   have h := congrArg some (hx160 _ rfl)
   obtain rfl := some_of h
   exact ⟨(), Weak.mkL [0] (by decide) ⟨⟨_, Z, Z⟩, trivial⟩ ⟨tm Z, trivial⟩⟩
 ·intro _
  have h := h131
  refine xr (xm Z Z Z (xm Z Z Z (xe (aw_ret ?_))))
  obtain rfl := some_of h
  exact ⟨[.i s130.1], _, [(rg, .abs (regAbs s130.2))], ⟨(tm Z), trivial⟩, vr, Weak.mkL [0] (by decide) ⟨⟨_, Z, Z⟩, trivial⟩ trivial, ⟨Z, Z⟩⟩

theorem dict.Table_string.Chain.ok {t_ : RP} {old : Bool} {place : Int} {mem : Reg} {r : (List (List UInt8)) × Reg} (h : dict.Table_string.Chain t_ old place mem = some r) (rg : Nat) : Go.Lift.Spec prog 34 [.rp rg t_, .bool old, .i place] [(rg, .abs (regAbs mem))] (fun v H => ∃ n0, v = .sl (.own n0) 1 (r.1.map AV.str) ∧ H = [(rg, .abs (regAbs r.2)), (n0, .spare)]) := by
 unfold dict.Table_string.Chain at h
 refine Go.Lift.Spec.of_body (rs := [.tmp 6]) func34 Z Z (nb Z) Z (xr (xa (.sl .full 1 (([] : List (List UInt8)).map AV.str)) Z (pu_assign Z (AEv.nil 1 (by decide))) (xe (xr (xa (.sl .full 1 (([] : List (List UInt8)).map AV.str)) Z (pu_assign Z (AEv.nil 1 (by decide))) (xe (aw_seq ?_)))))))
 obtain ⟨s105, s105e, h106⟩ := bind_some h
 refine aw_meet (ν := Unit) (fun v => [(0, .rp rg t_), (1, .bool old), (2, .i place), (7, .sl .full 1 (([] : List (List UInt8)).map AV.str)), (23, .bool s105.1)]) (fun v => [(rg, .abs (regAbs s105.2))]) ?_ ?_
 ·have h := s105e
  refine aw_region (xm Z Z Z ?_)
  obtain ⟨r108, r108e, h⟩ := bind_some h
  refine xc Z (op_call (vs := [.rp rg t_]) (H := [(rg, .abs (regAbs mem))]) Z call38 ⟨(tm Z), trivial⟩ (List.Perm.refl _) (dict.Table_string.ready.ok r108e rg) ?_)
  rintro _ _ ⟨rfl, rfl⟩
  refine xa (.bool (!r108.1)) Z (pu_not Z (tm Z)) (xm Z Z Z ?_)
  rcases Bool.eq_false_or_eq_true (!r108.1) with hb109 | hb109
  ·replace h := ite_t hb109 h
   refine aops_known 13 Z hb109 (xn Z Z Z (xn Z Z Z (xn Z Z Z (xv Z Z (xv Z Z (xv Z Z (xv Z Z (xv Z Z (xn Z Z Z ?_)))))))))
   refine xa (.bool true) Z (pu_pick (b := true) Z (tm Z) (fun _ => (AEv.bool _)) (fun h => nomatch h)) (xe ?_)
   obtain rfl := some_of h
   exact ⟨(), Weak.mkL [0] (by decide) ⟨⟨_, Z, Z⟩, trivial⟩ ⟨tm Z, tm Z, tm Z, tm Z, tm Z, trivial⟩⟩
  ·replace h := ite_fb hb109 h
   refine aops_known 13 Z hb109 (xq Z Z Z Z (xp (.bool (!old)) Z Z (pu_not Z (tm Z)) (xq Z Z Z Z ?_)))
   rcases Bool.eq_false_or_eq_true (!old) with hb110 | hb110
   ·replace h := ite_t hb110 h
    refine aops_known 16 Z hb110 (xq Z Z Z Z ?_)
    obtain ⟨c111, h⟩ := need_of h
    refine xp (.rp rg t_) Z Z (pu_regCheck Z (tm Z) c111) (xp (.rp rg (rpAdd t_ 6)) Z Z (pu_regField Z underlying71 Z sizeOf4 (by decide) (tm Z) c111 Z) ?_)
    obtain ⟨r112, r112e, h⟩ := bind_some h
    refine xg Z Z (op_regLoad (i := 0) (av := .bool r112) Z isAgg4 (tm Z) Z (rLdB_eq r112e) Z (xp (.bool (!r112)) Z Z (pu_not Z (tm Z)) (xp (.bool (!r112)) Z Z (pu_pick (b := true) Z (tm Z) (fun _ => (tm Z)) (fun h => nomatch h)) (xa (.bool (!r112)) Z (pu_pick (b := false) Z (tm Z) (fun h => nomatch h) (fun _ => (tm Z))) (xe ?_)))))
    obtain rfl := some_of h
    exact ⟨(), Weak.mkL [0] (by decide) ⟨⟨_, Z, Z⟩, trivial⟩ ⟨tm Z, tm Z, tm Z, tm Z, tm Z, trivial⟩⟩
   ·replace h := ite_fb hb110 h
    refine aops_known 16 Z hb110 (xn Z Z Z (xn Z Z Z (xn Z Z Z (xn Z Z Z (xn Z Z Z (xp (.bool false) Z Z (pu_pick (b := false) Z (tm Z) (fun h => nomatch h) (fun _ => (AEv.bool _))) (xa (.bool false) Z (pu_pick (b := false) Z (tm Z) (fun h => nomatch h) (fun _ => (tm Z))) (xe ?_))))))))
    obtain rfl := some_of h
    exact ⟨(), Weak.mkL [0] (by decide) ⟨⟨_, Z, Z⟩, trivial⟩ ⟨tm Z, tm Z, tm Z, tm Z, tm Z, trivial⟩⟩
 ·intro _
  have h := h106
  refine aw_cond (b := s105.1) (tm Z) (fun hb200 => ?_) (fun hb200 => ?_)
  ·replace h := ite_t hb200 h
   refine xr (xm Z Z Z (xm Z Z Z (xe (aw_claim 6 (tm Z) fun t113 => (aw_ret ?_)))))
   obtain rfl := some_of h
   exact ⟨[.sl (.own t113) 1 (([] : List (List UInt8)).map AV.str)], _, [(rg, .abs (regAbs s105.2)), (t113, .spare)], ⟨(tm Z), trivial⟩, vr, Weak.mkL [1, 0] (by decide) ⟨⟨_, Z, Z⟩, ⟨_, Z, Z⟩, trivial⟩ trivial, ⟨t113, Z, Z⟩⟩
  ·replace h := ite_fb hb200 h
   refine aw_skip (xr (xm Z Z Z ?_))
   obtain ⟨c114, h⟩ := need_of h
   refine xa (.rp rg t_) Z (pu_regCheck Z (tm Z) c114) (xa (.rp rg (rpAdd t_ 1)) Z (pu_regField Z underlying71 Z sizeOf69 (by decide) (tm Z) c114 Z) ?_)
   obtain ⟨c115, h⟩ := need_of h
   obtain ⟨c116, h⟩ := need_of h
   refine xa (.rp rg (rpAdd (rpAdd t_ 1) 0)) Z (pu_regIndexA Z underlying69 sizeOf67 (tm Z) (AEv.int _ _) c115 c116) ?_
   obtain ⟨r117, r117e, h⟩ := bind_some h
   obtain ⟨r118, r118e, h⟩ := bind_some h
   refine xc Z (op_regLoadN (i := 0) (vs := [.it .i64 r117, .sc r118]) (avs := [.i r117, .rs rg r118]) Z isAgg67 sizeOf67 (tm Z) Z ⟨rLdI_eq r117e, rLdL_eq r118e, trivial⟩ Z (by decide) Z (xc Z (op_alloc (cs := [.i 0, .rs rg (none : RS)]) (v := .agg [.i 0, .rs rg (none : RS)]) Z zeroValue67 Z Z Z ?_)))
   intro p119
   refine ac0 Z Z (op_store (i := 0) (cs' := [.i r117, .rs rg r118]) Z sizeOf67 (tm Z) (v := .agg [.i r117, .rs rg r118]) (tm Z) Z Z Z (nb Z) Z (xe ?_))
   obtain ⟨s124, s124e, h125⟩ := bind_some h
   refine aw_meet (ν := Unit) (fun v => [(2, .i place), (7, .sl .full 1 (([] : List (List UInt8)).map AV.str)), (8, .ptr p119 0)]) (fun v => [(p119, .cells [.i s124.1, .rs rg s124.2]), (rg, .abs (regAbs s105.2))]) ?_ ?_
   ·have h := s124e
    refine xr (xm Z Z Z (xa (.bool (!old)) Z (pu_not Z (tm Z)) (xe (aw_cond (b := (!old)) (tm Z) (fun hb130 => ?_) (fun hb130 => ?_)))))
    ·replace h := ite_t hb130 h
     refine aw_region (xm Z Z Z (xa (.rp rg t_) Z (pu_regCheck Z (tm Z) c114) (xa (.rp rg (rpAdd t_ 1)) Z (pu_regField Z underlying71 Z sizeOf69 (by decide) (tm Z) c114 Z) ?_)))
     obtain ⟨c127, h⟩ := need_of h
     refine xa (.rp rg (rpAdd (rpAdd t_ 1) 2)) Z (pu_regIndexA Z underlying69 sizeOf67 (tm Z) (AEv.int _ _) c115 c127) ?_
     obtain ⟨r128, r128e, h⟩ := bind_some h
     obtain ⟨r129, r129e, h⟩ := bind_some h
     refine xc Z (op_regLoadN (i := 1) (vs := [.it .i64 r128, .sc r129]) (avs := [.i r128, .rs rg r129]) Z isAgg67 sizeOf67 (tm Z) Z ⟨rLdI_eq r128e, rLdL_eq r129e, trivial⟩ Z (by decide) Z (ac0 Z Z (op_store (i := 0) (cs' := [.i r128, .rs rg r129]) Z sizeOf67 (tm Z) (v := .agg [.i r128, .rs rg r129]) (tm Z) Z Z Z (nb Z) Z (xe ?_))))
     obtain rfl := some_of h
     exact ⟨(), Weak.mkL [0, 1] (by decide) ⟨⟨_, Z, cr, Z⟩, ⟨_, Z, Z⟩, trivial⟩ ⟨tm Z, tm Z, tm Z, trivial⟩⟩
    ·replace h := ite_fb hb130 h
     refine aw_skip ?_
     obtain rfl := some_of h
     exact ⟨(), Weak.mkL [0, 1] (by decide) ⟨⟨_, Z, cr, Z⟩, ⟨_, Z, Z⟩, trivial⟩ ⟨tm Z, tm Z, tm Z, trivial⟩⟩
   ·intro _
    have h := h125
    refine aw_seq ?_
    obtain ⟨s132, s132e, h133⟩ := letO_of h
    refine aw_meet (ν := Unit) (fun v => [(2, .i place), (7, .sl .full 1 (([] : List (List UInt8)).map AV.str)), (8, .ptr p119 0), (45, .bool s132)]) (fun v => [(p119, .cells [.i s124.1, .rs rg s124.2]), (rg, .abs (regAbs s105.2))]) ?_ ?_
    ·have h := s132e.symm
     refine aw_region (xm Z Z Z (xa (.bool (decide (place < 0))) Z (pu_int (v := .bool (decide (place < 0))) Z Z (tm Z) (AEv.int _ _) Z) (xm Z Z Z ?_)))
     rcases Bool.eq_false_or_eq_true (decide (place < 0)) with hb135 | hb135
     ·replace h := ite_t (dec_t hb135) h
      refine aops_known 39 Z hb135 (xn Z Z Z (xn Z Z Z (xn Z Z Z (xn Z Z Z (xn Z Z Z (xa (.bool true) Z (pu_pick (b := true) Z (tm Z) (fun _ => (AEv.bool _)) (fun h => nomatch h)) (xe ?_)))))))
      subst h
      exact ⟨(), Weak.mkL [0, 1] (by decide) ⟨⟨_, Z, cr, Z⟩, ⟨_, Z, Z⟩, trivial⟩ ⟨tm Z, tm Z, tm Z, tm Z, trivial⟩⟩
     ·replace h := ite_f (dec_f hb135) h
      refine aops_known 39 Z hb135 (xq Z Z Z Z (xp (.ptr p119 1) Z Z (fa Z underlying67 Z sizeOf65 Z Z Z) (xg Z Z (op_load1 (i := 0) Z isAgg65 (tm Z) Z Z (xp (.i (rsLen s124.2 : Int)) Z Z (pu_regLen Z underlying65 (tm Z)) (xp (.bool (decide ((rsLen s124.2 : Int) ≤ place))) Z Z (pu_int (v := .bool (decide ((rsLen s124.2 : Int) ≤ place))) Z Z (tm Z) (tm Z) Z) (xa (.bool (decide ((rsLen s124.2 : Int) ≤ place))) Z (pu_pick (b := false) Z (tm Z) (fun h => nomatch h) (fun _ => (tm Z))) (xe ?_))))))))
      subst h
      exact ⟨(), Weak.mkL [0, 1] (by decide) ⟨⟨_, Z, cr, Z⟩, ⟨_, Z, Z⟩, trivial⟩ ⟨tm Z, tm Z, tm Z, (AEv.le (tm Z) vr), trivial⟩⟩
    ·intro _
     have h := h133
     refine aw_cond (b := s132) (tm Z) (fun hb199 => ?_) (fun hb199 => ?_)
     ·replace h := ite_t hb199 h
      refine xr (xm Z Z Z (xm Z Z Z (xe (aw_claim 6 (tm Z) fun t136 => (aw_ret ?_)))))
      obtain rfl := some_of h
      exact ⟨[.sl (.own t136) 1 (([] : List (List UInt8)).map AV.str)], _, [(rg, .abs (regAbs s105.2)), (t136, .spare)], ⟨(tm Z), trivial⟩, vr, Weak.mkL [2, 0] (by decide) ⟨⟨_, Z, Z⟩, ⟨_, Z, Z⟩, trivial⟩ trivial, ⟨t136, Z, Z⟩⟩
     ·replace h := ite_fb hb199 h
      refine aw_skip ?_
      obtain ⟨s166, s166e, h168⟩ := bind_some h
      refine aw_meet (ν := Nat) (fun v => [(7, .sl (.own v) 1 (s166.map AV.str))]) (fun v => [(v, .spare), (rg, .abs (regAbs s105.2))]) ?_ ?_
      ·have h := s166e
       refine xr (xa (.ptr p119 1) Z (fa Z underlying67 Z sizeOf65 Z Z Z) (xc Z (op_load1 (i := 0) Z isAgg65 (tm Z) Z Z (xm Z Z Z ?_))))
       obtain ⟨c170, h⟩ := need_of h
       refine xa (.rp rg (rsPtr s124.2 place 1)) Z (pu_regIndexS Z underlying65 sizeOf87 (tm Z) (tm Z) c170) ?_
       obtain ⟨r171, r171e, h⟩ := bind_some h
       refine xc Z (op_regLoad (i := 1) (av := .rp rg r171) Z isAgg87 (tm Z) Z (rLdP_eq r171e) Z (xm Z Z Z (xe (aw_block (aw_claim 7 (tm Z) fun t198 => (aw_while (σ := dict.Table_string.Chain.S0) (ν := Nat) (dict.Table_string.Chain.body0 s105) (fun s187 v => [(7, .sl (.own v) 1 (s187.out.map AV.str)), (9, .rp rg s187.x)]) (fun s187 v => [(v, .spare), (rg, .abs (regAbs s105.2))]) ⟨([] : List (List UInt8)), r171⟩ t198 _ h (Weak.mkL [0, 2] (by decide) ⟨⟨_, Z, Z⟩, ⟨_, Z, Z⟩, trivial⟩ ⟨tm Z, tm Z, trivial⟩) ?_))))))
       rintro s187 n188 x190 h hx189
       unfold dict.Table_string.Chain.body0 at h
       refine aw_seq (xr (xm Z Z Z (xa (.bool s187.x.isSome) Z (pu_regNotNil Z underlying87 (tm Z) AEv.nilp) (xe (aw_cond (b := s187.x.isSome) (tm Z) (fun hb197 => ?_) (fun hb197 => ?_))))))
       ·replace h := ite_t hb197 h
        refine aw_skip (aw_seq (aw_block (aw_region (xm Z Z Z (xm Z Z Z ?_)))))
        obtain ⟨c192, h⟩ := need_of h
        refine xa (.rp rg s187.x) Z (pu_regCheck Z (tm Z) c192) (xa (.rp rg (rpAdd s187.x 0)) Z (pu_regField Z underlying89 Z sizeOf9 (by decide) (tm Z) c192 Z) ?_)
        obtain ⟨r193, r193e, h⟩ := bind_some h
        refine xc Z (op_regLoad (i := 1) (av := .str r193) Z isAgg9 (tm Z) Z (rLdS_eq r193e) Z (xc Z (op_buildSlice (xs := ([r193] : List (List UInt8)).map AV.str) (aparts := [(0, .str r193)]) Z underlying25 sizeOf9 zeroValue9 (by decide) (by decide) ⟨Z, (tm Z), trivial⟩ Z Z Z ?_)))
        obtain ⟨c194, h⟩ := need_of h
        refine xc Z (op_appendOM (q := 0) Z underlying25 underlying25 (.inl Z) typeInfo9 Z Z Z (by decide) (tm Z) Z (given_sl (tm Z)) c194 ?_)
        intro t195
        refine xm Z Z Z (xe (aw_region (xm Z Z Z (xa (.rp rg s187.x) Z (pu_regCheck Z (tm Z) c192) (xa (.rp rg (rpAdd s187.x 2)) Z (pu_regField Z underlying89 Z sizeOf87 (by decide) (tm Z) c192 Z) ?_)))))
        obtain ⟨r196, r196e, h⟩ := bind_some h
        refine xc Z (op_regLoad (i := 1) (av := .rp rg r196) Z isAgg87 (tm Z) Z (rLdP_eq r196e) Z (xm Z Z Z (xe ?_)))
        obtain rfl := some_of h
        exact ⟨_, t195, Z, Weak.mkL [0, 1] (by decide) ⟨⟨_, Z, Z⟩, ⟨_, Z, Z⟩, trivial⟩ ⟨(AEv.le (tm Z) vr), tm Z, trivial⟩⟩
       ·replace h := ite_fb hb197 h
        refine aw_exit ?_
        obtain rfl := some_of h
        have h := congrArg some (hx189 _ rfl)
        obtain rfl := some_of h
        exact ⟨n188, Weak.mkL [0, 1] (by decide) ⟨⟨_, Z, Z⟩, ⟨_, Z, Z⟩, trivial⟩ ⟨tm Z, trivial⟩⟩
      ·intro n167
       have h := h168
       refine xr (xm Z Z Z (xm Z Z Z (xe (aw_ret ?_))))
       obtain rfl := some_of h
       exact ⟨[.sl (.own n167) 1 (s166.map AV.str)], _, [(rg, .abs (regAbs s105.2)), (n167, .spare)], ⟨(tm Z), trivial⟩, vr, Weak.mkL [1, 0] (by decide) ⟨⟨_, Z, Z⟩, ⟨_, Z, Z⟩, trivial⟩ trivial, ⟨n167, Z, Z⟩⟩

theorem dict.Table_string.Keys.ok {t_ : RP} {mem : Reg} {r : (List (List UInt8)) × Reg} (h : dict.Table_string.Keys t_ mem = some r) (rg : Nat) : Go.Lift.Spec prog 23 [.rp rg t_] [(rg, .abs (regAbs mem))] (fun v H => ∃ n0, v = .vec n0 ∧ H = [(rg, .abs (regAbs r.2)), (n0, .vec 1 (r.1.map AV.str))]) := by
 unfold dict.Table_string.Keys at h
 refine Go.Lift.Spec.of_body (rs := [.tmp 2]) func23 Z Z (nb Z) Z (xr (xa (.sl .full 1 (([] : List (List UInt8)).map AV.str)) Z (pu_assign Z (AEv.nil 1 (by decide))) (xe (xr (xa (.sl .full 1 (([] : List (List UInt8)).map AV.str)) Z (pu_assign Z (AEv.nil 1 (by decide))) (xe (aw_seq ?_)))))))
 refine xr (xm Z Z Z (xa (.bool t_.isNone) Z (pu_regNil Z underlying30 (tm Z) AEv.nilp) (xe (aw_cond (b := t_.isNone) (tm Z) (fun hb787 => ?_) (fun hb787 => ?_)))))
 ·replace h := ite_t hb787 h
  refine xr (xm Z Z Z (xm Z Z Z (xe (aw_vecNil 2 (tm Z) fun t394 => (aw_ret ?_)))))
  obtain rfl := some_of h
  exact ⟨[.vec t394], _, [(rg, .abs (regAbs mem)), (t394, .vec 1 (([] : List (List UInt8)).map AV.str))], ⟨(tm Z), trivial⟩, vr, Weak.mkL [1, 0] (by decide) ⟨⟨_, Z, Z⟩, ⟨_, Z, Z⟩, trivial⟩ trivial, ⟨t394, Z, Z⟩⟩
 ·replace h := ite_fb hb787 h
  refine aw_skip ?_
  obtain ⟨s589, s589e, h591⟩ := bind_some h
  refine aw_meet (ν := Nat) (fun v => [(3, .vec v)]) (fun v => [(v, .vec 1 (s589.1.map AV.str)), (rg, .abs (regAbs s589.2))]) ?_ ?_
  ·have h := s589e
   refine xr (xa (.i 0) Z (pu_move Z (AEv.int _ _)) (xe (aw_block (aw_vecNil 3 (tm Z) fun t786 => (aw_while (σ := dict.Table_string.Keys.S0) (ν := Nat) (dict.Table_string.Keys.body0 t_) (fun s720 v => [(0, .rp rg t_), (3, .vec v), (9, .i s720.t9)]) (fun s720 v => [(rg, .abs (regAbs s720.mem)), (v, .vec 1 (s720.v.map AV.str))]) ⟨0, mem, ([] : List (List UInt8))⟩ t786 _ h (Weak.mkL [1, 0] (by decide) ⟨⟨_, Z, Z⟩, ⟨_, Z, Z⟩, trivial⟩ ⟨tm Z, tm Z, tm Z, trivial⟩) ?_)))))
   rintro s720 n721 x723 h hx722
   unfold dict.Table_string.Keys.body0 at h
   refine xr (xa (.bool (decide (s720.t9 < 2))) Z (pu_int (v := .bool (decide (s720.t9 < 2))) Z Z (tm Z) (AEv.int _ _) Z) (xe (aw_seq (aw_cond (b := decide (s720.t9 < 2)) (tm Z) (fun hb785 => ?_) (fun hb785 => ?_)))))
   ·replace h := ite_t (dec_t hb785) h
    refine aw_skip ?_
    obtain ⟨s753, s753e, h755⟩ := bind_some h
    refine aw_meet (ν := Nat) (fun v => [(0, .rp rg t_), (3, .vec v), (9, .i s720.t9)]) (fun v => [(rg, .abs (regAbs s753.1)), (v, .vec 1 (s753.2.map AV.str))]) ?_ ?_
    ·have h := s753e
     refine aw_block (xr (xm Z Z Z (xm Z Z Z (xe (xr (xm Z Z Z (xm Z Z Z ?_)))))))
     obtain ⟨c757, h⟩ := need_of h
     refine xa (.rp rg t_) Z (pu_regCheck Z (tm Z) c757) (xa (.rp rg (rpAdd t_ 1)) Z (pu_regField Z underlying71 Z sizeOf69 (by decide) (tm Z) c757 Z) ?_)
     obtain ⟨c758, h⟩ := need_of h
     obtain ⟨c759, h⟩ := need_of h
     refine xa (.rp rg (rpAdd (rpAdd t_ 1) (Int.toNat s720.t9 * 2))) Z (pu_regIndexA Z underlying69 sizeOf67 (tm Z) (tm Z) c758 c759) ?_
     obtain ⟨c760, h⟩ := need_of h
     refine xa (.rp rg (rpAdd (rpAdd (rpAdd t_ 1) (Int.toNat s720.t9 * 2)) 1)) Z (pu_regField Z underlying67 Z sizeOf65 (by decide) (tm Z) c760 Z) ?_
     obtain ⟨r761, r761e, h⟩ := bind_some h
     refine xc Z (op_regLoad (i := 0) (av := .rs rg r761) Z isAgg65 (tm Z) Z (rLdL_eq r761e) Z (xa (.i (rsLen r761 : Int)) Z (pu_regLen Z underlying65 (tm Z)) (xa (.i 0) Z (pu_move Z (AEv.int _ _)) (xe (aw_block (aw_while (σ := dict.Table_string.Keys.S2) (ν := Nat) (dict.Table_string.Keys.body2 r761 t_ s720) (fun s775 v => [(0, .rp rg t_), (3, .vec v), (4, .i s720.t9), (9, .i s720.t9), (19, .i (rsLen r761 : Int)), (20, .i s775.t20)]) (fun s775 v => [(rg, .abs (regAbs s775.mem)), (v, .vec 1 (s775.v.map AV.str))]) ⟨0, s720.mem, s720.v⟩ n721 _ h (Weak.mkL [0, 1] (by decide) ⟨⟨_, Z, Z⟩, ⟨_, Z, Z⟩, trivial⟩ ⟨tm Z, tm Z, tm Z, tm Z, tm Z, tm Z, trivial⟩) ?_))))))
     rintro s775 n776 x778 h hx777
     unfold dict.Table_string.Keys.body2 at h
     refine xr (xa (.bool (decide (s775.t20 < (rsLen r761 : Int)))) Z (pu_int (v := .bool (decide (s775.t20 < (rsLen r761 : Int)))) Z Z (tm Z) (tm Z) Z) (xe (aw_seq (aw_cond (b := decide (s775.t20 < (rsLen r761 : Int))) (tm Z) (fun hb784 => ?_) (fun hb784 => ?_)))))
     ·replace h := ite_t (dec_t hb784) h
      refine aw_skip (aw_seq (aw_block (xr (xm Z Z Z (xm Z Z Z (xe (aw_region (xm Z Z Z ?_))))))))
      refine xm Z Z Z (xm Z Z Z (xa (.bool (decide (s720.t9 = 0))) Z (pu_int (v := .bool (decide (s720.t9 = 0))) Z Z (tm Z) (AEv.int _ _) Z) (xm Z Z Z ?_)))
      obtain ⟨r780, r780e, h⟩ := bind_some h
      refine xc Z (op_call (vs := [.rp rg t_, .bool (decide (s720.t9 = 0)), .i s775.t20]) (H := [(rg, .abs (regAbs s775.mem))]) Z call34 ⟨(tm Z), (tm Z), (tm Z), trivial⟩ (List.Perm.refl _) (dict.Table_string.Chain.ok r780e rg) ?_)
      rintro _ _ ⟨t781, rfl, rfl⟩
      obtain ⟨c782, h⟩ := need_of h
      refine xc Z (op_appendVM (sz := 1) (q := 2) Z underlying25 underlying25 (.inl Z) typeInfo9 Z Z Z (by decide) (tm Z) Z (given_sl (tm Z)) c782 ?_)
      intro p783
      refine xm Z Z Z (xe (aw_region (xa (.i (IntKind.wrap .i64 (s775.t20 + 1))) Z (pu_int (v := .i (IntKind.wrap .i64 (s775.t20 + 1))) Z Z (tm Z) (AEv.int _ _) Z) (xm Z Z Z (xe ?_)))))
      obtain rfl := some_of h
      exact ⟨_, p783, Z, Weak.mkL [0, 2] (by decide) ⟨⟨_, Z, Z⟩, ⟨_, Z, Z⟩, trivial⟩ ⟨tm Z, tm Z, tm Z, tm Z, tm Z, (AEv.le (tm Z) vr), trivial⟩⟩
     ·replace h := ite_f (dec_f hb784) h
      refine aw_exit ?_
      obtain rfl := some_of h
      have h := congrArg some (hx777 _ rfl)
      obtain rfl := some_of h
      exact ⟨n776, Weak.mkL [0, 1] (by decide) ⟨⟨_, Z, Z⟩, ⟨_, Z, Z⟩, trivial⟩ ⟨tm Z, tm Z, tm Z, trivial⟩⟩
    ·intro n754
     have h := h755
     refine aw_region (xa (.i (IntKind.wrap .i64 (s720.t9 + 1))) Z (pu_int (v := .i (IntKind.wrap .i64 (s720.t9 + 1))) Z Z (tm Z) (AEv.int _ _) Z) (xm Z Z Z (xe ?_)))
     obtain rfl := some_of h
     exact ⟨_, n754, Z, Weak.mkL [0, 1] (by decide) ⟨⟨_, Z, Z⟩, ⟨_, Z, Z⟩, trivial⟩ ⟨tm Z, tm Z, (AEv.le (tm Z) vr), trivial⟩⟩
   ·replace h := ite_f (dec_f hb785) h
    refine aw_exit ?_
    obtain rfl := some_of h
    have h := congrArg some (hx722 _ rfl)
    obtain rfl := some_of h
    exact ⟨n721, Weak.mkL [1, 0] (by decide) ⟨⟨_, Z, Z⟩, ⟨_, Z, Z⟩, trivial⟩ ⟨tm Z, trivial⟩⟩
  ·intro n590
   have h := h591
   refine xr (xm Z Z Z (xm Z Z Z (xe (aw_ret ?_))))
   obtain rfl := some_of h
   exact ⟨[.vec n590], _, [(rg, .abs (regAbs s589.2)), (n590, .vec 1 (s589.1.map AV.str))], ⟨(tm Z), trivial⟩, vr, Weak.mkL [1, 0] (by decide) ⟨⟨_, Z, Z⟩, ⟨_, Z, Z⟩, trivial⟩ trivial, ⟨n590, Z, Z⟩⟩

theorem slices.Sort_string.ok {x : List (List UInt8)} {r : List (List UInt8)} (h : slices.Sort_string x = some r) (o0 : Nat) : Go.Lift.Spec prog 24 [.vec o0] [(o0, .vec 1 (x.map AV.str))] (fun v H => v = .tup [] ∧ H = [(o0, .vec 1 (r.map AV.str))]) := by
 unfold slices.Sort_string at h
 obtain ⟨c, h⟩ := need_of h
 obtain rfl := some_of h
 exact spec_sortS (fun blk off cap ss w => Go.Proofs.Try.slices_Sort_string blk off cap ss w) (fun p cap w => Go.Proofs.Try.slices_Sort_string_none p cap w) c o0

theorem dict.Table_string.Get.ok {t_ : RP} {key : List UInt8} {mem : Reg} {r : (List UInt8) × Bool} (h : dict.Table_string.Get t_ key mem = some r) (rg : Nat) : Go.Lift.Spec prog 25 [.rp rg t_, .str key] [(rg, .abs (regAbs mem))] (fun v H => v = .tup [.str r.1, .bool r.2] ∧ H = [(rg, .abs (regAbs mem))]) := by
 unfold dict.Table_string.Get at h
 refine Go.Lift.Spec.of_body (rs := [.tmp 4, .tmp 5]) func25 Z Z (nb Z) Z (xr (xa (.str ([] : List UInt8)) Z (pu_assign Z (AEv.const Z)) (xa (.bool false) Z (pu_assign Z (AEv.bool _)) (xe ?_))))
 obtain ⟨s74, s74e, h55⟩ := bind_some h
 refine aw_join (σ := Unit) (ν := Unit) (fun u v => []) (fun u v => [(rg, .abs (regAbs mem))]) (fun u => s74 = .inl u) ?_ ?_
 ·intro s54
  intro _
  rintro rfl
  have h := onSum_inl h55
  refine xr (xc Z (op_alloc (cs := [.str ([] : List UInt8)]) (v := .str ([] : List UInt8)) Z zeroValue9 Z Z Z ?_))
  intro p73
  refine xa (.ptr p73 0) Z (pu_nilCheck Z (tm Z) Z) (xc Z (op_load1 (i := 0) Z isAgg9 (tm Z) Z Z (xm Z Z Z (xa (.bool false) Z (pu_assign Z (AEv.bool _)) (xe (aw_ret ?_))))))
  obtain rfl := some_of h
  exact ⟨[.str ([] : List UInt8), .bool false], _, [(rg, .abs (regAbs mem))], ⟨(tm Z), (tm Z), trivial⟩, vr, Weak.mkL [1] (by decide) ⟨⟨_, Z, Z⟩, trivial⟩ trivial, ⟨Z, Z⟩⟩
 ·have h := s74e
  obtain ⟨s60, s60e, h61⟩ := bind_some h
  refine aw_meet (ν := Unit) (fun v => [(0, .rp rg t_), (1, .str key), (15, .bool s60)]) (fun v => [(rg, .abs (regAbs mem))]) ?_ ?_
  ·have h := s60e
   refine aw_region (xm Z Z Z (xa (.bool t_.isSome) Z (pu_regNotNil Z underlying30 (tm Z) AEv.nilp) (xm Z Z Z ?_)))
   rcases Bool.eq_false_or_eq_true t_.isSome with hb63 | hb63
   ·replace h := ite_t hb63 h
    refine aops_known 9 Z hb63 (xq Z Z Z Z ?_)
    obtain ⟨c64, h⟩ := need_of h
    refine xp (.rp rg t_) Z Z (pu_regCheck Z (tm Z) c64) (xp (.rp rg (rpAdd t_ 7)) Z Z (pu_regField Z underlying71 Z sizeOf3 (by decide) (tm Z) c64 Z) ?_)
    obtain ⟨r65, r65e, h⟩ := bind_some h
    refine xg Z Z (op_regLoad (i := 0) (av := .i r65) Z isAgg3 (tm Z) Z (rLdI_eq r65e) Z (xp (.bool (decide (0 < r65))) Z Z (pu_int (v := .bool (decide (0 < r65))) Z Z (tm Z) (AEv.int _ _) Z) (xa (.bool (decide (0 < r65))) Z (pu_pick (b := true) Z (tm Z) (fun _ => (tm Z)) (fun h => nomatch h)) (xe ?_))))
    obtain rfl := some_of h
    exact ⟨(), Weak.mkL [0] (by decide) ⟨⟨_, Z, Z⟩, trivial⟩ ⟨tm Z, tm Z, (AEv.le (tm Z) vr), trivial⟩⟩
   ·replace h := ite_fb hb63 h
    refine aops_known 9 Z hb63 (xn Z Z Z (xn Z Z Z (xn Z Z Z (xn Z Z Z (xn Z Z Z (xa (.bool false) Z (pu_pick (b := false) Z (tm Z) (fun h => nomatch h) (fun _ => (AEv.bool _))) (xe ?_)))))))
    obtain rfl := some_of h
    exact ⟨(), Weak.mkL [0] (by decide) ⟨⟨_, Z, Z⟩, trivial⟩ ⟨tm Z, tm Z, tm Z, trivial⟩⟩
  ·intro _
   have h := h61
   refine aw_cond (b := s60) (tm Z) (fun hb72 => ?_) (fun hb72 => ?_)
   ·replace h := ite_t hb72 h
    refine xr (xm Z Z Z (xm Z Z Z ?_))
    obtain ⟨r66, r66e, h⟩ := bind_some h
    refine xc Z (op_call (vs := [.rp rg t_, .str key]) (H := [(rg, .abs (regAbs mem))]) Z call37 ⟨(tm Z), (tm Z), trivial⟩ (List.Perm.refl _) (dict.Table_string.find.ok r66e rg) ?_)
    rintro _ _ ⟨rfl, rfl⟩
    refine xm Z Z Z (xe (xr (xm Z Z Z (xa (.bool r66.isSome) Z (pu_regNotNil Z underlying85 (tm Z) AEv.nilp) (xe (aw_cond (b := r66.isSome) (tm Z) (fun hb71 => ?_) (fun hb71 => ?_)))))))
    ·replace h := ite_t hb71 h
     refine xr (xm Z Z Z ?_)
     obtain ⟨c67, h⟩ := need_of h
     refine xa (.rp rg r66) Z (pu_regCheck Z (tm Z) c67) ?_
     obtain ⟨r68, r68e, h⟩ := bind_some h
     refine xc Z (op_regLoad (i := 0) (av := .rp rg r68) Z isAgg87 (tm Z) Z (rLdP_eq r68e) Z ?_)
     obtain ⟨c69, h⟩ := need_of h
     refine xa (.rp rg r68) Z (pu_regCheck Z (tm Z) c69) (xa (.rp rg (rpAdd r68 1)) Z (pu_regField Z underlying89 Z sizeOf9 (by decide) (tm Z) c69 Z) ?_)
     obtain ⟨r70, r70e, h⟩ := bind_some h
     refine xc Z (op_regLoad (i := 0) (av := .str r70) Z isAgg9 (tm Z) Z (rLdS_eq r70e) Z (xm Z Z Z (xa (.bool true) Z (pu_assign Z (AEv.bool _)) (xe (aw_ret ?_)))))
     obtain rfl := some_of h
     have h := onSum_inr h55
     obtain rfl := some_of h
     exact ⟨[.str r70, .bool true], _, [(rg, .abs (regAbs mem))], ⟨(tm Z), (tm Z), trivial⟩, vr, Weak.mkL [0] (by decide) ⟨⟨_, Z, Z⟩, trivial⟩ trivial, ⟨Z, Z⟩⟩
    ·replace h := ite_fb hb71 h
     refine aw_skip ?_
     exact ⟨(), (), (some_of h).symm, Weak.mkL [0] (by decide) ⟨⟨_, Z, Z⟩, trivial⟩ trivial⟩
   ·replace h := ite_fb hb72 h
    refine aw_skip ?_
    exact ⟨(), (), (some_of h).symm, Weak.mkL [0] (by decide) ⟨⟨_, Z, Z⟩, trivial⟩ trivial⟩

theorem field.Get.ok {t_ : RP} {keys : List (List UInt8)} {mem : Reg} {r : List api.Field} (h : field.Get t_ keys mem = some r) (rg : Nat) : Go.Lift.Spec prog 11 [.rp rg t_, .sl .no 1 (keys.map AV.str)] [(rg, .abs (regAbs mem))] (fun v H => ∃ n0, v = .sl (.own n0) 2 (r.map api.Field.av) ∧ H = [(rg, .abs (regAbs mem)), (n0, .spare)]) := by
 unfold field.Get at h
 refine Go.Lift.Spec.of_body (rs := [.tmp 4]) func11 Z Z (nb Z) Z (xr (xa (.sl .full 2 (([] : List api.Field).map api.Field.av)) Z (pu_assign Z (AEv.nil 2 (by decide))) (xe (xr (xa (.sl .full 2 (([] : List api.Field).map api.Field.av)) Z (pu_assign Z (AEv.nil 2 (by decide))) (xe ?_))))))
 obtain ⟨s170, s170e, h172⟩ := bind_some h
 refine aw_meet (ν := Nat) (fun v => [(5, .sl (.own v) 2 (s170.map api.Field.av))]) (fun v => [(v, .spare), (rg, .abs (regAbs mem))]) ?_ ?_
 ·have h := s170e
  refine xr (xm Z Z Z (xa (.i (keys.length : Int)) Z (pu_lenM Z underlying25 (tm Z)) (xa (.i 0) Z (pu_move Z (AEv.int _ _)) (xe (aw_block (aw_claim 5 (tm Z) fun t228 => (aw_while (σ := field.Get.S0) (ν := Nat) (field.Get.body0 keys t_ mem) (fun s208 v => [(0, .rp rg t_), (5, .sl (.own v) 2 (s208.out.map api.Field.av)), (10, .sl .no 1 (keys.map AV.str)), (11, .i (keys.length : Int)), (12, .i s208.t12)]) (fun s208 v => [(rg, .abs (regAbs mem)), (v, .spare)]) ⟨([] : List api.Field), 0⟩ t228 _ h (Weak.mkL [1, 0] (by decide) ⟨⟨_, Z, Z⟩, ⟨_, Z, Z⟩, trivial⟩ ⟨tm Z, tm Z, tm Z, tm Z, tm Z, trivial⟩) ?_)))))))
  rintro s208 n209 x211 h hx210
  unfold field.Get.body0 at h
  refine xr (xa (.bool (decide (s208.t12 < (keys.length : Int)))) Z (pu_int (v := .bool (decide (s208.t12 < (keys.length : Int)))) Z Z (tm Z) (tm Z) Z) (xe (aw_seq (aw_cond (b := decide (s208.t12 < (keys.length : Int))) (tm Z) (fun hb227 => ?_) (fun hb227 => ?_)))))
  ·replace h := ite_t (dec_t hb227) h
   refine aw_skip ?_
   obtain ⟨s218, s218e, h220⟩ := bind_some h
   refine aw_meet (ν := Nat) (fun v => [(0, .rp rg t_), (5, .sl (.own v) 2 (s218.map api.Field.av)), (10, .sl .no 1 (keys.map AV.str)), (11, .i (keys.length : Int)), (12, .i s208.t12)]) (fun v => [(rg, .abs (regAbs mem)), (v, .spare)]) ?_ ?_
   ·have h := s218e
    refine aw_block (aw_seq (aw_region ?_))
    obtain ⟨c222, h⟩ := need_of h
    refine xa (.vptr [.str (ix keys s208.t12)]) Z (pu_indexAddrM Z underlying25 sizeOf9 (tm Z) (tm Z) c222 Z) (xc Z (op_loadV1 Z isAgg9 (tm Z) Z (xm Z Z Z (xe (xr (xm Z Z Z (xm Z Z Z ?_)))))))
    obtain ⟨r223, r223e, h⟩ := bind_some h
    refine xc Z (op_call (vs := [.rp rg t_, .str (ix keys s208.t12)]) (H := [(rg, .abs (regAbs mem))]) Z call25 ⟨(tm Z), (tm Z), trivial⟩ (List.Perm.refl _) (dict.Table_string.Get.ok r223e rg) ?_)
    rintro _ _ ⟨rfl, rfl⟩
    refine xm Z Z Z (xa (.str r223.1) Z (pu_extract Z (tm Z) (nb Z) Z) (xa (.bool r223.2) Z (pu_extract Z (tm Z) (nb Z) Z) (xm Z Z Z (xm Z Z Z (xe (xr (xm Z Z Z (xe ?_))))))))
    refine aw_cond (b := r223.2) (tm Z) (fun hb226 => ?_) (fun hb226 => ?_)
    ·replace h := ite_t hb226 h
     refine aw_region (xm Z Z Z (xm Z Z Z (xm Z Z Z (xa (.agg [.str (ix keys s208.t12), .str r223.1]) Z (pu_build (zs := [.str ([] : List UInt8), .str ([] : List UInt8)]) (szs := [1, 1]) (aparts := [(0, .str (ix keys s208.t12)), (1, .str r223.1)]) (cs := [.str (ix keys s208.t12), .str r223.1]) Z underlying34 zeroValue34 Z ⟨sizeOf9, sizeOf9, trivial⟩ ⟨Z, (tm Z), ⟨Z, (tm Z), trivial⟩⟩ Z) (xc Z (op_buildSlice (xs := ([({ Key := ix keys s208.t12, Val := r223.1 } : api.Field)] : List api.Field).map api.Field.av) (aparts := [(0, .agg [.str (ix keys s208.t12), .str r223.1])]) Z underlying23 sizeOf34 zeroValue34 (by decide) (by decide) ⟨Z, (tm Z), trivial⟩ Z Z Z ?_))))))
     obtain ⟨c224, h⟩ := need_of h
     refine xc Z (op_appendOM (q := 1) Z underlying23 underlying23 (.inl Z) typeInfo34 Z Z Z (by decide) (tm Z) Z (given_sl (tm Z)) c224 ?_)
     intro t225
     refine xm Z Z Z (xe ?_)
     obtain rfl := some_of h
     exact ⟨t225, Weak.mkL [0, 1] (by decide) ⟨⟨_, Z, Z⟩, ⟨_, Z, Z⟩, trivial⟩ ⟨tm Z, (AEv.le (tm Z) vr), tm Z, tm Z, tm Z, trivial⟩⟩
    ·replace h := ite_fb hb226 h
     refine aw_skip ?_
     obtain rfl := some_of h
     exact ⟨n209, Weak.mkL [0, 1] (by decide) ⟨⟨_, Z, Z⟩, ⟨_, Z, Z⟩, trivial⟩ ⟨tm Z, tm Z, tm Z, tm Z, tm Z, trivial⟩⟩
   ·intro n219
    have h := h220
    refine aw_region (xa (.i (IntKind.wrap .i64 (s208.t12 + 1))) Z (pu_int (v := .i (IntKind.wrap .i64 (s208.t12 + 1))) Z Z (tm Z) (AEv.int _ _) Z) (xm Z Z Z (xe ?_)))
    obtain rfl := some_of h
    exact ⟨_, n219, Z, Weak.mkL [0, 1] (by decide) ⟨⟨_, Z, Z⟩, ⟨_, Z, Z⟩, trivial⟩ ⟨tm Z, tm Z, tm Z, tm Z, (AEv.le (tm Z) vr), trivial⟩⟩
  ·replace h := ite_f (dec_f hb227) h
   refine aw_exit ?_
   obtain rfl := some_of h
   have h := congrArg some (hx210 _ rfl)
   obtain rfl := some_of h
   exact ⟨n209, Weak.mkL [1, 0] (by decide) ⟨⟨_, Z, Z⟩, ⟨_, Z, Z⟩, trivial⟩ ⟨tm Z, trivial⟩⟩
 ·intro n171
  have h := h172
  refine xr (xm Z Z Z (xm Z Z Z (xe (aw_ret ?_))))
  obtain rfl := some_of h
  exact ⟨[.sl (.own n171) 2 (s170.map api.Field.av)], _, [(rg, .abs (regAbs mem)), (n171, .spare)], ⟨(tm Z), trivial⟩, vr, Weak.mkL [1, 0] (by decide) ⟨⟨_, Z, Z⟩, ⟨_, Z, Z⟩, trivial⟩ trivial, ⟨n171, Z, Z⟩⟩

theorem field.All.ok {t_ : RP} {mem : Reg} {r : (List api.Field) × Reg} (h : field.All t_ mem = some r) (rg : Nat) : Go.Lift.Spec prog 9 [.rp rg t_] [(rg, .abs (regAbs mem))] (fun v H => ∃ n0, v = .sl (.own n0) 2 (r.1.map api.Field.av) ∧ H = [(rg, .abs (regAbs r.2)), (n0, .spare)]) := by
 unfold field.All at h
 refine Go.Lift.Spec.of_body (rs := [.tmp 2]) func9 Z Z (nb Z) Z (xr (xa (.sl .full 2 (([] : List api.Field).map api.Field.av)) Z (pu_assign Z (AEv.nil 2 (by decide))) (xe (xr (xm Z Z Z ?_)))))
 obtain ⟨r6, r6e, h⟩ := bind_some h
 refine xc Z (op_call (vs := [.rp rg t_]) (H := [(rg, .abs (regAbs mem))]) Z call23 ⟨(tm Z), trivial⟩ (List.Perm.refl _) (dict.Table_string.Keys.ok r6e rg) ?_)
 rintro _ _ ⟨t7, rfl, rfl⟩
 refine xm Z Z Z (xe (xr (xm Z Z Z ?_)))
 obtain ⟨r8, r8e, h⟩ := bind_some h
 refine aops_weak (weak_pick [1, 0] (by decide) Z) (xc Z (op_call (vs := [.vec t7]) (H := [(t7, .vec 1 (r6.1.map AV.str))]) Z call24 ⟨(tm Z), trivial⟩ (List.Perm.refl _) (slices.Sort_string.ok r8e t7) ?_))
 rintro _ _ ⟨rfl, rfl⟩
 refine xe (xr (xm Z Z Z (xm Z Z Z (aops_publish 9 0 (tm Z) Z ?_))))
 obtain ⟨r9, r9e, h⟩ := bind_some h
 refine xc Z (op_call (vs := [.rp rg t_, .sl .no 1 (r8.map AV.str)]) (H := [(rg, .abs (regAbs r6.2))]) Z call11 ⟨(tm Z), (tm Z), trivial⟩ (List.Perm.refl _) (field.Get.ok r9e rg) ?_)
 rintro _ _ ⟨t10, rfl, rfl⟩
 refine xm Z Z Z (xe (aw_ret ?_))
 obtain rfl := some_of h
 exact ⟨[.sl (.own t10) 2 (r9.map api.Field.av)], _, [(rg, .abs (regAbs r6.2)), (t10, .spare)], ⟨(tm Z), trivial⟩, vr, Weak.mkL [0, 1] (by decide) ⟨⟨_, Z, Z⟩, ⟨_, Z, Z⟩, trivial⟩ trivial, ⟨t10, Z, Z⟩⟩

theorem mewsref19.texts.ok {a : List (List UInt8)} {b : List (List UInt8)} {r : Bool} (h : mewsref19.texts a b = some r) : Go.Lift.Spec prog 48 [.sl .no 1 (a.map AV.str), .sl .no 1 (b.map AV.str)] [] (fun v H => v = .bool r ∧ H = []) := by
 unfold mewsref19.texts at h
 refine Go.Lift.Spec.of_body (rs := [.tmp 4]) func48 Z Z (nb Z) Z (xr (xa (.bool false) Z (pu_assign Z (AEv.bool _)) (xe (aw_seq (xr (xm Z Z Z (xa (.i (a.length : Int)) Z (pu_lenM Z underlying25 (tm Z)) ?_)))))))
 refine xm Z Z Z (xa (.i (b.length : Int)) Z (pu_lenM Z underlying25 (tm Z)) (xa (.bool (!decide ((a.length : Int) = (b.length : Int)))) Z (pu_int (v := .bool (!decide ((a.length : Int) = (b.length : Int)))) Z Z (tm Z) (tm Z) Z) (xe (aw_cond (b := (!decide ((a.length : Int) = (b.length : Int)))) (tm Z) (fun hb82 => ?_) (fun hb82 => ?_)))))
 ·replace h := ite_f (ndec_t hb82) h
  refine xr (xa (.bool false) Z (pu_assign Z (AEv.bool _)) (xe (aw_ret ?_)))
  obtain rfl := some_of h
  exact ⟨[.bool false], _, [], ⟨(tm Z), trivial⟩, vr, Weak.mkL [] (by decide) trivial trivial, ⟨Z, Z⟩⟩
 ·replace h := ite_t (ndec_f hb82) h
  refine aw_skip ?_
  obtain ⟨s81, s81e, h61⟩ := bind_some h
  refine aw_join (σ := Unit) (ν := Unit) (fun u v => []) (fun u v => []) (fun u => s81 = .inl u) ?_ ?_
  ·intro s60
   intro _
   rintro rfl
   have h := onSum_inl h61
   refine xr (xa (.bool true) Z (pu_assign Z (AEv.bool _)) (xe (aw_ret ?_)))
   obtain rfl := some_of h
   exact ⟨[.bool true], _, [], ⟨(tm Z), trivial⟩, vr, Weak.mkL [] (by decide) trivial trivial, ⟨Z, Z⟩⟩
  ·have h := s81e
   refine xr (xa (.i 0) Z (pu_assign Z (AEv.int _ _)) (xe (aw_block (aw_while (σ := mewsref19.texts.S0) (ν := Unit) (mewsref19.texts.body0 a b) (fun s73 v => [(0, .sl .no 1 (a.map AV.str)), (1, .sl .no 1 (b.map AV.str)), (5, .i s73.i)]) (fun s73 v => []) ⟨0⟩ () _ h (Weak.mkL [] (by decide) trivial ⟨tm Z, tm Z, tm Z, trivial⟩) ?_))))
   rintro s73 _ x75 h hx74
   unfold mewsref19.texts.body0 at h
   refine aw_seq (xr (xm Z Z Z (xm Z Z Z (xa (.i (a.length : Int)) Z (pu_lenM Z underlying25 (tm Z)) (xa (.bool (decide (s73.i < (a.length : Int)))) Z (pu_int (v := .bool (decide (s73.i < (a.length : Int)))) Z Z (tm Z) (tm Z) Z) (xe (aw_cond (b := decide (s73.i < (a.length : Int))) (tm Z) (fun hb80 => ?_) (fun hb80 => ?_))))))))
   ·replace h := ite_t (dec_t hb80) h
    refine aw_skip (aw_seq (aw_block (aw_seq ?_)))
    obtain ⟨c77, h⟩ := need_of h
    obtain ⟨c78, h⟩ := need_of h
    refine aw_planR (by decide +kernel) [[], [], [], [], [], [], [], [], []] [] [] [.sl .no 1 (a.map AV.str), .i s73.i, .vptr [.str (ix a s73.i)], .str (ix a s73.i), .sl .no 1 (b.map AV.str), .i s73.i, .vptr [.str (ix b s73.i)], .str (ix b s73.i), .bool (!decide ((ix a s73.i) = (ix b s73.i)))] (by decide +kernel) Z Z ?_ ?_
    ·exact ⟨ym Z Z Z, ym Z Z Z, yp Z (pu_indexAddrM Z underlying25 sizeOf9 (tm Z) (tm Z) c77 Z), stepg_plain Z (op_loadV1 Z isAgg9 (tm Z) Z ⟨Z, Z⟩), ym Z Z Z, ym Z Z Z, yp Z (pu_indexAddrM Z underlying25 sizeOf9 (tm Z) (tm Z) c78 Z), stepg_plain Z (op_loadV1 Z isAgg9 (tm Z) Z ⟨Z, Z⟩), yp Z (pu_str (v := .bool (!decide ((ix a s73.i) = (ix b s73.i)))) Z Z (tm Z) (tm Z) Z), trivial⟩
    refine aw_cond (b := (!decide ((ix a s73.i) = (ix b s73.i)))) (tm Z) (fun hb79 => ?_) (fun hb79 => ?_)
    ·replace h := ite_f (ndec_t hb79) h
     refine xr (xa (.bool false) Z (pu_assign Z (AEv.bool _)) (xe (aw_ret ?_)))
     obtain rfl := some_of h
     have h := congrArg some (hx74 _ rfl)
     obtain rfl := some_of h
     have h := onSum_inr h61
     obtain rfl := some_of h
     exact ⟨[.bool false], _, [], ⟨(tm Z), trivial⟩, vr, Weak.mkL [] (by decide) trivial trivial, ⟨Z, Z⟩⟩
    ·replace h := ite_t (ndec_f hb79) h
     refine aw_skip (aw_region (xm Z Z Z (xa (.i (IntKind.wrap .i64 (s73.i + 1))) Z (pu_int (v := .i (IntKind.wrap .i64 (s73.i + 1))) Z Z (tm Z) (AEv.int _ _) Z) (xm Z Z Z (xe ?_)))))
     obtain rfl := some_of h
     exact ⟨_, (), Z, Weak.mkL [] (by decide) trivial ⟨tm Z, tm Z, (AEv.le (tm Z) vr), trivial⟩⟩
   ·replace h := ite_f (dec_f hb80) h
    refine aw_exit ?_
    obtain rfl := some_of h
    have h := congrArg some (hx74 _ rfl)
    exact ⟨(), (), (some_of h).symm, Weak.mkL [] (by decide) trivial trivial⟩

theorem mewsref19.fields.ok {a : List api.Field} {b : List api.Field} {r : Bool} (h : mewsref19.fields a b = some r) : Go.Lift.Spec prog 49 [.sl .no 2 (a.map api.Field.av), .sl .no 2 (b.map api.Field.av)] [] (fun v H => v = .bool r ∧ H = []) := by
 unfold mewsref19.fields at h
 refine Go.Lift.Spec.of_body (rs := [.tmp 4]) func49 Z Z (nb Z) Z (xr (xa (.bool false) Z (pu_assign Z (AEv.bool _)) (xe (aw_seq (xr (xm Z Z Z (xa (.i (a.length : Int)) Z (pu_lenM Z underlying23 (tm Z)) ?_)))))))
 refine xm Z Z Z (xa (.i (b.length : Int)) Z (pu_lenM Z underlying23 (tm Z)) (xa (.bool (!decide ((a.length : Int) = (b.length : Int)))) Z (pu_int (v := .bool (!decide ((a.length : Int) = (b.length : Int)))) Z Z (tm Z) (tm Z) Z) (xe (aw_cond (b := (!decide ((a.length : Int) = (b.length : Int)))) (tm Z) (fun hb82 => ?_) (fun hb82 => ?_)))))
 ·replace h := ite_f (ndec_t hb82) h
  refine xr (xa (.bool false) Z (pu_assign Z (AEv.bool _)) (xe (aw_ret ?_)))
  obtain rfl := some_of h
  exact ⟨[.bool false], _, [], ⟨(tm Z), trivial⟩, vr, Weak.mkL [] (by decide) trivial trivial, ⟨Z, Z⟩⟩
 ·replace h := ite_t (ndec_f hb82) h
  refine aw_skip ?_
  obtain ⟨s81, s81e, h61⟩ := bind_some h
  refine aw_join (σ := Unit) (ν := Unit) (fun u v => []) (fun u v => []) (fun u => s81 = .inl u) ?_ ?_
  ·intro s60
   intro _
   rintro rfl
   have h := onSum_inl h61
   refine xr (xa (.bool true) Z (pu_assign Z (AEv.bool _)) (xe (aw_ret ?_)))
   obtain rfl := some_of h
   exact ⟨[.bool true], _, [], ⟨(tm Z), trivial⟩, vr, Weak.mkL [] (by decide) trivial trivial, ⟨Z, Z⟩⟩
  ·have h := s81e
   refine xr (xa (.i 0) Z (pu_assign Z (AEv.int _ _)) (xe (aw_block (aw_while (σ := mewsref19.fields.S0) (ν := Unit) (mewsref19.fields.body0 a b) (fun s73 v => [(0, .sl .no 2 (a.map api.Field.av)), (1, .sl .no 2 (b.map api.Field.av)), (5, .i s73.i)]) (fun s73 v => []) ⟨0⟩ () _ h (Weak.mkL [] (by decide) trivial ⟨tm Z, tm Z, tm Z, trivial⟩) ?_))))
   rintro s73 _ x75 h hx74
   unfold mewsref19.fields.body0 at h
   refine aw_seq (xr (xm Z Z Z (xm Z Z Z (xa (.i (a.length : Int)) Z (pu_lenM Z underlying23 (tm Z)) (xa (.bool (decide (s73.i < (a.length : Int)))) Z (pu_int (v := .bool (decide (s73.i < (a.length : Int)))) Z Z (tm Z) (tm Z) Z) (xe (aw_cond (b := decide (s73.i < (a.length : Int))) (tm Z) (fun hb80 => ?_) (fun hb80 => ?_))))))))
   ·replace h := ite_t (dec_t hb80) h
    refine aw_skip (aw_seq (aw_block (aw_seq ?_)))
    obtain ⟨c77, h⟩ := need_of h
    obtain ⟨c78, h⟩ := need_of h
    refine aw_planR (by decide +kernel) [[], [], [], [], [], [], [], [], []] [] [] [.sl .no 2 (a.map api.Field.av), .i s73.i, .vptr [.str (ix a s73.i).Key, .str (ix a s73.i).Val], .agg [.str (ix a s73.i).Key, .str (ix a s73.i).Val], .sl .no 2 (b.map api.Field.av), .i s73.i, .vptr [.str (ix b s73.i).Key, .str (ix b s73.i).Val], .agg [.str (ix b s73.i).Key, .str (ix b s73.i).Val], .bool (!decide ((ix a s73.i) = (ix b s73.i)))] (by decide +kernel) Z Z ?_ ?_
    ·exact ⟨ym Z Z Z, ym Z Z Z, yp Z (pu_indexAddrM Z underlying23 sizeOf34 (tm Z) (tm Z) c77 Z), stepg_plain Z (op_loadVN Z isAgg34 sizeOf34 (tm Z) (nb Z) Z ⟨Z, Z⟩), ym Z Z Z, ym Z Z Z, yp Z (pu_indexAddrM Z underlying23 sizeOf34 (tm Z) (tm Z) c78 Z), stepg_plain Z (op_loadVN Z isAgg34 sizeOf34 (tm Z) (nb Z) Z ⟨Z, Z⟩), yp Z (APure.eq (pu_structNe (b := (decide ((ix a s73.i).Key = (ix b s73.i).Key) && (decide ((ix a s73.i).Val = (ix b s73.i).Val) && true))) Z underlying34 (by kernel_rfl) (by kernel_rfl) (tm Z) (tm Z) ⟨_, _, _, _, ⟨by decide, isAgg9, Z, Z, CEq.str underlying9⟩, ⟨_, _, _, _, ⟨by decide, isAgg9, Z, Z, CEq.str underlying9⟩, Z, Z⟩, Z⟩) (congrArg (fun b => AV.bool (!b)) (api.Field.eq_iff (ix a s73.i) (ix b s73.i)).symm)), trivial⟩
    refine aw_cond (b := (!decide ((ix a s73.i) = (ix b s73.i)))) (tm Z) (fun hb79 => ?_) (fun hb79 => ?_)
    ·replace h := ite_f (ndec_t hb79) h
     refine xr (xa (.bool false) Z (pu_assign Z (AEv.bool _)) (xe (aw_ret ?_)))
     obtain rfl := some_of h
     have h := congrArg some (hx74 _ rfl)
     obtain rfl := some_of h
     have h := onSum_inr h61
     obtain rfl := some_of h
     exact ⟨[.bool false], _, [], ⟨(tm Z), trivial⟩, vr, Weak.mkL [] (by decide) trivial trivial, ⟨Z, Z⟩⟩
    ·replace h := ite_t (ndec_f hb79) h
     refine aw_skip (aw_region (xm Z Z Z (xa (.i (IntKind.wrap .i64 (s73.i + 1))) Z (pu_int (v := .i (IntKind.wrap .i64 (s73.i + 1))) Z Z (tm Z) (AEv.int _ _) Z) (xm Z Z Z (xe ?_)))))
     obtain rfl := some_of h
     exact ⟨_, (), Z, Weak.mkL [] (by decide) trivial ⟨tm Z, tm Z, (AEv.le (tm Z) vr), trivial⟩⟩
   ·replace h := ite_f (dec_f hb80) h
    refine aw_exit ?_
    obtain rfl := some_of h
    have h := congrArg some (hx74 _ rfl)
    exact ⟨(), (), (some_of h).symm, Weak.mkL [] (by decide) trivial trivial⟩

end Go.Pu
