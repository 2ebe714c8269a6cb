/- Printed by lift.py: the functions come to them. -/
import Derived.Test.YtfapgollkabopaaLiftW
import Derived.Test.YtfapgollkabopaaCPK3
set_option maxRecDepth 100000
set_option maxHeartbeats 0
namespace Go.Pu
open Go.Lift Go.Proofs.Try Go.RowKit Go.Proofs

theorem mewsref43.Pending.ok {c_ : api.Conn} {r : Int} (h : mewsref43.Pending c_ = some r) : Go.Lift.Spec prog 40 [.agg (api.Conn.ct .no .no c_)] [] (fun v H => v = .i r ∧ H = []) := by
 unfold mewsref43.Pending at h
 refine Go.Lift.Spec.of_body (rs := [.tmp 2]) func40 Z Z (nb Z) Z (xr (xc Z (op_box (cs := (api.Conn.ct .no .no c_)) (v := .agg (api.Conn.ct .no .no c_)) Z (tm Z) Z Z ?_)))
 intro p29
 refine xa (.i 0) Z (pu_assign Z (AEv.int _ _)) (xe (xr (xa (.ptr p29 11) Z (fa Z underlying56 Z sizeOf9 Z Z Z) (xc Z (op_load1 (i := 0) Z isAgg9 (tm Z) Z Z (xa (.i (c_.Out.length : Int)) Z (pu_strLen Z underlying9 (tm Z)) (xm Z Z Z (xe ?_))))))))
 obtain ⟨s42, s42e, h43⟩ := bind_some h
 refine aw_meet (ν := Unit) (fun v => [(3, .i s42)]) (fun v => []) ?_ ?_
 ·have h := s42e
  refine xr (xa (.i 0) Z (pu_assign Z (AEv.int _ _)) (xe (aw_block (aw_while (σ := mewsref43.Pending.S0) (ν := Unit) (mewsref43.Pending.body0 c_) (fun s51 v => [(1, .ptr p29 0), (3, .i s51.n), (4, .i s51.i)]) (fun s51 v => [(p29, .cells (api.Conn.ct .no .no c_))]) ⟨(c_.Out.length : Int), 0⟩ () _ h (Weak.mkL [0] (by decide) ⟨⟨_, Z, cr, Z⟩, trivial⟩ ⟨tm Z, tm Z, tm Z, trivial⟩) ?_))))
  rintro s51 _ x53 h hx52
  unfold mewsref43.Pending.body0 at h
  refine aw_seq (xr (xm Z Z Z (xa (.ptr p29 10) Z (fa Z underlying56 Z sizeOf54 Z Z Z) (xc Z (op_load1 (i := 0) Z isAgg54 (tm Z) Z Z (xa (.i (c_.Held.length : Int)) Z (pu_lenM Z underlying54 (tm Z)) (xa (.bool (decide (s51.i < (c_.Held.length : Int)))) Z (pu_int (v := .bool (decide (s51.i < (c_.Held.length : Int)))) Z Z (tm Z) (tm Z) Z) (xe (aw_cond (b := decide (s51.i < (c_.Held.length : Int))) (tm Z) (fun hb56 => ?_) (fun hb56 => ?_))))))))))
  ·replace h := ite_t (dec_t hb56) h
   refine aw_skip (aw_seq (aw_block (aw_region (xm Z Z Z (xa (.ptr p29 10) Z (fa Z underlying56 Z sizeOf54 Z Z Z) (xc Z (op_load1 (i := 0) Z isAgg54 (tm Z) Z Z (xm Z Z Z ?_))))))))
   obtain ⟨c55, h⟩ := need_of h
   refine xa (.vptr [.i (ix c_.Held s51.i).Need, .str (ix c_.Held s51.i).S]) Z (pu_indexAddrM Z underlying54 sizeOf61 (tm Z) (tm Z) c55 Z) (xa (.vptr [.str (ix c_.Held s51.i).S]) Z (fa Z underlying61 Z sizeOf9 Z Z Z) (xc Z (op_loadV1 Z isAgg9 (tm Z) Z (xa (.i ((ix c_.Held s51.i).S.length : Int)) Z (pu_strLen Z underlying9 (tm Z)) (xa (.i (IntKind.wrap .i64 (s51.n + ((ix c_.Held s51.i).S.length : Int)))) Z (pu_int (v := .i (IntKind.wrap .i64 (s51.n + ((ix c_.Held s51.i).S.length : Int)))) Z Z (tm Z) (tm Z) Z) (xm Z Z Z (xe (aw_region (xm Z Z Z (xa (.i (IntKind.wrap .i64 (s51.i + 1))) Z (pu_int (v := .i (IntKind.wrap .i64 (s51.i + 1))) Z Z (tm Z) (AEv.int _ _) Z) ?_))))))))))
   refine xm Z Z Z (xe ?_)
   obtain rfl := some_of h
   exact ⟨_, (), Z, Weak.mkL [0] (by decide) ⟨⟨_, Z, cr, Z⟩, trivial⟩ ⟨tm Z, (AEv.le (tm Z) vr), (AEv.le (tm Z) vr), trivial⟩⟩
  ·replace h := ite_f (dec_f hb56) h
   refine aw_exit ?_
   obtain rfl := some_of h
   have h := congrArg some (hx52 _ rfl)
   obtain rfl := some_of h
   exact ⟨(), Weak.mkL [] (by decide) trivial ⟨tm Z, trivial⟩⟩
 ·intro _
  have h := h43
  refine xr (xm Z Z Z (xm Z Z Z (xe (aw_ret ?_))))
  obtain rfl := some_of h
  exact ⟨[.i s42], _, [], ⟨(tm Z), trivial⟩, vr, Weak.mkL [] (by decide) trivial trivial, ⟨Z, Z⟩⟩

theorem mewsref43.Say.ok {c_ : api.Conn} {s_ : List UInt8} {need_ : Int} {durable : Int} {t_ : api.Tenant} {r : api.Conn} (h : mewsref43.Say c_ s_ need_ durable t_ = some r) : Go.Lift.Spec prog 35 [.agg (api.Conn.ct .no .no c_), .str s_, .i need_, .i durable, .agg (api.Tenant.ct t_)] [] (fun v H => v = .agg [.i r.Born, .i r.Tenant, .str r.In.Rest, .sl .no 1 (r.In.Args.map AV.str), .i r.In.Left, .i r.In.Size, .bool r.In.Body, .i r.In.Need, .i r.In.Dead, .i r.Asked, .sl .no 2 (r.Held.map api.Held.av), .str r.Out, .i r.Taken, .bool r.Shut, .bool r.Closed] ∧ H = []) := by
 unfold mewsref43.Say at h
 refine Go.Lift.Spec.of_body (rs := [.cell 10 56]) func35 Z Z (nb Z) Z (xr (xc Z (op_box (cs := (api.Conn.ct .no .no c_)) (v := .agg (api.Conn.ct .no .no c_)) Z (tm Z) Z Z ?_)))
 intro p17
 refine xc Z (op_box (cs := (api.Tenant.ct t_)) (v := .agg (api.Tenant.ct t_)) Z (tm Z) Z Z ?_)
 intro p18
 refine xc Z (op_alloc (cs := [.i 0, .i 0, .str ([] : List UInt8), .sl .full 1 (([] : List (List UInt8)).map AV.str), .i 0, .i 0, .bool false, .i 0, .i 0, .i 0, .sl .full 2 (([] : List api.Held).map api.Held.av), .str ([] : List UInt8), .i 0, .bool false, .bool false]) (v := .agg [.i 0, .i 0, .str ([] : List UInt8), .sl .full 1 (([] : List (List UInt8)).map AV.str), .i 0, .i 0, .bool false, .i 0, .i 0, .i 0, .sl .full 2 (([] : List api.Held).map api.Held.av), .str ([] : List UInt8), .i 0, .bool false, .bool false]) Z zeroValue56 Z Z Z ?_)
 intro p19
 refine xe (aw_seq (xr (xa (.ptr p17 14) Z (fa Z underlying56 Z sizeOf4 Z Z Z) (xc Z (op_load1 (i := 2) Z isAgg4 (tm Z) Z Z (xe (aw_cond (b := c_.Closed) (tm Z) (fun hb32 => ?_) (fun hb32 => ?_))))))))
 ·replace h := ite_t hb32 h
  refine xr (xc Z (op_loadN (i := 2) Z isAgg56 sizeOf56 (tm Z) Z (nb Z) Z (ac0 Z Z (op_store (i := 0) (cs' := (api.Conn.ct .no .no c_)) Z sizeOf56 (tm Z) (v := .agg (api.Conn.ct .no .no c_)) (tm Z) Z Z Z (nb Z) Z (xe (aw_ret ?_))))))
  obtain rfl := some_of h
  exact ⟨[.agg (api.Conn.ct .no .no c_)], _, [], ⟨(CellOk.agg 0 (tm Z) Z isAgg56 sizeOf56 (nb Z) Z), trivial⟩, vr, Weak.mkL [] (by decide) trivial trivial, ⟨Z, Z⟩⟩
 ·replace h := ite_fb hb32 h
  refine aw_skip (xr (xa (.ptr p17 10) Z (fa Z underlying56 Z sizeOf54 Z Z Z) (xc Z (op_load1 (i := 2) Z isAgg54 (tm Z) Z Z ?_))))
  obtain ⟨c20, h⟩ := need_of h
  refine xc Z (op_appendFM Z underlying54 underlying54 (.inl Z) typeInfo61 Z Z Z (by decide) (AEv.nil 2 (by decide)) (given_sl (tm Z)) c20 ?_)
  intro t21
  refine xm Z Z Z (xm Z Z Z (xa (.agg [.i need_, .str s_]) Z (pu_build (zs := [.i 0, .str ([] : List UInt8)]) (szs := [1, 1]) (aparts := [(0, .i need_), (1, .str s_)]) (cs := [.i need_, .str s_]) Z underlying61 zeroValue61 Z ⟨sizeOf3, sizeOf9, trivial⟩ ⟨Z, (tm Z), ⟨Z, (tm Z), trivial⟩⟩ Z) (xc Z (op_buildSlice (xs := ([({ Need := need_, S := s_ } : api.Held)] : List api.Held).map api.Held.av) (aparts := [(0, .agg [.i need_, .str s_])]) Z underlying54 sizeOf61 zeroValue61 (by decide) (by decide) ⟨Z, (tm Z), trivial⟩ Z Z Z ?_))))
  obtain ⟨c22, h⟩ := need_of h
  refine xc Z (op_appendOM (q := 0) Z underlying54 underlying54 (.inl Z) typeInfo61 Z Z Z (by decide) (tm Z) Z (given_sl (tm Z)) c22 ?_)
  intro t23
  refine xa (.ptr p17 10) Z (fa Z underlying56 Z sizeOf54 Z Z Z) (ac0 Z Z (op_store (i := 3) (cs' := (api.Conn.ct .no (.own t23) { c_ with Held := (([] : List api.Held) ++ c_.Held) ++ [({ Need := need_, S := s_ } : api.Held)] })) Z sizeOf54 (tm Z) (v := .sl (.own t23) 2 (((([] : List api.Held) ++ c_.Held) ++ [({ Need := need_, S := s_ } : api.Held)]).map api.Held.av)) (tm Z) Z Z Z (nb Z) Z (xe (xr (xc Z (op_loadN (i := 3) Z isAgg56 sizeOf56 (tm Z) Z (nb Z) Z (xm Z Z Z ?_)))))))
  obtain ⟨r24, r24e, h⟩ := bind_some h
  refine xc Z (op_call (vs := [.agg (api.Conn.ct .no .no { c_ with Held := (([] : List api.Held) ++ c_.Held) ++ [({ Need := need_, S := s_ } : api.Held)] }), .i durable]) (H := []) Z call36 ⟨(AEv.le (tm Z) (AV.Le.agg ⟨vr, vr, vr, vr, vr, vr, vr, vr, vr, vr, (AV.Le.forget _ _ _), vr, vr, vr, vr, trivial⟩)), (tm Z), trivial⟩ (List.Perm.refl _) (mewsref43.Free.ok r24e) ?_)
  rintro _ _ ⟨rfl, rfl⟩
  refine ac0 Z Z (op_store (i := 3) (cs' := (api.Conn.ct .no .no r24)) Z sizeOf56 (tm Z) (v := .agg (api.Conn.ct .no .no r24)) (tm Z) Z Z Z (nb Z) Z (xe ?_))
  obtain ⟨s27, s27e, h28⟩ := bind_some h
  refine aw_meet (ν := Unit) (fun v => [(5, .ptr p17 0), (10, .ptr p19 0)]) (fun v => [(p17, .cells (api.Conn.ct .no .no { r24 with Held := s27.1, Out := s27.2.1, Closed := s27.2.2 })), (p19, .cells [.i 0, .i 0, .str ([] : List UInt8), .sl .full 1 (([] : List (List UInt8)).map AV.str), .i 0, .i 0, .bool false, .i 0, .i 0, .i 0, .sl .full 2 (([] : List api.Held).map api.Held.av), .str ([] : List UInt8), .i 0, .bool false, .bool false])]) ?_ ?_
  ·have h := s27e
   refine aw_seq ?_
   obtain ⟨r30, r30e, h⟩ := bind_some h
   refine aw_planR (by decide +kernel) [[(3, 0, false)], [], [], [(2, 0, false)], []] [[], [], [], []] [[[(t23, .spare)]], [[(p19, .cells [.i 0, .i 0, .str ([] : List UInt8), .sl .full 1 (([] : List (List UInt8)).map AV.str), .i 0, .i 0, .bool false, .i 0, .i 0, .i 0, .sl .full 2 (([] : List api.Held).map api.Held.av), .str ([] : List UInt8), .i 0, .bool false, .bool false])]], [[(p18, .cells (api.Tenant.ct t_))]], [[(p17, .cells (api.Conn.ct .no .no r24))]]] [.agg (api.Conn.ct .no .no r24), .i r30, .ptr p18 6, .i t_.Out, .bool (decide (t_.Out < r30))] (by decide +kernel) Z Z ?_ ?_
   ·exact ⟨stepg_plain Z (op_loadN (i := 0) Z isAgg56 sizeOf56 (tm Z) Z (nb Z) Z ⟨Z, Z⟩), stepg_plain Z (op_call (vs := [.agg (api.Conn.ct .no .no r24)]) (H := []) Z call40 ⟨(tm Z), trivial⟩ (R := []) (List.Perm.refl _) (mewsref43.Pending.ok r30e) (by rintro _ _ ⟨rfl, rfl⟩; exact ⟨Z, Z⟩)), yp Z (fa Z underlying53 Z sizeOf3 Z Z Z), stepg_plain Z (op_load1 (i := 0) Z isAgg3 (tm Z) Z Z ⟨Z, Z⟩), yp Z (pu_int (v := .bool (decide (t_.Out < r30))) Z Z (tm Z) (tm Z) Z), trivial⟩
   refine aw_cond (b := decide (t_.Out < r30)) (tm Z) (fun hb31 => ?_) (fun hb31 => ?_)
   ·replace h := ite_t (dec_t hb31) h
    refine xr (xa (.ptr p17 14) Z (fa Z underlying56 Z sizeOf4 Z Z Z) (ac0 Z Z (op_store (i := 3) (cs' := (api.Conn.ct .no .no { r24 with Closed := true })) Z sizeOf4 (tm Z) (v := .bool true) (AEv.bool _) Z Z Z (nb Z) Z (xe (xr (xa (.ptr p17 10) Z (fa Z underlying56 Z sizeOf54 Z Z Z) (ac0 Z Z (op_store (i := 3) (cs' := (api.Conn.ct .no .full { r24 with Held := ([] : List api.Held), Closed := true })) Z sizeOf54 (tm Z) (v := .sl .full 2 (([] : List api.Held).map api.Held.av)) (AEv.nil 2 (by decide)) Z Z Z (nb Z) Z (xe ?_)))))))))
    refine aw_region (xa (.ptr p17 11) Z (fa Z underlying56 Z sizeOf9 Z Z Z) (ac0 Z Z (op_store (i := 3) (cs' := (api.Conn.ct .no .full { r24 with Held := ([] : List api.Held), Out := ([] : List UInt8), Closed := true })) Z sizeOf9 (tm Z) (v := .str ([] : List UInt8)) (AEv.const Z) Z Z Z (nb Z) Z (xe ?_))))
    obtain rfl := some_of h
    exact ⟨(), Weak.mkL [3, 1] (by decide) ⟨⟨_, Z, ⟨vr, vr, vr, vr, vr, vr, vr, vr, vr, vr, (AV.Le.forget _ _ _), vr, vr, vr, vr, trivial⟩, Z⟩, ⟨_, Z, cr, Z⟩, trivial⟩ ⟨tm Z, tm Z, trivial⟩⟩
   ·replace h := ite_f (dec_f hb31) h
    refine aw_skip ?_
    obtain rfl := some_of h
    exact ⟨(), Weak.mkL [3, 1] (by decide) ⟨⟨_, Z, cr, Z⟩, ⟨_, Z, cr, Z⟩, trivial⟩ ⟨tm Z, tm Z, trivial⟩⟩
  ·intro _
   have h := h28
   refine xr (xc Z (op_loadN (i := 0) Z isAgg56 sizeOf56 (tm Z) Z (nb Z) Z (ac0 Z Z (op_store (i := 1) (cs' := (api.Conn.ct .no .no { r24 with Held := s27.1, Out := s27.2.1, Closed := s27.2.2 })) Z sizeOf56 (tm Z) (v := .agg (api.Conn.ct .no .no { r24 with Held := s27.1, Out := s27.2.1, Closed := s27.2.2 })) (tm Z) Z Z Z (nb Z) Z (xe (aw_ret ?_))))))
   obtain rfl := some_of h
   exact ⟨[.agg (api.Conn.ct .no .no { r24 with Held := s27.1, Out := s27.2.1, Closed := s27.2.2 })], _, [], ⟨(CellOk.agg 1 (tm Z) Z isAgg56 sizeOf56 (nb Z) Z), trivial⟩, vr, Weak.mkL [] (by decide) trivial trivial, ⟨Z, Z⟩⟩

theorem mewsref43.Take.ok {c_ : api.Conn} {n_ : Int} {r : api.Conn × (List UInt8)} (h : mewsref43.Take c_ n_ = some r) : Go.Lift.Spec prog 37 [.agg (api.Conn.ct .no .no c_), .i n_] [] (fun v H => v = .tup [.agg [.i r.1.Born, .i r.1.Tenant, .str r.1.In.Rest, .sl .no 1 (r.1.In.Args.map AV.str), .i r.1.In.Left, .i r.1.In.Size, .bool r.1.In.Body, .i r.1.In.Need, .i r.1.In.Dead, .i r.1.Asked, .sl .no 2 (r.1.Held.map api.Held.av), .str r.1.Out, .i r.1.Taken, .bool r.1.Shut, .bool r.1.Closed], .str r.2] ∧ H = []) := by
 unfold mewsref43.Take at h
 refine Go.Lift.Spec.of_body (rs := [.cell 4 56, .tmp 5]) func37 Z Z (nb Z) Z (xr (xc Z (op_box (cs := (api.Conn.ct .no .no c_)) (v := .agg (api.Conn.ct .no .no c_)) Z (tm Z) Z Z ?_)))
 intro p72
 refine xc Z (op_alloc (cs := [.i 0, .i 0, .str ([] : List UInt8), .sl .full 1 (([] : List (List UInt8)).map AV.str), .i 0, .i 0, .bool false, .i 0, .i 0, .i 0, .sl .full 2 (([] : List api.Held).map api.Held.av), .str ([] : List UInt8), .i 0, .bool false, .bool false]) (v := .agg [.i 0, .i 0, .str ([] : List UInt8), .sl .full 1 (([] : List (List UInt8)).map AV.str), .i 0, .i 0, .bool false, .i 0, .i 0, .i 0, .sl .full 2 (([] : List api.Held).map api.Held.av), .str ([] : List UInt8), .i 0, .bool false, .bool false]) Z zeroValue56 Z Z Z ?_)
 intro p73
 refine xa (.str ([] : List UInt8)) Z (pu_assign Z (AEv.const Z)) (xe (xr (xa (.str ([] : List UInt8)) Z (pu_assign Z (AEv.const Z)) (xe ?_))))
 obtain ⟨s107, s107e, h108⟩ := bind_some h
 refine aw_meet (ν := Unit) (fun v => [(2, .ptr p72 0), (4, .ptr p73 0), (6, .str s107.1)]) (fun v => [(p72, .cells (api.Conn.ct .no .no { c_ with Out := s107.2.1, Taken := s107.2.2 })), (p73, .cells [.i 0, .i 0, .str ([] : List UInt8), .sl .full 1 (([] : List (List UInt8)).map AV.str), .i 0, .i 0, .bool false, .i 0, .i 0, .i 0, .sl .full 2 (([] : List api.Held).map api.Held.av), .str ([] : List UInt8), .i 0, .bool false, .bool false])]) ?_ ?_
 ·have h := s107e
  refine aw_block (aw_while (σ := mewsref43.Take.S0) (ν := Unit) (mewsref43.Take.body0 n_) (fun s130 v => [(1, .i n_), (2, .ptr p72 0), (4, .ptr p73 0), (6, .str s130.s)]) (fun s130 v => [(p72, .cells (api.Conn.ct .no .no { c_ with Out := s130.c, Taken := s130.c2 })), (p73, .cells [.i 0, .i 0, .str ([] : List UInt8), .sl .full 1 (([] : List (List UInt8)).map AV.str), .i 0, .i 0, .bool false, .i 0, .i 0, .i 0, .sl .full 2 (([] : List api.Held).map api.Held.av), .str ([] : List UInt8), .i 0, .bool false, .bool false])]) ⟨([] : List UInt8), c_.Out, c_.Taken⟩ () _ h (Weak.mkL [1, 0] (by decide) ⟨⟨_, Z, cr, Z⟩, ⟨_, Z, cr, Z⟩, trivial⟩ ⟨tm Z, tm Z, tm Z, tm Z, trivial⟩) ?_)
  rintro s130 _ x132 h hx131
  unfold mewsref43.Take.body0 at h
  refine aw_seq ?_
  obtain ⟨s135, s135e, h136⟩ := letO_of h
  refine aw_meet (ν := Unit) (fun v => [(1, .i n_), (2, .ptr p72 0), (4, .ptr p73 0), (6, .str s130.s), (16, .bool s135)]) (fun v => [(p72, .cells (api.Conn.ct .no .no { c_ with Out := s130.c, Taken := s130.c2 })), (p73, .cells [.i 0, .i 0, .str ([] : List UInt8), .sl .full 1 (([] : List (List UInt8)).map AV.str), .i 0, .i 0, .bool false, .i 0, .i 0, .i 0, .sl .full 2 (([] : List api.Held).map api.Held.av), .str ([] : List UInt8), .i 0, .bool false, .bool false])]) ?_ ?_
  ·have h := s135e.symm
   refine aw_region (xa (.ptr p72 11) Z (fa Z underlying56 Z sizeOf9 Z Z Z) (xc Z (op_load1 (i := 0) Z isAgg9 (tm Z) Z Z (xa (.i (s130.c.length : Int)) Z (pu_strLen Z underlying9 (tm Z)) (xa (.bool (decide (0 < (s130.c.length : Int)))) Z (pu_int (v := .bool (decide (0 < (s130.c.length : Int)))) Z Z (tm Z) (AEv.int _ _) Z) (xm Z Z Z ?_))))))
   rcases Bool.eq_false_or_eq_true (decide (0 < (s130.c.length : Int))) with hb138 | hb138
   ·replace h := ite_t (dec_t hb138) h
    refine aops_known 11 Z hb138 (xq Z Z Z Z (xp (.i (s130.s.length : Int)) Z Z (pu_strLen Z underlying9 (tm Z)) (xq Z Z Z Z (xp (.bool (decide ((s130.s.length : Int) < n_))) Z Z (pu_int (v := .bool (decide ((s130.s.length : Int) < n_))) Z Z (tm Z) (tm Z) Z) (xa (.bool (decide ((s130.s.length : Int) < n_))) Z (pu_pick (b := true) Z (tm Z) (fun _ => (tm Z)) (fun h => nomatch h)) (xe ?_))))))
    subst h
    exact ⟨(), Weak.mkL [0, 1] (by decide) ⟨⟨_, Z, cr, Z⟩, ⟨_, Z, cr, Z⟩, trivial⟩ ⟨tm Z, tm Z, tm Z, tm Z, (AEv.le (tm Z) vr), trivial⟩⟩
   ·replace h := ite_f (dec_f hb138) h
    refine aops_known 11 Z hb138 (xn Z Z Z (xn Z Z Z (xn Z Z Z (xn Z Z Z (xa (.bool false) Z (pu_pick (b := false) Z (tm Z) (fun h => nomatch h) (fun _ => (AEv.bool _))) (xe ?_))))))
    subst h
    exact ⟨(), Weak.mkL [0, 1] (by decide) ⟨⟨_, Z, cr, Z⟩, ⟨_, Z, cr, Z⟩, trivial⟩ ⟨tm Z, tm Z, tm Z, tm Z, tm Z, trivial⟩⟩
  ·intro _
   have h := h136
   refine aw_cond (b := s135) (tm Z) (fun hb142 => ?_) (fun hb142 => ?_)
   ·replace h := ite_t hb142 h
    refine aw_skip (aw_block (xr (xm Z Z Z (xa (.ptr p72 11) Z (fa Z underlying56 Z sizeOf9 Z Z Z) (xc Z (op_load1 (i := 0) Z isAgg9 (tm Z) Z Z ?_))))))
    obtain ⟨c139, h⟩ := need_of h
    refine xa (.str (sub s130.c 0 1)) Z (pu_strSliceM Z underlying9 (tm Z) Z ⟨_, (AEv.int _ _)⟩ c139) ?_
    obtain ⟨c140, h⟩ := need_of h
    refine xa (.str (s130.s ++ (sub s130.c 0 1))) Z (pu_strAdd Z (tm Z) (tm Z) c140) (xm Z Z Z (xe (xr (xa (.ptr p72 11) Z (fa Z underlying56 Z sizeOf9 Z Z Z) (xc Z (op_load1 (i := 0) Z isAgg9 (tm Z) Z Z ?_))))))
    obtain ⟨c141, h⟩ := need_of h
    refine xa (.str (sub s130.c 1 (s130.c.length : Int))) Z (pu_strSliceM Z underlying9 (tm Z) ⟨_, (AEv.int _ _)⟩ Z c141) (xa (.ptr p72 11) Z (fa Z underlying56 Z sizeOf9 Z Z Z) (ac0 Z Z (op_store (i := 0) (cs' := (api.Conn.ct .no .no { c_ with Out := sub s130.c 1 (s130.c.length : Int), Taken := s130.c2 })) Z sizeOf9 (tm Z) (v := .str (sub s130.c 1 (s130.c.length : Int))) (tm Z) Z Z Z (nb Z) Z (xe (aw_region (xa (.ptr p72 12) Z (fa Z underlying56 Z sizeOf3 Z Z Z) (xc Z (op_load1 (i := 0) Z isAgg3 (tm Z) Z Z (xa (.i (IntKind.wrap .i64 (s130.c2 + 1))) Z (pu_int (v := .i (IntKind.wrap .i64 (s130.c2 + 1))) Z Z (tm Z) (AEv.int _ _) Z) (xa (.ptr p72 12) Z (fa Z underlying56 Z sizeOf3 Z Z Z) (ac0 Z Z (op_store (i := 0) (cs' := (api.Conn.ct .no .no { c_ with Out := sub s130.c 1 (s130.c.length : Int), Taken := IntKind.wrap .i64 (s130.c2 + 1) })) Z sizeOf3 (tm Z) (v := .i (IntKind.wrap .i64 (s130.c2 + 1))) (tm Z) Z Z Z (nb Z) Z ?_))))))))))))
    refine xe ?_
    obtain rfl := some_of h
    exact ⟨_, (), Z, Weak.mkL [0, 1] (by decide) ⟨⟨_, Z, ⟨vr, vr, vr, vr, vr, vr, vr, vr, vr, vr, vr, vr, vr, vr, vr, trivial⟩, Z⟩, ⟨_, Z, cr, Z⟩, trivial⟩ ⟨tm Z, tm Z, tm Z, (AEv.le (tm Z) vr), trivial⟩⟩
   ·replace h := ite_fb hb142 h
    refine aw_exit ?_
    obtain rfl := some_of h
    have h := congrArg some (hx131 _ rfl)
    obtain rfl := some_of h
    exact ⟨(), Weak.mkL [0, 1] (by decide) ⟨⟨_, Z, cr, Z⟩, ⟨_, Z, cr, Z⟩, trivial⟩ ⟨tm Z, tm Z, tm Z, trivial⟩⟩
 ·intro _
  have h := h108
  refine xr (xc Z (op_loadN (i := 0) Z isAgg56 sizeOf56 (tm Z) Z (nb Z) Z (xm Z Z Z (ac0 Z Z (op_store (i := 1) (cs' := (api.Conn.ct .no .no { c_ with Out := s107.2.1, Taken := s107.2.2 })) Z sizeOf56 (tm Z) (v := .agg (api.Conn.ct .no .no { c_ with Out := s107.2.1, Taken := s107.2.2 })) (tm Z) Z Z Z (nb Z) Z (xm Z Z Z (xe (aw_ret ?_))))))))
  obtain rfl := some_of h
  exact ⟨[.agg (api.Conn.ct .no .no { c_ with Out := s107.2.1, Taken := s107.2.2 }), .str s107.1], .tup [.agg (api.Conn.ct .no .no { c_ with Out := s107.2.1, Taken := s107.2.2 }), .str s107.1], [], ⟨(CellOk.agg 1 (tm Z) Z isAgg56 sizeOf56 (nb Z) Z), (tm Z), trivial⟩, (AV.Le.tup cr), Weak.mkL [] (by decide) trivial trivial, ⟨Z, Z⟩⟩

theorem conn.Shut.ok {c_ : api.Conn} {r : api.Conn} (h : conn.Shut c_ = some r) : Go.Lift.Spec prog 38 [.agg (api.Conn.ct .no .no c_)] [] (fun v H => ∃ n0, v = .agg [.i r.Born, .i r.Tenant, .str r.In.Rest, .sl .no 1 (r.In.Args.map AV.str), .i r.In.Left, .i r.In.Size, .bool r.In.Body, .i r.In.Need, .i r.In.Dead, .i r.Asked, .sl (.own n0) 2 (r.Held.map api.Held.av), .str r.Out, .i r.Taken, .bool r.Shut, .bool r.Closed] ∧ H = [(n0, .spare)]) := by
 unfold conn.Shut at h
 refine Go.Lift.Spec.of_body (rs := [.cell 2 56]) func38 Z Z (nb Z) Z (xr (xc Z (op_box (cs := (api.Conn.ct .no .no c_)) (v := .agg (api.Conn.ct .no .no c_)) Z (tm Z) Z Z ?_)))
 intro p5
 refine xc Z (op_alloc (cs := [.i 0, .i 0, .str ([] : List UInt8), .sl .full 1 (([] : List (List UInt8)).map AV.str), .i 0, .i 0, .bool false, .i 0, .i 0, .i 0, .sl .full 2 (([] : List api.Held).map api.Held.av), .str ([] : List UInt8), .i 0, .bool false, .bool false]) (v := .agg [.i 0, .i 0, .str ([] : List UInt8), .sl .full 1 (([] : List (List UInt8)).map AV.str), .i 0, .i 0, .bool false, .i 0, .i 0, .i 0, .sl .full 2 (([] : List api.Held).map api.Held.av), .str ([] : List UInt8), .i 0, .bool false, .bool false]) Z zeroValue56 Z Z Z ?_)
 intro p6
 refine xe (xr (xa (.ptr p5 13) Z (fa Z underlying56 Z sizeOf4 Z Z Z) (ac0 Z Z (op_store (i := 1) (cs' := (api.Conn.ct .no .no { c_ with Shut := true })) Z sizeOf4 (tm Z) (v := .bool true) (AEv.bool _) Z Z Z (nb Z) Z (xe (xr (xc Z (op_loadN (i := 1) Z isAgg56 sizeOf56 (tm Z) Z (nb Z) Z ?_))))))))
 obtain ⟨r7, r7e, h⟩ := bind_some h
 refine xc Z (op_call (vs := [.agg (api.Conn.ct .no .no { c_ with Shut := true }), .i (-1)]) (H := []) Z call28 ⟨(tm Z), (AEv.int _ _), trivial⟩ (List.Perm.refl _) (conn.Free.ok r7e) ?_)
 rintro _ _ ⟨t8, rfl, rfl⟩
 refine ac0 Z Z (op_store (i := 1) (cs' := (api.Conn.ct .no (.own t8) r7)) Z sizeOf56 (tm Z) (v := .agg (api.Conn.ct .no (.own t8) r7)) (tm Z) Z Z Z (nb Z) Z (xe (aw_ret ?_)))
 obtain rfl := some_of h
 exact ⟨[.agg (api.Conn.ct .no (.own t8) r7)], _, [(t8, .spare)], ⟨(CellOk.agg 1 (tm Z) Z isAgg56 sizeOf56 (nb Z) Z), trivial⟩, vr, Weak.mkL [0] (by decide) ⟨⟨_, Z, Z⟩, trivial⟩ trivial, ⟨t8, Z, Z⟩⟩

theorem mewsref43.Same.ok {a : api.Conn} {b : api.Conn} {r : Bool} (h : mewsref43.Same a b = some r) : Go.Lift.Spec prog 39 [.agg (api.Conn.ct .no .no a), .agg (api.Conn.ct .no .no b)] [] (fun v H => v = .bool r ∧ H = []) := by
 unfold mewsref43.Same at h
 refine Go.Lift.Spec.of_body (rs := [.tmp 4]) func39 Z Z (nb Z) Z (xr (xc Z (op_box (cs := (api.Conn.ct .no .no a)) (v := .agg (api.Conn.ct .no .no a)) Z (tm Z) Z Z ?_)))
 intro p63
 refine xc Z (op_box (cs := (api.Conn.ct .no .no b)) (v := .agg (api.Conn.ct .no .no b)) Z (tm Z) Z Z ?_)
 intro p64
 refine xa (.bool false) Z (pu_assign Z (AEv.bool _)) (xe (aw_seq (xr (xa (.ptr p63 10) Z (fa Z underlying56 Z sizeOf54 Z Z Z) (xc Z (op_load1 (i := 1) Z isAgg54 (tm Z) Z Z (xa (.i (a.Held.length : Int)) Z (pu_lenM Z underlying54 (tm Z)) (xa (.ptr p64 10) Z (fa Z underlying56 Z sizeOf54 Z Z Z) (xc Z (op_load1 (i := 0) Z isAgg54 (tm Z) Z Z ?_))))))))))
 refine xa (.i (b.Held.length : Int)) Z (pu_lenM Z underlying54 (tm Z)) (xa (.bool (!decide ((a.Held.length : Int) = (b.Held.length : Int)))) Z (pu_int (v := .bool (!decide ((a.Held.length : Int) = (b.Held.length : Int)))) Z Z (tm Z) (tm Z) Z) (xe (aw_cond (b := (!decide ((a.Held.length : Int) = (b.Held.length : Int)))) (tm Z) (fun hb124 => ?_) (fun hb124 => ?_))))
 ·replace h := ite_f (ndec_t hb124) h
  refine xr (xa (.bool false) Z (pu_assign Z (AEv.bool _)) (xe (aw_ret ?_)))
  obtain rfl := some_of h
  exact ⟨[.bool false], _, [], ⟨(tm Z), trivial⟩, vr, Weak.mkL [] (by decide) trivial trivial, ⟨Z, Z⟩⟩
 ·replace h := ite_t (ndec_f hb124) h
  refine aw_skip ?_
  obtain ⟨s123, s123e, h84⟩ := bind_some h
  refine aw_join (σ := Unit) (ν := Unit) (fun u v => [(2, .ptr p63 0), (3, .ptr p64 0)]) (fun u v => [(p63, .cells (api.Conn.ct .no .no a)), (p64, .cells (api.Conn.ct .no .no b))]) (fun u => s123 = .inl u) ?_ ?_
  ·intro s83
   intro _
   rintro rfl
   have h := onSum_inl h84
   obtain ⟨s112, s112e, h113⟩ := bind_some h
   refine aw_meet (ν := Unit) (fun v => [(4, .bool s112)]) (fun v => []) ?_ ?_
   ·have h := s112e
    refine aw_region (xa (.ptr p63 0) Z (fa Z underlying56 Z sizeOf2 Z Z Z) (xc Z (op_load1 (i := 0) Z isAgg2 (tm Z) Z Z (xa (.ptr p64 0) Z (fa Z underlying56 Z sizeOf2 Z Z Z) (xc Z (op_load1 (i := 1) Z isAgg2 (tm Z) Z Z (xa (.bool (decide (a.Born = b.Born))) Z (pu_int (v := .bool (decide (a.Born = b.Born))) Z Z (tm Z) (tm Z) Z) (xm Z Z Z ?_))))))))
    rcases Bool.eq_false_or_eq_true (decide (a.Born = b.Born)) with hb115 | hb115
    ·replace h := ite_t (dec_t hb115) h
     refine aops_known 36 Z hb115 (xp (.ptr p63 1) Z Z (fa Z underlying56 Z sizeOf3 Z Z Z) (xg Z Z (op_load1 (i := 0) Z isAgg3 (tm Z) Z Z (xp (.ptr p64 1) Z Z (fa Z underlying56 Z sizeOf3 Z Z Z) (xg Z Z (op_load1 (i := 1) Z isAgg3 (tm Z) Z Z (xp (.bool (decide (a.Tenant = b.Tenant))) Z Z (pu_int (v := .bool (decide (a.Tenant = b.Tenant))) Z Z (tm Z) (tm Z) Z) (xa (.bool (decide (a.Tenant = b.Tenant))) Z (pu_pick (b := true) Z (tm Z) (fun _ => (tm Z)) (fun h => nomatch h)) (xm Z Z Z ?_)))))))))
     rcases Bool.eq_false_or_eq_true (decide (a.Tenant = b.Tenant)) with hb116 | hb116
     ·replace h := ite_t (dec_t hb116) h
      refine aops_known 43 Z hb116 (xp (.ptr p63 2) Z Z (fa Z underlying56 Z sizeOf29 Z Z Z) (xg Z Z (op_loadN (i := 0) Z isAgg29 sizeOf29 (tm Z) Z (nb Z) Z (xp (.ptr p64 2) Z Z (fa Z underlying56 Z sizeOf29 Z Z Z) (xg Z Z (op_loadN (i := 1) Z isAgg29 sizeOf29 (tm Z) Z (nb Z) Z ?_))))))
      obtain ⟨r117, r117e, h⟩ := bind_some h
      refine xg Z Z (op_call (vs := [.agg (api.Input.ct .no a.In), .agg (api.Input.ct .no b.In)]) (H := []) Z call17 ⟨(tm Z), (tm Z), trivial⟩ (List.Perm.refl _) (mewsref05.SameInput.ok r117e) ?_)
      rintro _ _ ⟨rfl, rfl⟩
      refine xa (.bool r117) Z (pu_pick (b := true) Z (tm Z) (fun _ => (tm Z)) (fun h => nomatch h)) (xm Z Z Z ?_)
      rcases Bool.eq_false_or_eq_true r117 with hb118 | hb118
      ·replace h := ite_t hb118 h
       refine aops_known 50 Z hb118 (xp (.ptr p63 9) Z Z (fa Z underlying56 Z sizeOf3 Z Z Z) (xg Z Z (op_load1 (i := 0) Z isAgg3 (tm Z) Z Z (xp (.ptr p64 9) Z Z (fa Z underlying56 Z sizeOf3 Z Z Z) (xg Z Z (op_load1 (i := 1) Z isAgg3 (tm Z) Z Z (xp (.bool (decide (a.Asked = b.Asked))) Z Z (pu_int (v := .bool (decide (a.Asked = b.Asked))) Z Z (tm Z) (tm Z) Z) (xa (.bool (decide (a.Asked = b.Asked))) Z (pu_pick (b := true) Z (tm Z) (fun _ => (tm Z)) (fun h => nomatch h)) (xm Z Z Z ?_)))))))))
       rcases Bool.eq_false_or_eq_true (decide (a.Asked = b.Asked)) with hb119 | hb119
       ·replace h := ite_t (dec_t hb119) h
        refine aops_known 57 Z hb119 (xp (.ptr p63 11) Z Z (fa Z underlying56 Z sizeOf9 Z Z Z) (xg Z Z (op_load1 (i := 0) Z isAgg9 (tm Z) Z Z (xp (.ptr p64 11) Z Z (fa Z underlying56 Z sizeOf9 Z Z Z) (xg Z Z (op_load1 (i := 1) Z isAgg9 (tm Z) Z Z (xp (.bool (decide (a.Out = b.Out))) Z Z (pu_str (v := .bool (decide (a.Out = b.Out))) Z Z (tm Z) (tm Z) Z) (xa (.bool (decide (a.Out = b.Out))) Z (pu_pick (b := true) Z (tm Z) (fun _ => (tm Z)) (fun h => nomatch h)) (xm Z Z Z ?_)))))))))
        rcases Bool.eq_false_or_eq_true (decide (a.Out = b.Out)) with hb120 | hb120
        ·replace h := ite_t (dec_t hb120) h
         refine aops_known 64 Z hb120 (xp (.ptr p63 12) Z Z (fa Z underlying56 Z sizeOf3 Z Z Z) (xg Z Z (op_load1 (i := 0) Z isAgg3 (tm Z) Z Z (xp (.ptr p64 12) Z Z (fa Z underlying56 Z sizeOf3 Z Z Z) (xg Z Z (op_load1 (i := 1) Z isAgg3 (tm Z) Z Z (xp (.bool (decide (a.Taken = b.Taken))) Z Z (pu_int (v := .bool (decide (a.Taken = b.Taken))) Z Z (tm Z) (tm Z) Z) (xa (.bool (decide (a.Taken = b.Taken))) Z (pu_pick (b := true) Z (tm Z) (fun _ => (tm Z)) (fun h => nomatch h)) (xm Z Z Z ?_)))))))))
         rcases Bool.eq_false_or_eq_true (decide (a.Taken = b.Taken)) with hb121 | hb121
         ·replace h := ite_t (dec_t hb121) h
          refine aops_known 71 Z hb121 (xp (.ptr p63 13) Z Z (fa Z underlying56 Z sizeOf4 Z Z Z) (xg Z Z (op_load1 (i := 0) Z isAgg4 (tm Z) Z Z (xp (.ptr p64 13) Z Z (fa Z underlying56 Z sizeOf4 Z Z Z) (xg Z Z (op_load1 (i := 1) Z isAgg4 (tm Z) Z Z (xp (.bool (a.Shut == b.Shut)) Z Z (pu_boolEq Z underlying4 (tm Z) (tm Z)) (xa (.bool (a.Shut == b.Shut)) Z (pu_pick (b := true) Z (tm Z) (fun _ => (tm Z)) (fun h => nomatch h)) (xm Z Z Z ?_)))))))))
          rcases Bool.eq_false_or_eq_true (a.Shut == b.Shut) with hb122 | hb122
          ·replace h := ite_t hb122 h
           refine aops_known 78 Z hb122 (xp (.ptr p63 14) Z Z (fa Z underlying56 Z sizeOf4 Z Z Z) (xg Z Z (op_load1 (i := 0) Z isAgg4 (tm Z) Z Z (xp (.ptr p64 14) Z Z (fa Z underlying56 Z sizeOf4 Z Z Z) (xg Z Z (op_load1 (i := 1) Z isAgg4 (tm Z) Z Z (xp (.bool (a.Closed == b.Closed)) Z Z (pu_boolEq Z underlying4 (tm Z) (tm Z)) (xa (.bool (a.Closed == b.Closed)) Z (pu_pick (b := true) Z (tm Z) (fun _ => (tm Z)) (fun h => nomatch h)) (xm Z Z Z (xe ?_))))))))))
           obtain rfl := some_of h
           exact ⟨(), Weak.mkL [] (by decide) trivial ⟨(AEv.le (tm Z) vr), trivial⟩⟩
          ·replace h := ite_fb hb122 h
           refine aops_known 78 Z hb122 (xn Z Z Z (xn Z Z Z (xn Z Z Z (xn Z Z Z (xn Z Z Z (xa (.bool false) Z (pu_pick (b := false) Z (tm Z) (fun h => nomatch h) (fun _ => (AEv.bool _))) (xm Z Z Z (xe ?_))))))))
           obtain rfl := some_of h
           exact ⟨(), Weak.mkL [] (by decide) trivial ⟨tm Z, trivial⟩⟩
         ·replace h := ite_f (dec_f hb121) h
          refine aops_known 71 Z hb121 (xn Z Z Z (xn Z Z Z (xn Z Z Z (xn Z Z Z (xn Z Z Z (xa (.bool false) Z (pu_pick (b := false) Z (tm Z) (fun h => nomatch h) (fun _ => (AEv.bool _))) (xm Z Z Z (xn Z Z Z (xn Z Z Z ?_)))))))))
          refine xn Z Z Z (xn Z Z Z (xn Z Z Z (xa (.bool false) Z (pu_pick (b := false) Z (tm Z) (fun h => nomatch h) (fun _ => (AEv.bool _))) (xm Z Z Z (xe ?_)))))
          obtain rfl := some_of h
          exact ⟨(), Weak.mkL [] (by decide) trivial ⟨tm Z, trivial⟩⟩
        ·replace h := ite_f (dec_f hb120) h
         refine aops_known 64 Z hb120 (xn Z Z Z (xn Z Z Z (xn Z Z Z (xn Z Z Z (xn Z Z Z (xa (.bool false) Z (pu_pick (b := false) Z (tm Z) (fun h => nomatch h) (fun _ => (AEv.bool _))) (xm Z Z Z (xn Z Z Z (xn Z Z Z ?_)))))))))
         refine xn Z Z Z (xn Z Z Z (xn Z Z Z (xa (.bool false) Z (pu_pick (b := false) Z (tm Z) (fun h => nomatch h) (fun _ => (AEv.bool _))) (xm Z Z Z (xn Z Z Z (xn Z Z Z (xn Z Z Z (xn Z Z Z (xn Z Z Z ?_)))))))))
         refine xa (.bool false) Z (pu_pick (b := false) Z (tm Z) (fun h => nomatch h) (fun _ => (AEv.bool _))) (xm Z Z Z (xe ?_))
         obtain rfl := some_of h
         exact ⟨(), Weak.mkL [] (by decide) trivial ⟨tm Z, trivial⟩⟩
       ·replace h := ite_f (dec_f hb119) h
        refine aops_known 57 Z hb119 (xn Z Z Z (xn Z Z Z (xn Z Z Z (xn Z Z Z (xn Z Z Z (xa (.bool false) Z (pu_pick (b := false) Z (tm Z) (fun h => nomatch h) (fun _ => (AEv.bool _))) (xm Z Z Z (xn Z Z Z (xn Z Z Z ?_)))))))))
        refine xn Z Z Z (xn Z Z Z (xn Z Z Z (xa (.bool false) Z (pu_pick (b := false) Z (tm Z) (fun h => nomatch h) (fun _ => (AEv.bool _))) (xm Z Z Z (xn Z Z Z (xn Z Z Z (xn Z Z Z (xn Z Z Z (xn Z Z Z ?_)))))))))
        refine xa (.bool false) Z (pu_pick (b := false) Z (tm Z) (fun h => nomatch h) (fun _ => (AEv.bool _))) (xm Z Z Z (xn Z Z Z (xn Z Z Z (xn Z Z Z (xn Z Z Z (xn Z Z Z (xa (.bool false) Z (pu_pick (b := false) Z (tm Z) (fun h => nomatch h) (fun _ => (AEv.bool _))) (xm Z Z Z (xe ?_)))))))))
        obtain rfl := some_of h
        exact ⟨(), Weak.mkL [] (by decide) trivial ⟨tm Z, trivial⟩⟩
      ·replace h := ite_fb hb118 h
       refine aops_known 50 Z hb118 (xn Z Z Z (xn Z Z Z (xn Z Z Z (xn Z Z Z (xn Z Z Z (xa (.bool false) Z (pu_pick (b := false) Z (tm Z) (fun h => nomatch h) (fun _ => (AEv.bool _))) (xm Z Z Z (xn Z Z Z (xn Z Z Z ?_)))))))))
       refine xn Z Z Z (xn Z Z Z (xn Z Z Z (xa (.bool false) Z (pu_pick (b := false) Z (tm Z) (fun h => nomatch h) (fun _ => (AEv.bool _))) (xm Z Z Z (xn Z Z Z (xn Z Z Z (xn Z Z Z (xn Z Z Z (xn Z Z Z ?_)))))))))
       refine xa (.bool false) Z (pu_pick (b := false) Z (tm Z) (fun h => nomatch h) (fun _ => (AEv.bool _))) (xm Z Z Z (xn Z Z Z (xn Z Z Z (xn Z Z Z (xn Z Z Z (xn Z Z Z (xa (.bool false) Z (pu_pick (b := false) Z (tm Z) (fun h => nomatch h) (fun _ => (AEv.bool _))) (xm Z Z Z (xn Z Z Z ?_)))))))))
       refine xn Z Z Z (xn Z Z Z (xn Z Z Z (xn Z Z Z (xa (.bool false) Z (pu_pick (b := false) Z (tm Z) (fun h => nomatch h) (fun _ => (AEv.bool _))) (xm Z Z Z (xe ?_))))))
       obtain rfl := some_of h
       exact ⟨(), Weak.mkL [] (by decide) trivial ⟨tm Z, trivial⟩⟩
     ·replace h := ite_f (dec_f hb116) h
      refine aops_known 43 Z hb116 (xn Z Z Z (xn Z Z Z (xn Z Z Z (xn Z Z Z (xn Z Z Z (xa (.bool false) Z (pu_pick (b := false) Z (tm Z) (fun h => nomatch h) (fun _ => (AEv.bool _))) (xm Z Z Z (xn Z Z Z (xn Z Z Z ?_)))))))))
      refine xn Z Z Z (xn Z Z Z (xn Z Z Z (xa (.bool false) Z (pu_pick (b := false) Z (tm Z) (fun h => nomatch h) (fun _ => (AEv.bool _))) (xm Z Z Z (xn Z Z Z (xn Z Z Z (xn Z Z Z (xn Z Z Z (xn Z Z Z ?_)))))))))
      refine xa (.bool false) Z (pu_pick (b := false) Z (tm Z) (fun h => nomatch h) (fun _ => (AEv.bool _))) (xm Z Z Z (xn Z Z Z (xn Z Z Z (xn Z Z Z (xn Z Z Z (xn Z Z Z (xa (.bool false) Z (pu_pick (b := false) Z (tm Z) (fun h => nomatch h) (fun _ => (AEv.bool _))) (xm Z Z Z (xn Z Z Z ?_)))))))))
      refine xn Z Z Z (xn Z Z Z (xn Z Z Z (xn Z Z Z (xa (.bool false) Z (pu_pick (b := false) Z (tm Z) (fun h => nomatch h) (fun _ => (AEv.bool _))) (xm Z Z Z (xn Z Z Z (xn Z Z Z (xn Z Z Z (xn Z Z Z ?_)))))))))
      refine xn Z Z Z (xa (.bool false) Z (pu_pick (b := false) Z (tm Z) (fun h => nomatch h) (fun _ => (AEv.bool _))) (xm Z Z Z (xe ?_)))
      obtain rfl := some_of h
      exact ⟨(), Weak.mkL [] (by decide) trivial ⟨tm Z, trivial⟩⟩
    ·replace h := ite_f (dec_f hb115) h
     refine aops_known 36 Z hb115 (xn Z Z Z (xn Z Z Z (xn Z Z Z (xn Z Z Z (xn Z Z Z (xa (.bool false) Z (pu_pick (b := false) Z (tm Z) (fun h => nomatch h) (fun _ => (AEv.bool _))) (xm Z Z Z (xn Z Z Z (xn Z Z Z ?_)))))))))
     refine xn Z Z Z (xn Z Z Z (xn Z Z Z (xa (.bool false) Z (pu_pick (b := false) Z (tm Z) (fun h => nomatch h) (fun _ => (AEv.bool _))) (xm Z Z Z (xn Z Z Z (xn Z Z Z (xn Z Z Z (xn Z Z Z (xn Z Z Z ?_)))))))))
     refine xa (.bool false) Z (pu_pick (b := false) Z (tm Z) (fun h => nomatch h) (fun _ => (AEv.bool _))) (xm Z Z Z (xn Z Z Z (xn Z Z Z (xn Z Z Z (xn Z Z Z (xn Z Z Z (xa (.bool false) Z (pu_pick (b := false) Z (tm Z) (fun h => nomatch h) (fun _ => (AEv.bool _))) (xm Z Z Z (xn Z Z Z ?_)))))))))
     refine xn Z Z Z (xn Z Z Z (xn Z Z Z (xn Z Z Z (xa (.bool false) Z (pu_pick (b := false) Z (tm Z) (fun h => nomatch h) (fun _ => (AEv.bool _))) (xm Z Z Z (xn Z Z Z (xn Z Z Z (xn Z Z Z (xn Z Z Z ?_)))))))))
     refine xn Z Z Z (xa (.bool false) Z (pu_pick (b := false) Z (tm Z) (fun h => nomatch h) (fun _ => (AEv.bool _))) (xm Z Z Z (xn Z Z Z (xn Z Z Z (xn Z Z Z (xn Z Z Z (xn Z Z Z (xa (.bool false) Z (pu_pick (b := false) Z (tm Z) (fun h => nomatch h) (fun _ => (AEv.bool _))) (xm Z Z Z ?_)))))))))
     refine xe ?_
     obtain rfl := some_of h
     exact ⟨(), Weak.mkL [] (by decide) trivial ⟨tm Z, trivial⟩⟩
   ·intro _
    have h := h113
    refine aw_ret ?_
    obtain rfl := some_of h
    exact ⟨[.bool s112], _, [], ⟨(tm Z), trivial⟩, vr, Weak.mkL [] (by decide) trivial trivial, ⟨Z, Z⟩⟩
  ·have h := s123e
   refine xr (xa (.i 0) Z (pu_assign Z (AEv.int _ _)) (xe (aw_block (aw_while (σ := mewsref43.Same.S0) (ν := Unit) (mewsref43.Same.body0 a b) (fun s96 v => [(2, .ptr p63 0), (3, .ptr p64 0), (5, .i s96.i)]) (fun s96 v => [(p63, .cells (api.Conn.ct .no .no a)), (p64, .cells (api.Conn.ct .no .no b))]) ⟨0⟩ () _ h (Weak.mkL [1, 0] (by decide) ⟨⟨_, Z, cr, Z⟩, ⟨_, Z, cr, Z⟩, trivial⟩ ⟨tm Z, tm Z, tm Z, trivial⟩) ?_))))
   rintro s96 _ x98 h hx97
   unfold mewsref43.Same.body0 at h
   refine aw_seq (xr (xm Z Z Z (xa (.ptr p63 10) Z (fa Z underlying56 Z sizeOf54 Z Z Z) (xc Z (op_load1 (i := 0) Z isAgg54 (tm Z) Z Z (xa (.i (a.Held.length : Int)) Z (pu_lenM Z underlying54 (tm Z)) (xa (.bool (decide (s96.i < (a.Held.length : Int)))) Z (pu_int (v := .bool (decide (s96.i < (a.Held.length : Int)))) Z Z (tm Z) (tm Z) Z) (xe (aw_cond (b := decide (s96.i < (a.Held.length : Int))) (tm Z) (fun hb103 => ?_) (fun hb103 => ?_))))))))))
   ·replace h := ite_t (dec_t hb103) h
    refine aw_skip (aw_seq (aw_block (aw_seq ?_)))
    obtain ⟨c100, h⟩ := need_of h
    obtain ⟨c101, h⟩ := need_of h
    refine aw_planR (by decide +kernel) [[], [(0, 0, false)], [], [], [], [], [(1, 0, false)], [], [], [], []] [[], []] [[[(p63, .cells (api.Conn.ct .no .no a))]], [[(p64, .cells (api.Conn.ct .no .no b))]]] [.ptr p63 10, .sl .no 2 (a.Held.map api.Held.av), .i s96.i, .vptr [.i (ix a.Held s96.i).Need, .str (ix a.Held s96.i).S], .agg [.i (ix a.Held s96.i).Need, .str (ix a.Held s96.i).S], .ptr p64 10, .sl .no 2 (b.Held.map api.Held.av), .i s96.i, .vptr [.i (ix b.Held s96.i).Need, .str (ix b.Held s96.i).S], .agg [.i (ix b.Held s96.i).Need, .str (ix b.Held s96.i).S], .bool (!decide ((ix a.Held s96.i) = (ix b.Held s96.i)))] (by decide +kernel) Z Z ?_ ?_
    ·exact ⟨yp Z (fa Z underlying56 Z sizeOf54 Z Z Z), stepg_plain Z (op_load1 (i := 0) Z isAgg54 (tm Z) Z Z ⟨Z, Z⟩), ym Z Z Z, yp Z (pu_indexAddrM Z underlying54 sizeOf61 (tm Z) (tm Z) c100 Z), stepg_plain Z (op_loadVN Z isAgg61 sizeOf61 (tm Z) (nb Z) Z ⟨Z, Z⟩), yp Z (fa Z underlying56 Z sizeOf54 Z Z Z), stepg_plain Z (op_load1 (i := 0) Z isAgg54 (tm Z) Z Z ⟨Z, Z⟩), ym Z Z Z, yp Z (pu_indexAddrM Z underlying54 sizeOf61 (tm Z) (tm Z) c101 Z), stepg_plain Z (op_loadVN Z isAgg61 sizeOf61 (tm Z) (nb Z) Z ⟨Z, Z⟩), yp Z (APure.eq (pu_structNe (b := (decide ((ix a.Held s96.i).Need = (ix b.Held s96.i).Need) && (decide ((ix a.Held s96.i).S = (ix b.Held s96.i).S) && true))) Z underlying61 (by kernel_rfl) (by kernel_rfl) (tm Z) (tm Z) ⟨_, _, _, _, ⟨by decide, isAgg3, Z, Z, CEq.int underlying3⟩, ⟨_, _, _, _, ⟨by decide, isAgg9, Z, Z, CEq.str underlying9⟩, Z, Z⟩, Z⟩) (congrArg (fun b => AV.bool (!b)) (api.Held.eq_iff (ix a.Held s96.i) (ix b.Held s96.i)).symm)), trivial⟩
    refine aw_cond (b := (!decide ((ix a.Held s96.i) = (ix b.Held s96.i)))) (tm Z) (fun hb102 => ?_) (fun hb102 => ?_)
    ·replace h := ite_f (ndec_t hb102) h
     refine xr (xa (.bool false) Z (pu_assign Z (AEv.bool _)) (xe (aw_ret ?_)))
     obtain rfl := some_of h
     have h := congrArg some (hx97 _ rfl)
     obtain rfl := some_of h
     have h := onSum_inr h84
     obtain rfl := some_of h
     exact ⟨[.bool false], _, [], ⟨(tm Z), trivial⟩, vr, Weak.mkL [] (by decide) trivial trivial, ⟨Z, Z⟩⟩
    ·replace h := ite_t (ndec_f hb102) h
     refine aw_skip (aw_region (xm Z Z Z (xa (.i (IntKind.wrap .i64 (s96.i + 1))) Z (pu_int (v := .i (IntKind.wrap .i64 (s96.i + 1))) Z Z (tm Z) (AEv.int _ _) Z) (xm Z Z Z (xe ?_)))))
     obtain rfl := some_of h
     exact ⟨_, (), Z, Weak.mkL [0, 1] (by decide) ⟨⟨_, Z, cr, Z⟩, ⟨_, Z, cr, Z⟩, trivial⟩ ⟨tm Z, tm Z, (AEv.le (tm Z) vr), trivial⟩⟩
   ·replace h := ite_f (dec_f hb103) h
    refine aw_exit ?_
    obtain rfl := some_of h
    have h := congrArg some (hx97 _ rfl)
    exact ⟨(), (), (some_of h).symm, Weak.mkL [0, 1] (by decide) ⟨⟨_, Z, cr, Z⟩, ⟨_, Z, cr, Z⟩, trivial⟩ ⟨tm Z, tm Z, trivial⟩⟩

theorem mewslaw43.ConnPlays.ok {t_ : api.Tenant} {l : List mewslaw43.Op} {r : Bool} (h : mewslaw43.ConnPlays t_ l = some r) : Go.Lift.Spec prog 9 [.agg (api.Tenant.ct t_), .sl .no 4 (l.map mewslaw43.Op.av)] [] (fun v H => v = .bool r ∧ H = []) := by
 unfold mewslaw43.ConnPlays at h
 refine Go.Lift.Spec.of_body (rs := [.tmp 4]) func9 Z Z (nb Z) Z (xr (xc Z (op_box (cs := (api.Tenant.ct t_)) (v := .agg (api.Tenant.ct t_)) Z (tm Z) Z Z ?_)))
 intro p736
 refine xa (.bool false) Z (pu_assign Z (AEv.bool _)) (xe (aw_seq (xr (xm Z Z Z ?_))))
 obtain ⟨r737, r737e, h⟩ := bind_some h
 refine xc Z (op_call (vs := [.sl .no 4 (l.map mewslaw43.Op.av)]) (H := []) Z call24 ⟨(tm Z), trivial⟩ (List.Perm.refl _) (mewslaw43.far.ok r737e) ?_)
 rintro _ _ ⟨rfl, rfl⟩
 refine xe (aw_cond (b := r737) (tm Z) (fun hb1470 => ?_) (fun hb1470 => ?_))
 ·replace h := ite_t hb1470 h
  refine aw_seq (aw_region ?_)
  obtain ⟨r738, r738e, h⟩ := bind_some h
  refine xc Z (op_call (vs := []) (H := []) Z call25 trivial (List.Perm.refl _) (mewslaw43.alive.ok r738e) ?_)
  rintro _ _ ⟨rfl, rfl⟩
  refine xm Z Z Z (xe (aw_ret ?_))
  obtain rfl := some_of h
  exact ⟨[.bool r738], _, [], ⟨(tm Z), trivial⟩, vr, Weak.mkL [] (by decide) trivial trivial, ⟨Z, Z⟩⟩
 ·replace h := ite_fb hb1470 h
  refine aw_skip (xr (xc Z (op_loadN (i := 0) Z isAgg53 sizeOf53 (tm Z) Z (nb Z) Z ?_)))
  obtain ⟨r739, r739e, h⟩ := bind_some h
  refine xc Z (op_call (vs := [.agg (api.Tenant.ct t_)]) (H := []) Z call31 ⟨(tm Z), trivial⟩ (List.Perm.refl _) (mewslaw43.right_.ok r739e) ?_)
  rintro _ _ ⟨rfl, rfl⟩
  refine ac0 Z Z (op_store (i := 0) (cs' := (api.Tenant.ct r739)) Z sizeOf53 (tm Z) (v := .agg (api.Tenant.ct r739)) (tm Z) Z Z Z (nb Z) Z (xe (aw_seq (aw_region ?_))))
  obtain ⟨r740, r740e, h⟩ := bind_some h
  refine xc Z (op_call (vs := [.i 3]) (H := []) Z call26 ⟨(AEv.int _ _), trivial⟩ (List.Perm.refl _) (conn.Open.ok r740e) ?_)
  rintro _ _ ⟨rfl, rfl⟩
  refine xa (.agg [.i 3, .i (-1), .str ([] : List UInt8), .sl .full 1 (([] : List (List UInt8)).map AV.str), .i 0, .i 0, .bool false, .i 0, .i 0, .i 0, .sl .full 2 (([] : List api.Held).map api.Held.av), .str ([] : List UInt8), .i 0, .bool false, .bool false]) Z (pu_build (zs := [.i 0, .i 0, .str ([] : List UInt8), .sl .full 1 (([] : List (List UInt8)).map AV.str), .i 0, .i 0, .bool false, .i 0, .i 0, .i 0, .sl .full 2 (([] : List api.Held).map api.Held.av), .str ([] : List UInt8), .i 0, .bool false, .bool false]) (szs := [1, 1, 7, 1, 1, 1, 1, 1, 1]) (aparts := [(0, .i 3), (1, .i (-1))]) (cs := [.i 3, .i (-1), .str ([] : List UInt8), .sl .full 1 (([] : List (List UInt8)).map AV.str), .i 0, .i 0, .bool false, .i 0, .i 0, .i 0, .sl .full 2 (([] : List api.Held).map api.Held.av), .str ([] : List UInt8), .i 0, .bool false, .bool false]) Z underlying56 zeroValue56 Z ⟨sizeOf2, sizeOf3, sizeOf29, sizeOf3, sizeOf54, sizeOf9, sizeOf3, sizeOf4, sizeOf4, trivial⟩ ⟨Z, (AEv.int _ _), ⟨Z, (AEv.int _ _), trivial⟩⟩ Z) (xc Z (op_alloc (cs := [.i 0, .i 0, .str ([] : List UInt8), .sl .full 1 (([] : List (List UInt8)).map AV.str), .i 0, .i 0, .bool false, .i 0, .i 0, .i 0, .sl .full 2 (([] : List api.Held).map api.Held.av), .str ([] : List UInt8), .i 0, .bool false, .bool false]) (v := .agg [.i 0, .i 0, .str ([] : List UInt8), .sl .full 1 (([] : List (List UInt8)).map AV.str), .i 0, .i 0, .bool false, .i 0, .i 0, .i 0, .sl .full 2 (([] : List api.Held).map api.Held.av), .str ([] : List UInt8), .i 0, .bool false, .bool false]) Z zeroValue56 Z Z Z ?_))
  intro p741
  refine xc Z (op_alloc (cs := [.i 0, .i 0, .str ([] : List UInt8), .sl .full 1 (([] : List (List UInt8)).map AV.str), .i 0, .i 0, .bool false, .i 0, .i 0, .i 0, .sl .full 2 (([] : List api.Held).map api.Held.av), .str ([] : List UInt8), .i 0, .bool false, .bool false]) (v := .agg [.i 0, .i 0, .str ([] : List UInt8), .sl .full 1 (([] : List (List UInt8)).map AV.str), .i 0, .i 0, .bool false, .i 0, .i 0, .i 0, .sl .full 2 (([] : List api.Held).map api.Held.av), .str ([] : List UInt8), .i 0, .bool false, .bool false]) Z zeroValue56 Z Z Z ?_)
  intro p742
  refine ac0 Z Z (op_store (i := 1) (cs' := (api.Conn.ct .full .full r740)) Z sizeOf56 (tm Z) (v := .agg (api.Conn.ct .full .full r740)) (tm Z) Z Z Z (nb Z) Z (ac0 Z Z (op_store (i := 0) (cs' := [.i 3, .i (-1), .str ([] : List UInt8), .sl .full 1 (([] : List (List UInt8)).map AV.str), .i 0, .i 0, .bool false, .i 0, .i 0, .i 0, .sl .full 2 (([] : List api.Held).map api.Held.av), .str ([] : List UInt8), .i 0, .bool false, .bool false]) Z sizeOf56 (tm Z) (v := .agg [.i 3, .i (-1), .str ([] : List UInt8), .sl .full 1 (([] : List (List UInt8)).map AV.str), .i 0, .i 0, .bool false, .i 0, .i 0, .i 0, .sl .full 2 (([] : List api.Held).map api.Held.av), .str ([] : List UInt8), .i 0, .bool false, .bool false]) (tm Z) Z Z Z (nb Z) Z (xe (xr (xa (.str ([] : List UInt8)) Z (pu_assign Z (AEv.const Z)) (xa (.i 0) Z (pu_assign Z (AEv.int _ _)) (xe ?_))))))))
  obtain ⟨s1469, s1469e, h1105⟩ := bind_some h
  refine aw_join (σ := Unit) (ν := Unit) (fun u v => []) (fun u v => []) (fun u => s1469 = .inl u) ?_ ?_
  ·intro s1104
   intro _
   rintro rfl
   have h := onSum_inl h1105
   refine aw_seq (aw_region ?_)
   obtain ⟨r1468, r1468e, h⟩ := bind_some h
   refine xc Z (op_call (vs := []) (H := []) Z call25 trivial (List.Perm.refl _) (mewslaw43.alive.ok r1468e) ?_)
   rintro _ _ ⟨rfl, rfl⟩
   refine xm Z Z Z (xe (aw_ret ?_))
   obtain rfl := some_of h
   exact ⟨[.bool r1468], _, [], ⟨(tm Z), trivial⟩, vr, Weak.mkL [] (by decide) trivial trivial, ⟨Z, Z⟩⟩
  ·have h := s1469e
   refine xr (xm Z Z Z (xa (.i (l.length : Int)) Z (pu_lenM Z underlying50 (tm Z)) (xa (.i 0) Z (pu_move Z (AEv.int _ _)) (xe (aw_block (aw_while (σ := mewslaw43.ConnPlays.S0) (ν := Unit) (mewslaw43.ConnPlays.body0 l r739) (fun s1341 v => [(2, .ptr p736 0), (5, .ptr p741 0), (6, .ptr p742 0), (7, .str s1341.all_), (8, .i s1341.read), (27, .sl .no 4 (l.map mewslaw43.Op.av)), (28, .i (l.length : Int)), (29, .i s1341.t29)]) (fun s1341 v => [(p736, .cells (api.Tenant.ct r739)), (p741, .cells [.i s1341.c, .i s1341.c2, .str s1341.c3, .sl .no 1 (s1341.c4.map AV.str), .i s1341.c5, .i s1341.c6, .bool s1341.c7, .i s1341.c8, .i s1341.c9, .i s1341.c10, .sl .no 2 (s1341.c11.map api.Held.av), .str s1341.c12, .i s1341.c13, .bool s1341.c14, .bool s1341.c15]), (p742, .cells [.i s1341.c16, .i s1341.c17, .str s1341.c18, .sl .no 1 (s1341.c19.map AV.str), .i s1341.c20, .i s1341.c21, .bool s1341.c22, .i s1341.c23, .i s1341.c24, .i s1341.c25, .sl .no 2 (s1341.c26.map api.Held.av), .str s1341.c27, .i s1341.c28, .bool s1341.c29, .bool s1341.c30])]) ⟨([] : List UInt8), 0, 0, r740.Born, r740.Tenant, r740.In.Rest, r740.In.Args, r740.In.Left, r740.In.Size, r740.In.Body, r740.In.Need, r740.In.Dead, r740.Asked, r740.Held, r740.Out, r740.Taken, r740.Shut, r740.Closed, 3, (-1), ([] : List UInt8), ([] : List (List UInt8)), 0, 0, false, 0, 0, 0, ([] : List api.Held), ([] : List UInt8), 0, false, false⟩ () _ h (Weak.mkL [2, 1, 0] (by decide) ⟨⟨_, Z, cr, Z⟩, ⟨_, Z, ⟨vr, vr, vr, (AV.Le.forget _ _ _), vr, vr, vr, vr, vr, vr, (AV.Le.forget _ _ _), vr, vr, vr, vr, trivial⟩, Z⟩, ⟨_, Z, ⟨vr, vr, vr, (AV.Le.forget _ _ _), vr, vr, vr, vr, vr, vr, (AV.Le.forget _ _ _), vr, vr, vr, vr, trivial⟩, Z⟩, trivial⟩ ⟨tm Z, tm Z, tm Z, tm Z, tm Z, tm Z, tm Z, tm Z, trivial⟩) ?_))))))
   rintro s1341 _ x1343 h hx1342
   unfold mewslaw43.ConnPlays.body0 at h
   refine xr (xa (.bool (decide (s1341.t29 < (l.length : Int)))) Z (pu_int (v := .bool (decide (s1341.t29 < (l.length : Int)))) Z Z (tm Z) (tm Z) Z) (xe (aw_seq (aw_cond (b := decide (s1341.t29 < (l.length : Int))) (tm Z) (fun hb1467 => ?_) (fun hb1467 => ?_)))))
   ·replace h := ite_t (dec_t hb1467) h
    refine aw_skip (aw_seq (aw_block (aw_seq (aw_region ?_))))
    obtain ⟨c1345, h⟩ := need_of h
    refine xa (.vptr [.i (ix l s1341.t29).Kind, .str (ix l s1341.t29).S, .i (ix l s1341.t29).N, .i (ix l s1341.t29).M]) Z (pu_indexAddrM Z underlying50 sizeOf59 (tm Z) (tm Z) c1345 Z) (xc Z (op_loadVN Z isAgg59 sizeOf59 (tm Z) (nb Z) Z (xc Z (op_alloc (cs := [.i 0, .str ([] : List UInt8), .i 0, .i 0]) (v := .agg [.i 0, .str ([] : List UInt8), .i 0, .i 0]) Z zeroValue59 Z Z Z ?_))))
    intro p1346
    refine ac0 Z Z (op_store (i := 0) (cs' := (mewslaw43.Op.ct (ix l s1341.t29))) Z sizeOf59 (tm Z) (v := .agg (mewslaw43.Op.ct (ix l s1341.t29))) (tm Z) Z Z Z (nb Z) Z (xe ?_))
    obtain ⟨s1466, s1466e, h1400⟩ := bind_some h
    refine aw_join (σ := (List UInt8) × Int × Int × Int × (List UInt8) × (List (List UInt8)) × Int × Int × Bool × Int × Int × Int × (List api.Held) × (List UInt8) × Int × Bool × Bool × Int × Int × (List UInt8) × (List (List UInt8)) × Int × Int × Bool × Int × Int × Int × (List api.Held) × (List UInt8) × Int × Bool × Bool) (ν := Unit) (fun u v => [(2, .ptr p736 0), (5, .ptr p741 0), (6, .ptr p742 0), (7, .str u.1), (8, .i u.2.1), (27, .sl .no 4 (l.map mewslaw43.Op.av)), (28, .i (l.length : Int)), (29, .i s1341.t29)]) (fun u v => [(p736, .cells (api.Tenant.ct r739)), (p741, .cells [.i u.2.2.1, .i u.2.2.2.1, .str u.2.2.2.2.1, .sl .no 1 (u.2.2.2.2.2.1.map AV.str), .i u.2.2.2.2.2.2.1, .i u.2.2.2.2.2.2.2.1, .bool u.2.2.2.2.2.2.2.2.1, .i u.2.2.2.2.2.2.2.2.2.1, .i u.2.2.2.2.2.2.2.2.2.2.1, .i u.2.2.2.2.2.2.2.2.2.2.2.1, .sl .no 2 (u.2.2.2.2.2.2.2.2.2.2.2.2.1.map api.Held.av), .str u.2.2.2.2.2.2.2.2.2.2.2.2.2.1, .i u.2.2.2.2.2.2.2.2.2.2.2.2.2.2.1, .bool u.2.2.2.2.2.2.2.2.2.2.2.2.2.2.2.1, .bool u.2.2.2.2.2.2.2.2.2.2.2.2.2.2.2.2.1]), (p742, .cells [.i u.2.2.2.2.2.2.2.2.2.2.2.2.2.2.2.2.2.1, .i u.2.2.2.2.2.2.2.2.2.2.2.2.2.2.2.2.2.2.1, .str u.2.2.2.2.2.2.2.2.2.2.2.2.2.2.2.2.2.2.2.1, .sl .no 1 (u.2.2.2.2.2.2.2.2.2.2.2.2.2.2.2.2.2.2.2.2.1.map AV.str), .i u.2.2.2.2.2.2.2.2.2.2.2.2.2.2.2.2.2.2.2.2.2.1, .i u.2.2.2.2.2.2.2.2.2.2.2.2.2.2.2.2.2.2.2.2.2.2.1, .bool u.2.2.2.2.2.2.2.2.2.2.2.2.2.2.2.2.2.2.2.2.2.2.2.1, .i u.2.2.2.2.2.2.2.2.2.2.2.2.2.2.2.2.2.2.2.2.2.2.2.2.1, .i u.2.2.2.2.2.2.2.2.2.2.2.2.2.2.2.2.2.2.2.2.2.2.2.2.2.1, .i u.2.2.2.2.2.2.2.2.2.2.2.2.2.2.2.2.2.2.2.2.2.2.2.2.2.2.1, .sl .no 2 (u.2.2.2.2.2.2.2.2.2.2.2.2.2.2.2.2.2.2.2.2.2.2.2.2.2.2.2.1.map api.Held.av), .str u.2.2.2.2.2.2.2.2.2.2.2.2.2.2.2.2.2.2.2.2.2.2.2.2.2.2.2.2.1, .i u.2.2.2.2.2.2.2.2.2.2.2.2.2.2.2.2.2.2.2.2.2.2.2.2.2.2.2.2.2.1, .bool u.2.2.2.2.2.2.2.2.2.2.2.2.2.2.2.2.2.2.2.2.2.2.2.2.2.2.2.2.2.2.1, .bool u.2.2.2.2.2.2.2.2.2.2.2.2.2.2.2.2.2.2.2.2.2.2.2.2.2.2.2.2.2.2.2])]) (fun u => s1466 = .inl u) ?_ ?_
    ·intro s1399
     intro _
     rintro rfl
     have h := onSum_inl h1400
     obtain ⟨s1458, s1458e, h1459⟩ := bind_some h
     refine aw_meet (ν := Unit) (fun v => [(2, .ptr p736 0), (5, .ptr p741 0), (6, .ptr p742 0), (7, .str s1399.1), (8, .i s1399.2.1), (27, .sl .no 4 (l.map mewslaw43.Op.av)), (28, .i (l.length : Int)), (29, .i s1341.t29), (161, .bool s1458)]) (fun v => [(p736, .cells (api.Tenant.ct r739)), (p741, .cells [.i s1399.2.2.1, .i s1399.2.2.2.1, .str s1399.2.2.2.2.1, .sl .no 1 (s1399.2.2.2.2.2.1.map AV.str), .i s1399.2.2.2.2.2.2.1, .i s1399.2.2.2.2.2.2.2.1, .bool s1399.2.2.2.2.2.2.2.2.1, .i s1399.2.2.2.2.2.2.2.2.2.1, .i s1399.2.2.2.2.2.2.2.2.2.2.1, .i s1399.2.2.2.2.2.2.2.2.2.2.2.1, .sl .no 2 (s1399.2.2.2.2.2.2.2.2.2.2.2.2.1.map api.Held.av), .str s1399.2.2.2.2.2.2.2.2.2.2.2.2.2.1, .i s1399.2.2.2.2.2.2.2.2.2.2.2.2.2.2.1, .bool s1399.2.2.2.2.2.2.2.2.2.2.2.2.2.2.2.1, .bool s1399.2.2.2.2.2.2.2.2.2.2.2.2.2.2.2.2.1]), (p742, .cells [.i s1399.2.2.2.2.2.2.2.2.2.2.2.2.2.2.2.2.2.1, .i s1399.2.2.2.2.2.2.2.2.2.2.2.2.2.2.2.2.2.2.1, .str s1399.2.2.2.2.2.2.2.2.2.2.2.2.2.2.2.2.2.2.2.1, .sl .no 1 (s1399.2.2.2.2.2.2.2.2.2.2.2.2.2.2.2.2.2.2.2.2.1.map AV.str), .i s1399.2.2.2.2.2.2.2.2.2.2.2.2.2.2.2.2.2.2.2.2.2.1, .i s1399.2.2.2.2.2.2.2.2.2.2.2.2.2.2.2.2.2.2.2.2.2.2.1, .bool s1399.2.2.2.2.2.2.2.2.2.2.2.2.2.2.2.2.2.2.2.2.2.2.2.1, .i s1399.2.2.2.2.2.2.2.2.2.2.2.2.2.2.2.2.2.2.2.2.2.2.2.2.1, .i s1399.2.2.2.2.2.2.2.2.2.2.2.2.2.2.2.2.2.2.2.2.2.2.2.2.2.1, .i s1399.2.2.2.2.2.2.2.2.2.2.2.2.2.2.2.2.2.2.2.2.2.2.2.2.2.2.1, .sl .no 2 (s1399.2.2.2.2.2.2.2.2.2.2.2.2.2.2.2.2.2.2.2.2.2.2.2.2.2.2.2.1.map api.Held.av), .str s1399.2.2.2.2.2.2.2.2.2.2.2.2.2.2.2.2.2.2.2.2.2.2.2.2.2.2.2.2.1, .i s1399.2.2.2.2.2.2.2.2.2.2.2.2.2.2.2.2.2.2.2.2.2.2.2.2.2.2.2.2.2.1, .bool s1399.2.2.2.2.2.2.2.2.2.2.2.2.2.2.2.2.2.2.2.2.2.2.2.2.2.2.2.2.2.2.1, .bool s1399.2.2.2.2.2.2.2.2.2.2.2.2.2.2.2.2.2.2.2.2.2.2.2.2.2.2.2.2.2.2.2])]) ?_ ?_
     ·have h := s1458e
      obtain ⟨r1461, r1461e, h⟩ := bind_some h
      rcases Bool.eq_false_or_eq_true (!r1461) with hb1462 | hb1462
      ·replace h := ite_t hb1462 h
       refine aw_planR (by decide +kernel) [[(1, 0, false)], [(2, 0, false)], [], [], [], [], [], [], [], [], []] [[], [], []] [[[(p736, .cells (api.Tenant.ct r739))]], [[(p741, .cells [.i s1399.2.2.1, .i s1399.2.2.2.1, .str s1399.2.2.2.2.1, .sl .no 1 (s1399.2.2.2.2.2.1.map AV.str), .i s1399.2.2.2.2.2.2.1, .i s1399.2.2.2.2.2.2.2.1, .bool s1399.2.2.2.2.2.2.2.2.1, .i s1399.2.2.2.2.2.2.2.2.2.1, .i s1399.2.2.2.2.2.2.2.2.2.2.1, .i s1399.2.2.2.2.2.2.2.2.2.2.2.1, .sl .no 2 (s1399.2.2.2.2.2.2.2.2.2.2.2.2.1.map api.Held.av), .str s1399.2.2.2.2.2.2.2.2.2.2.2.2.2.1, .i s1399.2.2.2.2.2.2.2.2.2.2.2.2.2.2.1, .bool s1399.2.2.2.2.2.2.2.2.2.2.2.2.2.2.2.1, .bool s1399.2.2.2.2.2.2.2.2.2.2.2.2.2.2.2.2.1])]], [[(p742, .cells [.i s1399.2.2.2.2.2.2.2.2.2.2.2.2.2.2.2.2.2.1, .i s1399.2.2.2.2.2.2.2.2.2.2.2.2.2.2.2.2.2.2.1, .str s1399.2.2.2.2.2.2.2.2.2.2.2.2.2.2.2.2.2.2.2.1, .sl .no 1 (s1399.2.2.2.2.2.2.2.2.2.2.2.2.2.2.2.2.2.2.2.2.1.map AV.str), .i s1399.2.2.2.2.2.2.2.2.2.2.2.2.2.2.2.2.2.2.2.2.2.1, .i s1399.2.2.2.2.2.2.2.2.2.2.2.2.2.2.2.2.2.2.2.2.2.2.1, .bool s1399.2.2.2.2.2.2.2.2.2.2.2.2.2.2.2.2.2.2.2.2.2.2.2.1, .i s1399.2.2.2.2.2.2.2.2.2.2.2.2.2.2.2.2.2.2.2.2.2.2.2.2.1, .i s1399.2.2.2.2.2.2.2.2.2.2.2.2.2.2.2.2.2.2.2.2.2.2.2.2.2.1, .i s1399.2.2.2.2.2.2.2.2.2.2.2.2.2.2.2.2.2.2.2.2.2.2.2.2.2.2.1, .sl .no 2 (s1399.2.2.2.2.2.2.2.2.2.2.2.2.2.2.2.2.2.2.2.2.2.2.2.2.2.2.2.1.map api.Held.av), .str s1399.2.2.2.2.2.2.2.2.2.2.2.2.2.2.2.2.2.2.2.2.2.2.2.2.2.2.2.2.1, .i s1399.2.2.2.2.2.2.2.2.2.2.2.2.2.2.2.2.2.2.2.2.2.2.2.2.2.2.2.2.2.1, .bool s1399.2.2.2.2.2.2.2.2.2.2.2.2.2.2.2.2.2.2.2.2.2.2.2.2.2.2.2.2.2.2.1, .bool s1399.2.2.2.2.2.2.2.2.2.2.2.2.2.2.2.2.2.2.2.2.2.2.2.2.2.2.2.2.2.2.2])]]] [.agg [.i s1399.2.2.1, .i s1399.2.2.2.1, .str s1399.2.2.2.2.1, .sl .no 1 (s1399.2.2.2.2.2.1.map AV.str), .i s1399.2.2.2.2.2.2.1, .i s1399.2.2.2.2.2.2.2.1, .bool s1399.2.2.2.2.2.2.2.2.1, .i s1399.2.2.2.2.2.2.2.2.2.1, .i s1399.2.2.2.2.2.2.2.2.2.2.1, .i s1399.2.2.2.2.2.2.2.2.2.2.2.1, .sl .no 2 (s1399.2.2.2.2.2.2.2.2.2.2.2.2.1.map api.Held.av), .str s1399.2.2.2.2.2.2.2.2.2.2.2.2.2.1, .i s1399.2.2.2.2.2.2.2.2.2.2.2.2.2.2.1, .bool s1399.2.2.2.2.2.2.2.2.2.2.2.2.2.2.2.1, .bool s1399.2.2.2.2.2.2.2.2.2.2.2.2.2.2.2.2.1], .agg [.i s1399.2.2.2.2.2.2.2.2.2.2.2.2.2.2.2.2.2.1, .i s1399.2.2.2.2.2.2.2.2.2.2.2.2.2.2.2.2.2.2.1, .str s1399.2.2.2.2.2.2.2.2.2.2.2.2.2.2.2.2.2.2.2.1, .sl .no 1 (s1399.2.2.2.2.2.2.2.2.2.2.2.2.2.2.2.2.2.2.2.2.1.map AV.str), .i s1399.2.2.2.2.2.2.2.2.2.2.2.2.2.2.2.2.2.2.2.2.2.1, .i s1399.2.2.2.2.2.2.2.2.2.2.2.2.2.2.2.2.2.2.2.2.2.2.1, .bool s1399.2.2.2.2.2.2.2.2.2.2.2.2.2.2.2.2.2.2.2.2.2.2.2.1, .i s1399.2.2.2.2.2.2.2.2.2.2.2.2.2.2.2.2.2.2.2.2.2.2.2.2.1, .i s1399.2.2.2.2.2.2.2.2.2.2.2.2.2.2.2.2.2.2.2.2.2.2.2.2.2.1, .i s1399.2.2.2.2.2.2.2.2.2.2.2.2.2.2.2.2.2.2.2.2.2.2.2.2.2.2.1, .sl .no 2 (s1399.2.2.2.2.2.2.2.2.2.2.2.2.2.2.2.2.2.2.2.2.2.2.2.2.2.2.2.1.map api.Held.av), .str s1399.2.2.2.2.2.2.2.2.2.2.2.2.2.2.2.2.2.2.2.2.2.2.2.2.2.2.2.2.1, .i s1399.2.2.2.2.2.2.2.2.2.2.2.2.2.2.2.2.2.2.2.2.2.2.2.2.2.2.2.2.2.1, .bool s1399.2.2.2.2.2.2.2.2.2.2.2.2.2.2.2.2.2.2.2.2.2.2.2.2.2.2.2.2.2.2.1, .bool s1399.2.2.2.2.2.2.2.2.2.2.2.2.2.2.2.2.2.2.2.2.2.2.2.2.2.2.2.2.2.2.2], .bool r1461, .bool (!r1461), .bool true, .lit undef, .lit undef, .lit undef, .lit undef, .lit undef, .bool true] (by decide +kernel) Z Z ?_ ?_
       ·exact ⟨stepg_plain Z (op_loadN (i := 0) Z isAgg56 sizeOf56 (tm Z) Z (nb Z) Z ⟨Z, Z⟩), stepg_plain Z (op_loadN (i := 0) Z isAgg56 sizeOf56 (tm Z) Z (nb Z) Z ⟨Z, Z⟩), stepg_plain Z (op_call (vs := [.agg [.i s1399.2.2.1, .i s1399.2.2.2.1, .str s1399.2.2.2.2.1, .sl .no 1 (s1399.2.2.2.2.2.1.map AV.str), .i s1399.2.2.2.2.2.2.1, .i s1399.2.2.2.2.2.2.2.1, .bool s1399.2.2.2.2.2.2.2.2.1, .i s1399.2.2.2.2.2.2.2.2.2.1, .i s1399.2.2.2.2.2.2.2.2.2.2.1, .i s1399.2.2.2.2.2.2.2.2.2.2.2.1, .sl .no 2 (s1399.2.2.2.2.2.2.2.2.2.2.2.2.1.map api.Held.av), .str s1399.2.2.2.2.2.2.2.2.2.2.2.2.2.1, .i s1399.2.2.2.2.2.2.2.2.2.2.2.2.2.2.1, .bool s1399.2.2.2.2.2.2.2.2.2.2.2.2.2.2.2.1, .bool s1399.2.2.2.2.2.2.2.2.2.2.2.2.2.2.2.2.1], .agg [.i s1399.2.2.2.2.2.2.2.2.2.2.2.2.2.2.2.2.2.1, .i s1399.2.2.2.2.2.2.2.2.2.2.2.2.2.2.2.2.2.2.1, .str s1399.2.2.2.2.2.2.2.2.2.2.2.2.2.2.2.2.2.2.2.1, .sl .no 1 (s1399.2.2.2.2.2.2.2.2.2.2.2.2.2.2.2.2.2.2.2.2.1.map AV.str), .i s1399.2.2.2.2.2.2.2.2.2.2.2.2.2.2.2.2.2.2.2.2.2.1, .i s1399.2.2.2.2.2.2.2.2.2.2.2.2.2.2.2.2.2.2.2.2.2.2.1, .bool s1399.2.2.2.2.2.2.2.2.2.2.2.2.2.2.2.2.2.2.2.2.2.2.2.1, .i s1399.2.2.2.2.2.2.2.2.2.2.2.2.2.2.2.2.2.2.2.2.2.2.2.2.1, .i s1399.2.2.2.2.2.2.2.2.2.2.2.2.2.2.2.2.2.2.2.2.2.2.2.2.2.1, .i s1399.2.2.2.2.2.2.2.2.2.2.2.2.2.2.2.2.2.2.2.2.2.2.2.2.2.2.1, .sl .no 2 (s1399.2.2.2.2.2.2.2.2.2.2.2.2.2.2.2.2.2.2.2.2.2.2.2.2.2.2.2.1.map api.Held.av), .str s1399.2.2.2.2.2.2.2.2.2.2.2.2.2.2.2.2.2.2.2.2.2.2.2.2.2.2.2.2.1, .i s1399.2.2.2.2.2.2.2.2.2.2.2.2.2.2.2.2.2.2.2.2.2.2.2.2.2.2.2.2.2.1, .bool s1399.2.2.2.2.2.2.2.2.2.2.2.2.2.2.2.2.2.2.2.2.2.2.2.2.2.2.2.2.2.2.1, .bool s1399.2.2.2.2.2.2.2.2.2.2.2.2.2.2.2.2.2.2.2.2.2.2.2.2.2.2.2.2.2.2.2]]) (H := []) Z call39 ⟨(tm Z), (tm Z), trivial⟩ (R := []) (List.Perm.refl _) (mewsref43.Same.ok r1461e) (by rintro _ _ ⟨rfl, rfl⟩; exact ⟨Z, Z⟩)), yp Z (pu_not Z (tm Z)), AStepG.cast (ym Z Z Z) (congrArg AV.bool hb1462), yx Z Z Z, yx Z Z Z, yx Z Z Z, yx Z Z Z, yx Z Z Z, yp Z (pu_pick (b := true) Z (tm Z) (fun _ => (AEv.bool _)) (fun h => nomatch h)), trivial⟩
       obtain rfl := some_of h
       exact ⟨(), Weak.mkL [0, 1, 2] (by decide) ⟨⟨_, Z, cr, Z⟩, ⟨_, Z, cr, Z⟩, ⟨_, Z, cr, Z⟩, trivial⟩ ⟨tm Z, tm Z, tm Z, tm Z, tm Z, tm Z, tm Z, tm Z, tm Z, trivial⟩⟩
      ·replace h := ite_fb hb1462 h
       obtain ⟨r1463, r1463e, h⟩ := bind_some h
       obtain ⟨r1464, r1464e, h⟩ := bind_some h
       refine aw_planR (by decide +kernel) [[(1, 0, false)], [(2, 0, false)], [], [], [], [(1, 0, false)], [], [(2, 0, false)], [], [], []] [[], [], []] [[[(p736, .cells (api.Tenant.ct r739))]], [[(p741, .cells [.i s1399.2.2.1, .i s1399.2.2.2.1, .str s1399.2.2.2.2.1, .sl .no 1 (s1399.2.2.2.2.2.1.map AV.str), .i s1399.2.2.2.2.2.2.1, .i s1399.2.2.2.2.2.2.2.1, .bool s1399.2.2.2.2.2.2.2.2.1, .i s1399.2.2.2.2.2.2.2.2.2.1, .i s1399.2.2.2.2.2.2.2.2.2.2.1, .i s1399.2.2.2.2.2.2.2.2.2.2.2.1, .sl .no 2 (s1399.2.2.2.2.2.2.2.2.2.2.2.2.1.map api.Held.av), .str s1399.2.2.2.2.2.2.2.2.2.2.2.2.2.1, .i s1399.2.2.2.2.2.2.2.2.2.2.2.2.2.2.1, .bool s1399.2.2.2.2.2.2.2.2.2.2.2.2.2.2.2.1, .bool s1399.2.2.2.2.2.2.2.2.2.2.2.2.2.2.2.2.1])]], [[(p742, .cells [.i s1399.2.2.2.2.2.2.2.2.2.2.2.2.2.2.2.2.2.1, .i s1399.2.2.2.2.2.2.2.2.2.2.2.2.2.2.2.2.2.2.1, .str s1399.2.2.2.2.2.2.2.2.2.2.2.2.2.2.2.2.2.2.2.1, .sl .no 1 (s1399.2.2.2.2.2.2.2.2.2.2.2.2.2.2.2.2.2.2.2.2.1.map AV.str), .i s1399.2.2.2.2.2.2.2.2.2.2.2.2.2.2.2.2.2.2.2.2.2.1, .i s1399.2.2.2.2.2.2.2.2.2.2.2.2.2.2.2.2.2.2.2.2.2.2.1, .bool s1399.2.2.2.2.2.2.2.2.2.2.2.2.2.2.2.2.2.2.2.2.2.2.2.1, .i s1399.2.2.2.2.2.2.2.2.2.2.2.2.2.2.2.2.2.2.2.2.2.2.2.2.1, .i s1399.2.2.2.2.2.2.2.2.2.2.2.2.2.2.2.2.2.2.2.2.2.2.2.2.2.1, .i s1399.2.2.2.2.2.2.2.2.2.2.2.2.2.2.2.2.2.2.2.2.2.2.2.2.2.2.1, .sl .no 2 (s1399.2.2.2.2.2.2.2.2.2.2.2.2.2.2.2.2.2.2.2.2.2.2.2.2.2.2.2.1.map api.Held.av), .str s1399.2.2.2.2.2.2.2.2.2.2.2.2.2.2.2.2.2.2.2.2.2.2.2.2.2.2.2.2.1, .i s1399.2.2.2.2.2.2.2.2.2.2.2.2.2.2.2.2.2.2.2.2.2.2.2.2.2.2.2.2.2.1, .bool s1399.2.2.2.2.2.2.2.2.2.2.2.2.2.2.2.2.2.2.2.2.2.2.2.2.2.2.2.2.2.2.1, .bool s1399.2.2.2.2.2.2.2.2.2.2.2.2.2.2.2.2.2.2.2.2.2.2.2.2.2.2.2.2.2.2.2])]]] [.agg [.i s1399.2.2.1, .i s1399.2.2.2.1, .str s1399.2.2.2.2.1, .sl .no 1 (s1399.2.2.2.2.2.1.map AV.str), .i s1399.2.2.2.2.2.2.1, .i s1399.2.2.2.2.2.2.2.1, .bool s1399.2.2.2.2.2.2.2.2.1, .i s1399.2.2.2.2.2.2.2.2.2.1, .i s1399.2.2.2.2.2.2.2.2.2.2.1, .i s1399.2.2.2.2.2.2.2.2.2.2.2.1, .sl .no 2 (s1399.2.2.2.2.2.2.2.2.2.2.2.2.1.map api.Held.av), .str s1399.2.2.2.2.2.2.2.2.2.2.2.2.2.1, .i s1399.2.2.2.2.2.2.2.2.2.2.2.2.2.2.1, .bool s1399.2.2.2.2.2.2.2.2.2.2.2.2.2.2.2.1, .bool s1399.2.2.2.2.2.2.2.2.2.2.2.2.2.2.2.2.1], .agg [.i s1399.2.2.2.2.2.2.2.2.2.2.2.2.2.2.2.2.2.1, .i s1399.2.2.2.2.2.2.2.2.2.2.2.2.2.2.2.2.2.2.1, .str s1399.2.2.2.2.2.2.2.2.2.2.2.2.2.2.2.2.2.2.2.1, .sl .no 1 (s1399.2.2.2.2.2.2.2.2.2.2.2.2.2.2.2.2.2.2.2.2.1.map AV.str), .i s1399.2.2.2.2.2.2.2.2.2.2.2.2.2.2.2.2.2.2.2.2.2.1, .i s1399.2.2.2.2.2.2.2.2.2.2.2.2.2.2.2.2.2.2.2.2.2.2.1, .bool s1399.2.2.2.2.2.2.2.2.2.2.2.2.2.2.2.2.2.2.2.2.2.2.2.1, .i s1399.2.2.2.2.2.2.2.2.2.2.2.2.2.2.2.2.2.2.2.2.2.2.2.2.1, .i s1399.2.2.2.2.2.2.2.2.2.2.2.2.2.2.2.2.2.2.2.2.2.2.2.2.2.1, .i s1399.2.2.2.2.2.2.2.2.2.2.2.2.2.2.2.2.2.2.2.2.2.2.2.2.2.2.1, .sl .no 2 (s1399.2.2.2.2.2.2.2.2.2.2.2.2.2.2.2.2.2.2.2.2.2.2.2.2.2.2.2.1.map api.Held.av), .str s1399.2.2.2.2.2.2.2.2.2.2.2.2.2.2.2.2.2.2.2.2.2.2.2.2.2.2.2.2.1, .i s1399.2.2.2.2.2.2.2.2.2.2.2.2.2.2.2.2.2.2.2.2.2.2.2.2.2.2.2.2.2.1, .bool s1399.2.2.2.2.2.2.2.2.2.2.2.2.2.2.2.2.2.2.2.2.2.2.2.2.2.2.2.2.2.2.1, .bool s1399.2.2.2.2.2.2.2.2.2.2.2.2.2.2.2.2.2.2.2.2.2.2.2.2.2.2.2.2.2.2.2], .bool r1461, .bool (!r1461), .bool false, .agg [.i s1399.2.2.1, .i s1399.2.2.2.1, .str s1399.2.2.2.2.1, .sl .no 1 (s1399.2.2.2.2.2.1.map AV.str), .i s1399.2.2.2.2.2.2.1, .i s1399.2.2.2.2.2.2.2.1, .bool s1399.2.2.2.2.2.2.2.2.1, .i s1399.2.2.2.2.2.2.2.2.2.1, .i s1399.2.2.2.2.2.2.2.2.2.2.1, .i s1399.2.2.2.2.2.2.2.2.2.2.2.1, .sl .no 2 (s1399.2.2.2.2.2.2.2.2.2.2.2.2.1.map api.Held.av), .str s1399.2.2.2.2.2.2.2.2.2.2.2.2.2.1, .i s1399.2.2.2.2.2.2.2.2.2.2.2.2.2.2.1, .bool s1399.2.2.2.2.2.2.2.2.2.2.2.2.2.2.2.1, .bool s1399.2.2.2.2.2.2.2.2.2.2.2.2.2.2.2.2.1], .i r1463, .agg [.i s1399.2.2.2.2.2.2.2.2.2.2.2.2.2.2.2.2.2.1, .i s1399.2.2.2.2.2.2.2.2.2.2.2.2.2.2.2.2.2.2.1, .str s1399.2.2.2.2.2.2.2.2.2.2.2.2.2.2.2.2.2.2.2.1, .sl .no 1 (s1399.2.2.2.2.2.2.2.2.2.2.2.2.2.2.2.2.2.2.2.2.1.map AV.str), .i s1399.2.2.2.2.2.2.2.2.2.2.2.2.2.2.2.2.2.2.2.2.2.1, .i s1399.2.2.2.2.2.2.2.2.2.2.2.2.2.2.2.2.2.2.2.2.2.2.1, .bool s1399.2.2.2.2.2.2.2.2.2.2.2.2.2.2.2.2.2.2.2.2.2.2.2.1, .i s1399.2.2.2.2.2.2.2.2.2.2.2.2.2.2.2.2.2.2.2.2.2.2.2.2.1, .i s1399.2.2.2.2.2.2.2.2.2.2.2.2.2.2.2.2.2.2.2.2.2.2.2.2.2.1, .i s1399.2.2.2.2.2.2.2.2.2.2.2.2.2.2.2.2.2.2.2.2.2.2.2.2.2.2.1, .sl .no 2 (s1399.2.2.2.2.2.2.2.2.2.2.2.2.2.2.2.2.2.2.2.2.2.2.2.2.2.2.2.1.map api.Held.av), .str s1399.2.2.2.2.2.2.2.2.2.2.2.2.2.2.2.2.2.2.2.2.2.2.2.2.2.2.2.2.1, .i s1399.2.2.2.2.2.2.2.2.2.2.2.2.2.2.2.2.2.2.2.2.2.2.2.2.2.2.2.2.2.1, .bool s1399.2.2.2.2.2.2.2.2.2.2.2.2.2.2.2.2.2.2.2.2.2.2.2.2.2.2.2.2.2.2.1, .bool s1399.2.2.2.2.2.2.2.2.2.2.2.2.2.2.2.2.2.2.2.2.2.2.2.2.2.2.2.2.2.2.2], .i r1464, .bool (!decide (r1463 = r1464)), .bool (!decide (r1463 = r1464))] (by decide +kernel) Z Z ?_ ?_
       ·exact ⟨stepg_plain Z (op_loadN (i := 0) Z isAgg56 sizeOf56 (tm Z) Z (nb Z) Z ⟨Z, Z⟩), stepg_plain Z (op_loadN (i := 0) Z isAgg56 sizeOf56 (tm Z) Z (nb Z) Z ⟨Z, Z⟩), stepg_plain Z (op_call (vs := [.agg [.i s1399.2.2.1, .i s1399.2.2.2.1, .str s1399.2.2.2.2.1, .sl .no 1 (s1399.2.2.2.2.2.1.map AV.str), .i s1399.2.2.2.2.2.2.1, .i s1399.2.2.2.2.2.2.2.1, .bool s1399.2.2.2.2.2.2.2.2.1, .i s1399.2.2.2.2.2.2.2.2.2.1, .i s1399.2.2.2.2.2.2.2.2.2.2.1, .i s1399.2.2.2.2.2.2.2.2.2.2.2.1, .sl .no 2 (s1399.2.2.2.2.2.2.2.2.2.2.2.2.1.map api.Held.av), .str s1399.2.2.2.2.2.2.2.2.2.2.2.2.2.1, .i s1399.2.2.2.2.2.2.2.2.2.2.2.2.2.2.1, .bool s1399.2.2.2.2.2.2.2.2.2.2.2.2.2.2.2.1, .bool s1399.2.2.2.2.2.2.2.2.2.2.2.2.2.2.2.2.1], .agg [.i s1399.2.2.2.2.2.2.2.2.2.2.2.2.2.2.2.2.2.1, .i s1399.2.2.2.2.2.2.2.2.2.2.2.2.2.2.2.2.2.2.1, .str s1399.2.2.2.2.2.2.2.2.2.2.2.2.2.2.2.2.2.2.2.1, .sl .no 1 (s1399.2.2.2.2.2.2.2.2.2.2.2.2.2.2.2.2.2.2.2.2.1.map AV.str), .i s1399.2.2.2.2.2.2.2.2.2.2.2.2.2.2.2.2.2.2.2.2.2.1, .i s1399.2.2.2.2.2.2.2.2.2.2.2.2.2.2.2.2.2.2.2.2.2.2.1, .bool s1399.2.2.2.2.2.2.2.2.2.2.2.2.2.2.2.2.2.2.2.2.2.2.2.1, .i s1399.2.2.2.2.2.2.2.2.2.2.2.2.2.2.2.2.2.2.2.2.2.2.2.2.1, .i s1399.2.2.2.2.2.2.2.2.2.2.2.2.2.2.2.2.2.2.2.2.2.2.2.2.2.1, .i s1399.2.2.2.2.2.2.2.2.2.2.2.2.2.2.2.2.2.2.2.2.2.2.2.2.2.2.1, .sl .no 2 (s1399.2.2.2.2.2.2.2.2.2.2.2.2.2.2.2.2.2.2.2.2.2.2.2.2.2.2.2.1.map api.Held.av), .str s1399.2.2.2.2.2.2.2.2.2.2.2.2.2.2.2.2.2.2.2.2.2.2.2.2.2.2.2.2.1, .i s1399.2.2.2.2.2.2.2.2.2.2.2.2.2.2.2.2.2.2.2.2.2.2.2.2.2.2.2.2.2.1, .bool s1399.2.2.2.2.2.2.2.2.2.2.2.2.2.2.2.2.2.2.2.2.2.2.2.2.2.2.2.2.2.2.1, .bool s1399.2.2.2.2.2.2.2.2.2.2.2.2.2.2.2.2.2.2.2.2.2.2.2.2.2.2.2.2.2.2.2]]) (H := []) Z call39 ⟨(tm Z), (tm Z), trivial⟩ (R := []) (List.Perm.refl _) (mewsref43.Same.ok r1461e) (by rintro _ _ ⟨rfl, rfl⟩; exact ⟨Z, Z⟩)), yp Z (pu_not Z (tm Z)), AStepG.cast (ym Z Z Z) (congrArg AV.bool hb1462), yg Z Z (op_loadN (i := 0) Z isAgg56 sizeOf56 (tm Z) Z (nb Z) Z ⟨Z, Z⟩), yg Z Z (op_call (vs := [.agg [.i s1399.2.2.1, .i s1399.2.2.2.1, .str s1399.2.2.2.2.1, .sl .no 1 (s1399.2.2.2.2.2.1.map AV.str), .i s1399.2.2.2.2.2.2.1, .i s1399.2.2.2.2.2.2.2.1, .bool s1399.2.2.2.2.2.2.2.2.1, .i s1399.2.2.2.2.2.2.2.2.2.1, .i s1399.2.2.2.2.2.2.2.2.2.2.1, .i s1399.2.2.2.2.2.2.2.2.2.2.2.1, .sl .no 2 (s1399.2.2.2.2.2.2.2.2.2.2.2.2.1.map api.Held.av), .str s1399.2.2.2.2.2.2.2.2.2.2.2.2.2.1, .i s1399.2.2.2.2.2.2.2.2.2.2.2.2.2.2.1, .bool s1399.2.2.2.2.2.2.2.2.2.2.2.2.2.2.2.1, .bool s1399.2.2.2.2.2.2.2.2.2.2.2.2.2.2.2.2.1]]) (H := []) Z call30 ⟨(tm Z), trivial⟩ (R := []) (List.Perm.refl _) (conn.Pending.ok r1463e) (by rintro _ _ ⟨rfl, rfl⟩; exact ⟨Z, Z⟩)), yg Z Z (op_loadN (i := 0) Z isAgg56 sizeOf56 (tm Z) Z (nb Z) Z ⟨Z, Z⟩), yg Z Z (op_call (vs := [.agg [.i s1399.2.2.2.2.2.2.2.2.2.2.2.2.2.2.2.2.2.1, .i s1399.2.2.2.2.2.2.2.2.2.2.2.2.2.2.2.2.2.2.1, .str s1399.2.2.2.2.2.2.2.2.2.2.2.2.2.2.2.2.2.2.2.1, .sl .no 1 (s1399.2.2.2.2.2.2.2.2.2.2.2.2.2.2.2.2.2.2.2.2.1.map AV.str), .i s1399.2.2.2.2.2.2.2.2.2.2.2.2.2.2.2.2.2.2.2.2.2.1, .i s1399.2.2.2.2.2.2.2.2.2.2.2.2.2.2.2.2.2.2.2.2.2.2.1, .bool s1399.2.2.2.2.2.2.2.2.2.2.2.2.2.2.2.2.2.2.2.2.2.2.2.1, .i s1399.2.2.2.2.2.2.2.2.2.2.2.2.2.2.2.2.2.2.2.2.2.2.2.2.1, .i s1399.2.2.2.2.2.2.2.2.2.2.2.2.2.2.2.2.2.2.2.2.2.2.2.2.2.1, .i s1399.2.2.2.2.2.2.2.2.2.2.2.2.2.2.2.2.2.2.2.2.2.2.2.2.2.2.1, .sl .no 2 (s1399.2.2.2.2.2.2.2.2.2.2.2.2.2.2.2.2.2.2.2.2.2.2.2.2.2.2.2.1.map api.Held.av), .str s1399.2.2.2.2.2.2.2.2.2.2.2.2.2.2.2.2.2.2.2.2.2.2.2.2.2.2.2.2.1, .i s1399.2.2.2.2.2.2.2.2.2.2.2.2.2.2.2.2.2.2.2.2.2.2.2.2.2.2.2.2.2.1, .bool s1399.2.2.2.2.2.2.2.2.2.2.2.2.2.2.2.2.2.2.2.2.2.2.2.2.2.2.2.2.2.2.1, .bool s1399.2.2.2.2.2.2.2.2.2.2.2.2.2.2.2.2.2.2.2.2.2.2.2.2.2.2.2.2.2.2.2]]) (H := []) Z call40 ⟨(tm Z), trivial⟩ (R := []) (List.Perm.refl _) (mewsref43.Pending.ok r1464e) (by rintro _ _ ⟨rfl, rfl⟩; exact ⟨Z, Z⟩)), yq Z Z (pu_int (v := .bool (!decide (r1463 = r1464))) Z Z (tm Z) (tm Z) Z), yp Z (pu_pick (b := false) Z (tm Z) (fun h => nomatch h) (fun _ => (tm Z))), trivial⟩
       obtain rfl := some_of h
       exact ⟨(), Weak.mkL [0, 1, 2] (by decide) ⟨⟨_, Z, cr, Z⟩, ⟨_, Z, cr, Z⟩, ⟨_, Z, cr, Z⟩, trivial⟩ ⟨tm Z, tm Z, tm Z, tm Z, tm Z, tm Z, tm Z, tm Z, tm Z, trivial⟩⟩
     ·intro _
      have h := h1459
      refine aw_cond (b := s1458) (tm Z) (fun hb1465 => ?_) (fun hb1465 => ?_)
      ·replace h := ite_t hb1465 h
       refine xr (xa (.bool false) Z (pu_assign Z (AEv.bool _)) (xe (aw_ret ?_)))
       obtain rfl := some_of h
       have h := congrArg some (hx1342 _ rfl)
       obtain rfl := some_of h
       have h := onSum_inr h1105
       obtain rfl := some_of h
       exact ⟨[.bool false], _, [], ⟨(tm Z), trivial⟩, vr, Weak.mkL [] (by decide) trivial trivial, ⟨Z, Z⟩⟩
      ·replace h := ite_fb hb1465 h
       refine aw_skip (aw_region (xa (.i (IntKind.wrap .i64 (s1341.t29 + 1))) Z (pu_int (v := .i (IntKind.wrap .i64 (s1341.t29 + 1))) Z Z (tm Z) (AEv.int _ _) Z) (xm Z Z Z (xe ?_))))
       obtain rfl := some_of h
       exact ⟨_, (), Z, Weak.mkL [0, 1, 2] (by decide) ⟨⟨_, Z, cr, Z⟩, ⟨_, Z, cr, Z⟩, ⟨_, Z, cr, Z⟩, trivial⟩ ⟨tm Z, tm Z, tm Z, tm Z, tm Z, tm Z, tm Z, (AEv.le (tm Z) vr), trivial⟩⟩
    ·have h := s1466e
     refine xr (xa (.ptr p1346 0) Z (fa Z underlying59 Z sizeOf3 Z Z Z) (xc Z (op_load1 (i := 0) Z isAgg3 (tm Z) Z Z (xe (aw_block (xr (xa (.bool (decide ((ix l s1341.t29).Kind = 0))) Z (pu_int (v := .bool (decide ((ix l s1341.t29).Kind = 0))) Z Z (tm Z) (AEv.int _ _) Z) (xm Z Z Z ?_))))))))
     refine xe (aw_cond (b := decide ((ix l s1341.t29).Kind = 0)) (tm Z) (fun hb1453 => ?_) (fun hb1453 => ?_))
     ·replace h := ite_t (dec_t hb1453) h
      refine xr (xc Z (op_loadN (i := 2) Z isAgg56 sizeOf56 (tm Z) Z (nb Z) Z (xa (.ptr p1346 1) Z (fa Z underlying59 Z sizeOf9 Z Z Z) (xc Z (op_load1 (i := 0) Z isAgg9 (tm Z) Z Z (xc Z (op_loadN (i := 1) Z isAgg53 sizeOf53 (tm Z) Z (nb Z) Z ?_)))))))
      obtain ⟨r1402, r1402e, h⟩ := bind_some h
      refine xc Z (op_call (vs := [.agg [.i s1341.c, .i s1341.c2, .str s1341.c3, .sl .no 1 (s1341.c4.map AV.str), .i s1341.c5, .i s1341.c6, .bool s1341.c7, .i s1341.c8, .i s1341.c9, .i s1341.c10, .sl .no 2 (s1341.c11.map api.Held.av), .str s1341.c12, .i s1341.c13, .bool s1341.c14, .bool s1341.c15], .str (ix l s1341.t29).S, .agg (api.Tenant.ct r739)]) (H := []) Z call32 ⟨(tm Z), (tm Z), (tm Z), trivial⟩ (List.Perm.refl _) (conn.Read.ok r1402e) ?_)
      rintro _ _ ⟨t1403, rfl, rfl⟩
      refine xm Z Z Z (xa (.agg (api.Conn.ct .no .no r1402.1)) Z (pu_extract Z (tm Z) (nb Z) Z) (xa (.sl (.own t1403) 2 (r1402.2.1.map api.Request.av)) Z (pu_extract Z (tm Z) (nb Z) Z) (xa (.str r1402.2.2) Z (pu_extract Z (tm Z) (nb Z) Z) (xc Z (op_alloc (cs := [.i 0, .i 0, .str ([] : List UInt8), .sl .full 1 (([] : List (List UInt8)).map AV.str), .i 0, .i 0, .bool false, .i 0, .i 0, .i 0, .sl .full 2 (([] : List api.Held).map api.Held.av), .str ([] : List UInt8), .i 0, .bool false, .bool false]) (v := .agg [.i 0, .i 0, .str ([] : List UInt8), .sl .full 1 (([] : List (List UInt8)).map AV.str), .i 0, .i 0, .bool false, .i 0, .i 0, .i 0, .sl .full 2 (([] : List api.Held).map api.Held.av), .str ([] : List UInt8), .i 0, .bool false, .bool false]) Z zeroValue56 Z Z Z ?_)))))
      intro p1404
      refine ac0 Z Z (op_store (i := 0) (cs' := (api.Conn.ct .no .no r1402.1)) Z sizeOf56 (tm Z) (v := .agg (api.Conn.ct .no .no r1402.1)) (tm Z) Z Z Z (nb Z) Z (xm Z Z Z (xm Z Z Z (xe (xr (xa (.str ([] : List UInt8)) Z (pu_assign Z (AEv.const Z)) (xa (.sl .full 2 (([] : List api.Request).map api.Request.av)) Z (pu_assign Z (AEv.nil 2 (by decide))) (xe ?_))))))))
      obtain ⟨s1414, s1414e, h1416⟩ := bind_some h
      refine aw_meet (ν := Nat) (fun v => [(2, .ptr p736 0), (5, .ptr p741 0), (6, .ptr p742 0), (7, .str s1414.1), (8, .i s1414.2.1), (11, .ptr p1404 0), (12, .sl (.own t1403) 2 (r1402.2.1.map api.Request.av)), (13, .str r1402.2.2), (14, .str s1414.2.2.1), (15, .sl (.own v) 2 (s1414.2.2.2.1.map api.Request.av)), (27, .sl .no 4 (l.map mewslaw43.Op.av)), (28, .i (l.length : Int)), (29, .i s1341.t29)]) (fun v => [(p736, .cells (api.Tenant.ct r739)), (p741, .cells [.i s1341.c, .i s1341.c2, .str s1341.c3, .sl .no 1 (s1341.c4.map AV.str), .i s1341.c5, .i s1341.c6, .bool s1341.c7, .i s1341.c8, .i s1341.c9, .i s1341.c10, .sl .no 2 (s1341.c11.map api.Held.av), .str s1341.c12, .i s1341.c13, .bool s1341.c14, .bool s1341.c15]), (p742, .cells [.i s1414.2.2.2.2.1, .i s1414.2.2.2.2.2.1, .str s1414.2.2.2.2.2.2.1, .sl .no 1 (s1414.2.2.2.2.2.2.2.1.map AV.str), .i s1414.2.2.2.2.2.2.2.2.1, .i s1414.2.2.2.2.2.2.2.2.2.1, .bool s1414.2.2.2.2.2.2.2.2.2.2.1, .i s1414.2.2.2.2.2.2.2.2.2.2.2.1, .i s1414.2.2.2.2.2.2.2.2.2.2.2.2.1, .i s1414.2.2.2.2.2.2.2.2.2.2.2.2.2.1, .sl .no 2 (s1414.2.2.2.2.2.2.2.2.2.2.2.2.2.2.1.map api.Held.av), .str s1414.2.2.2.2.2.2.2.2.2.2.2.2.2.2.2.1, .i s1414.2.2.2.2.2.2.2.2.2.2.2.2.2.2.2.2.1, .bool s1414.2.2.2.2.2.2.2.2.2.2.2.2.2.2.2.2.2.1, .bool s1414.2.2.2.2.2.2.2.2.2.2.2.2.2.2.2.2.2.2]), (p1404, .cells (api.Conn.ct .no .no r1402.1)), (t1403, .spare), (v, .spare)]) ?_ ?_
      ·have h := s1414e
       refine aw_upd ?_
       obtain ⟨s1419, s1419e, h1420⟩ := letO_of h
       refine aw_meet (ν := Unit) (fun v => [(2, .ptr p736 0), (5, .ptr p741 0), (6, .ptr p742 0), (7, .str s1341.all_), (8, .i s1341.read), (10, .ptr p1346 0), (11, .ptr p1404 0), (12, .sl (.own t1403) 2 (r1402.2.1.map api.Request.av)), (13, .str r1402.2.2), (14, .str ([] : List UInt8)), (15, .sl .full 2 (([] : List api.Request).map api.Request.av)), (27, .sl .no 4 (l.map mewslaw43.Op.av)), (28, .i (l.length : Int)), (29, .i s1341.t29), (58, .bool s1419)]) (fun v => [(p736, .cells (api.Tenant.ct r739)), (p741, .cells [.i s1341.c, .i s1341.c2, .str s1341.c3, .sl .no 1 (s1341.c4.map AV.str), .i s1341.c5, .i s1341.c6, .bool s1341.c7, .i s1341.c8, .i s1341.c9, .i s1341.c10, .sl .no 2 (s1341.c11.map api.Held.av), .str s1341.c12, .i s1341.c13, .bool s1341.c14, .bool s1341.c15]), (p742, .cells [.i s1341.c16, .i s1341.c17, .str s1341.c18, .sl .no 1 (s1341.c19.map AV.str), .i s1341.c20, .i s1341.c21, .bool s1341.c22, .i s1341.c23, .i s1341.c24, .i s1341.c25, .sl .no 2 (s1341.c26.map api.Held.av), .str s1341.c27, .i s1341.c28, .bool s1341.c29, .bool s1341.c30]), (p1346, .cells (mewslaw43.Op.ct (ix l s1341.t29))), (p1404, .cells (api.Conn.ct .no .no r1402.1)), (t1403, .spare)]) ?_ ?_
       ·have h := s1419e.symm
        refine aw_region (xa (.ptr p742 13) Z (fa Z underlying56 Z sizeOf4 Z Z Z) (xc Z (op_load1 (i := 5) Z isAgg4 (tm Z) Z Z (xa (.bool (!s1341.c29)) Z (pu_not Z (tm Z)) (xm Z Z Z ?_)))))
        rcases Bool.eq_false_or_eq_true (!s1341.c29) with hb1422 | hb1422
        ·replace h := ite_t hb1422 h
         refine aops_known 54 Z hb1422 (xp (.ptr p742 14) Z Z (fa Z underlying56 Z sizeOf4 Z Z Z) (xg Z Z (op_load1 (i := 5) Z isAgg4 (tm Z) Z Z (xp (.bool (!s1341.c30)) Z Z (pu_not Z (tm Z)) (xa (.bool (!s1341.c30)) Z (pu_pick (b := true) Z (tm Z) (fun _ => (tm Z)) (fun h => nomatch h)) (xe ?_))))))
         subst h
         exact ⟨(), Weak.mkL [3, 4, 5, 2, 0, 1] (by decide) ⟨⟨_, Z, cr, Z⟩, ⟨_, Z, cr, Z⟩, ⟨_, Z, cr, Z⟩, ⟨_, Z, cr, Z⟩, ⟨_, Z, cr, Z⟩, ⟨_, Z, Z⟩, trivial⟩ ⟨tm Z, tm Z, tm Z, tm Z, tm Z, tm Z, tm Z, tm Z, tm Z, tm Z, tm Z, tm Z, tm Z, tm Z, tm Z, trivial⟩⟩
        ·replace h := ite_fb hb1422 h
         refine aops_known 54 Z hb1422 (xn Z Z Z (xn Z Z Z (xn Z Z Z (xa (.bool false) Z (pu_pick (b := false) Z (tm Z) (fun h => nomatch h) (fun _ => (AEv.bool _))) (xe ?_)))))
         subst h
         exact ⟨(), Weak.mkL [3, 4, 5, 2, 0, 1] (by decide) ⟨⟨_, Z, cr, Z⟩, ⟨_, Z, cr, Z⟩, ⟨_, Z, cr, Z⟩, ⟨_, Z, cr, Z⟩, ⟨_, Z, cr, Z⟩, ⟨_, Z, Z⟩, trivial⟩ ⟨tm Z, tm Z, tm Z, tm Z, tm Z, tm Z, tm Z, tm Z, tm Z, tm Z, tm Z, tm Z, tm Z, tm Z, tm Z, trivial⟩⟩
       ·intro _
        have h := h1420
        refine aw_cond (b := s1419) (tm Z) (fun hb1427 => ?_) (fun hb1427 => ?_)
        ·replace h := ite_t hb1427 h
         refine xr (xm Z Z Z (xa (.ptr p1346 1) Z (fa Z underlying59 Z sizeOf9 Z Z Z) (xc Z (op_load1 (i := 3) Z isAgg9 (tm Z) Z Z ?_))))
         obtain ⟨c1423, h⟩ := need_of h
         refine xa (.str (s1341.all_ ++ (ix l s1341.t29).S)) Z (pu_strAdd Z (tm Z) (tm Z) c1423) (xm Z Z Z (xe (xr (xc Z (op_loadN (i := 2) Z isAgg56 sizeOf56 (tm Z) Z (nb Z) Z (xm Z Z Z (xm Z Z Z (xc Z (op_loadN (i := 0) Z isAgg53 sizeOf53 (tm Z) Z (nb Z) Z ?_)))))))))
         obtain ⟨r1424, r1424e, h⟩ := bind_some h
         refine xc Z (op_call (vs := [.agg [.i s1341.c16, .i s1341.c17, .str s1341.c18, .sl .no 1 (s1341.c19.map AV.str), .i s1341.c20, .i s1341.c21, .bool s1341.c22, .i s1341.c23, .i s1341.c24, .i s1341.c25, .sl .no 2 (s1341.c26.map api.Held.av), .str s1341.c27, .i s1341.c28, .bool s1341.c29, .bool s1341.c30], .str (s1341.all_ ++ (ix l s1341.t29).S), .i s1341.read, .agg (api.Tenant.ct r739)]) (H := []) Z call33 ⟨(tm Z), (tm Z), (tm Z), (tm Z), trivial⟩ (List.Perm.refl _) (mewsref43.Read.ok r1424e) ?_)
         rintro _ _ ⟨t1425, rfl, rfl⟩
         refine xm Z Z Z (xa (.agg (api.Conn.ct .no .no r1424.1)) Z (pu_extract Z (tm Z) (nb Z) Z) (xa (.sl (.own t1425) 2 (r1424.2.1.map api.Request.av)) Z (pu_extract Z (tm Z) (nb Z) Z) (xa (.str r1424.2.2) Z (pu_extract Z (tm Z) (nb Z) Z) (ac0 Z Z (op_store (i := 3) (cs' := (api.Conn.ct .no .no r1424.1)) Z sizeOf56 (tm Z) (v := .agg (api.Conn.ct .no .no r1424.1)) (tm Z) Z Z Z (nb Z) Z (xm Z Z Z (xm Z Z Z (xe (aw_region (xm Z Z Z ?_))))))))))
         refine xm Z Z Z (xa (.i (r1424.2.1.length : Int)) Z (pu_lenM Z underlying30 (tm Z)) (xa (.i (IntKind.wrap .i64 (s1341.read + (r1424.2.1.length : Int)))) Z (pu_int (v := .i (IntKind.wrap .i64 (s1341.read + (r1424.2.1.length : Int)))) Z Z (tm Z) (tm Z) Z) (xm Z Z Z (xe (upd_done ?_)))))
         obtain rfl := some_of h
         exact ⟨t1425, Weak.mkL [1, 2, 3, 5, 6, 0] (by decide) ⟨⟨_, Z, cr, Z⟩, ⟨_, Z, cr, Z⟩, ⟨_, Z, cr, Z⟩, ⟨_, Z, cr, Z⟩, ⟨_, Z, Z⟩, ⟨_, Z, Z⟩, trivial⟩ ⟨tm Z, tm Z, tm Z, (AEv.le (tm Z) vr), (AEv.le (tm Z) vr), tm Z, tm Z, tm Z, tm Z, tm Z, tm Z, tm Z, tm Z, trivial⟩⟩
        ·replace h := ite_fb hb1427 h
         refine aw_skip (upd_claim 15 (tm Z) fun t1426 => (upd_done ?_))
         obtain rfl := some_of h
         exact ⟨t1426, Weak.mkL [1, 2, 3, 5, 6, 0] (by decide) ⟨⟨_, Z, cr, Z⟩, ⟨_, Z, cr, Z⟩, ⟨_, Z, cr, Z⟩, ⟨_, Z, cr, Z⟩, ⟨_, Z, Z⟩, ⟨_, Z, Z⟩, trivial⟩ ⟨tm Z, tm Z, tm Z, tm Z, tm Z, tm Z, tm Z, tm Z, tm Z, tm Z, tm Z, tm Z, tm Z, trivial⟩⟩
      ·intro n1415
       have h := h1416
       refine xr (xc Z (op_loadN (i := 3) Z isAgg56 sizeOf56 (tm Z) Z (nb Z) Z (ac0 Z Z (op_store (i := 1) (cs' := (api.Conn.ct .no .no r1402.1)) Z sizeOf56 (tm Z) (v := .agg (api.Conn.ct .no .no r1402.1)) (tm Z) Z Z Z (nb Z) Z (xe ?_)))))
       obtain ⟨s1430, s1430e, h1431⟩ := bind_some h
       refine aw_meet (ν := Unit) (fun v => [(2, .ptr p736 0), (5, .ptr p741 0), (6, .ptr p742 0), (7, .str s1414.1), (8, .i s1414.2.1), (27, .sl .no 4 (l.map mewslaw43.Op.av)), (28, .i (l.length : Int)), (29, .i s1341.t29), (85, .bool s1430)]) (fun v => [(p736, .cells (api.Tenant.ct r739)), (p741, .cells (api.Conn.ct .no .no r1402.1)), (p742, .cells [.i s1414.2.2.2.2.1, .i s1414.2.2.2.2.2.1, .str s1414.2.2.2.2.2.2.1, .sl .no 1 (s1414.2.2.2.2.2.2.2.1.map AV.str), .i s1414.2.2.2.2.2.2.2.2.1, .i s1414.2.2.2.2.2.2.2.2.2.1, .bool s1414.2.2.2.2.2.2.2.2.2.2.1, .i s1414.2.2.2.2.2.2.2.2.2.2.2.1, .i s1414.2.2.2.2.2.2.2.2.2.2.2.2.1, .i s1414.2.2.2.2.2.2.2.2.2.2.2.2.2.1, .sl .no 2 (s1414.2.2.2.2.2.2.2.2.2.2.2.2.2.2.1.map api.Held.av), .str s1414.2.2.2.2.2.2.2.2.2.2.2.2.2.2.2.1, .i s1414.2.2.2.2.2.2.2.2.2.2.2.2.2.2.2.2.1, .bool s1414.2.2.2.2.2.2.2.2.2.2.2.2.2.2.2.2.2.1, .bool s1414.2.2.2.2.2.2.2.2.2.2.2.2.2.2.2.2.2.2])]) ?_ ?_
       ·have h := s1430e
        refine aw_region (xm Z Z Z (xm Z Z Z (xa (.bool (!decide (r1402.2.2 = s1414.2.2.1))) Z (pu_str (v := .bool (!decide (r1402.2.2 = s1414.2.2.1))) Z Z (tm Z) (tm Z) Z) (xm Z Z Z ?_))))
        rcases Bool.eq_false_or_eq_true (!decide (r1402.2.2 = s1414.2.2.1)) with hb1433 | hb1433
        ·replace h := ite_f (ndec_t hb1433) h
         refine aops_known 80 Z hb1433 (xn Z Z Z (xn Z Z Z (xn Z Z Z (xn Z Z Z (xa (.bool true) Z (pu_pick (b := true) Z (tm Z) (fun _ => (AEv.bool _)) (fun h => nomatch h)) (xe ?_))))))
         obtain rfl := some_of h
         exact ⟨(), Weak.mkL [0, 1, 2] (by decide) ⟨⟨_, Z, cr, Z⟩, ⟨_, Z, cr, Z⟩, ⟨_, Z, cr, Z⟩, trivial⟩ ⟨tm Z, tm Z, tm Z, tm Z, tm Z, tm Z, tm Z, tm Z, tm Z, trivial⟩⟩
        ·replace h := ite_t (ndec_f hb1433) h
         refine aops_known 80 Z hb1433 (xq Z Z Z Z (xq Z Z Z Z ?_))
         obtain ⟨r1434, r1434e, h⟩ := bind_some h
         refine xg Z Z (op_call (vs := [.sl .no 2 (r1402.2.1.map api.Request.av), .sl .no 2 (s1414.2.2.2.1.map api.Request.av)]) (H := []) Z call18 ⟨(AEv.le (tm Z) (AV.Le.forget _ _ _)), (AEv.le (tm Z) (AV.Le.forget _ _ _)), trivial⟩ (List.Perm.refl _) (mewsref05.Same.ok r1434e) ?_)
         rintro _ _ ⟨rfl, rfl⟩
         refine xp (.bool (!r1434)) Z Z (pu_not Z (tm Z)) (xa (.bool (!r1434)) Z (pu_pick (b := false) Z (tm Z) (fun h => nomatch h) (fun _ => (tm Z))) (xe ?_))
         obtain rfl := some_of h
         exact ⟨(), Weak.mkL [0, 1, 2] (by decide) ⟨⟨_, Z, cr, Z⟩, ⟨_, Z, cr, Z⟩, ⟨_, Z, cr, Z⟩, trivial⟩ ⟨tm Z, tm Z, tm Z, tm Z, tm Z, tm Z, tm Z, tm Z, tm Z, trivial⟩⟩
       ·intro _
        have h := h1431
        refine aw_cond (b := s1430) (tm Z) (fun hb1435 => ?_) (fun hb1435 => ?_)
        ·replace h := ite_t hb1435 h
         refine xr (xa (.bool false) Z (pu_assign Z (AEv.bool _)) (xe (aw_ret ?_)))
         obtain rfl := some_of h
         have h := onSum_inr h1400
         obtain rfl := some_of h
         have h := congrArg some (hx1342 _ rfl)
         obtain rfl := some_of h
         have h := onSum_inr h1105
         obtain rfl := some_of h
         exact ⟨[.bool false], _, [], ⟨(tm Z), trivial⟩, vr, Weak.mkL [] (by decide) trivial trivial, ⟨Z, Z⟩⟩
        ·replace h := ite_fb hb1435 h
         refine aw_skip ?_
         exact ⟨(s1414.1, s1414.2.1, r1402.1.Born, r1402.1.Tenant, r1402.1.In.Rest, r1402.1.In.Args, r1402.1.In.Left, r1402.1.In.Size, r1402.1.In.Body, r1402.1.In.Need, r1402.1.In.Dead, r1402.1.Asked, r1402.1.Held, r1402.1.Out, r1402.1.Taken, r1402.1.Shut, r1402.1.Closed, s1414.2.2.2.2.1, s1414.2.2.2.2.2.1, s1414.2.2.2.2.2.2.1, s1414.2.2.2.2.2.2.2.1, s1414.2.2.2.2.2.2.2.2.1, s1414.2.2.2.2.2.2.2.2.2.1, s1414.2.2.2.2.2.2.2.2.2.2.1, s1414.2.2.2.2.2.2.2.2.2.2.2.1, s1414.2.2.2.2.2.2.2.2.2.2.2.2.1, s1414.2.2.2.2.2.2.2.2.2.2.2.2.2.1, s1414.2.2.2.2.2.2.2.2.2.2.2.2.2.2.1, s1414.2.2.2.2.2.2.2.2.2.2.2.2.2.2.2.1, s1414.2.2.2.2.2.2.2.2.2.2.2.2.2.2.2.2.1, s1414.2.2.2.2.2.2.2.2.2.2.2.2.2.2.2.2.2.1, s1414.2.2.2.2.2.2.2.2.2.2.2.2.2.2.2.2.2.2), (), (some_of h).symm, Weak.mkL [0, 1, 2] (by decide) ⟨⟨_, Z, cr, Z⟩, ⟨_, Z, cr, Z⟩, ⟨_, Z, cr, Z⟩, trivial⟩ ⟨tm Z, tm Z, tm Z, tm Z, tm Z, tm Z, tm Z, tm Z, trivial⟩⟩
     ·replace h := ite_f (dec_f hb1453) h
      refine xr (xa (.bool (decide ((ix l s1341.t29).Kind = 1))) Z (pu_int (v := .bool (decide ((ix l s1341.t29).Kind = 1))) Z Z (tm Z) (AEv.int _ _) Z) (xm Z Z Z (xe (aw_cond (b := decide ((ix l s1341.t29).Kind = 1)) (tm Z) (fun hb1452 => ?_) (fun hb1452 => ?_)))))
      ·replace h := ite_t (dec_t hb1452) h
       refine xr (xc Z (op_loadN (i := 2) Z isAgg56 sizeOf56 (tm Z) Z (nb Z) Z (xa (.ptr p1346 2) Z (fa Z underlying59 Z sizeOf3 Z Z Z) (xc Z (op_load1 (i := 0) Z isAgg3 (tm Z) Z Z ?_)))))
       obtain ⟨r1436, r1436e, h⟩ := bind_some h
       refine xc Z (op_call (vs := [.agg [.i s1341.c, .i s1341.c2, .str s1341.c3, .sl .no 1 (s1341.c4.map AV.str), .i s1341.c5, .i s1341.c6, .bool s1341.c7, .i s1341.c8, .i s1341.c9, .i s1341.c10, .sl .no 2 (s1341.c11.map api.Held.av), .str s1341.c12, .i s1341.c13, .bool s1341.c14, .bool s1341.c15], .i (ix l s1341.t29).N]) (H := []) Z call34 ⟨(tm Z), (tm Z), trivial⟩ (List.Perm.refl _) (conn.Done.ok r1436e) ?_)
       rintro _ _ ⟨rfl, rfl⟩
       refine ac0 Z Z (op_store (i := 2) (cs' := (api.Conn.ct .no .no r1436)) Z sizeOf56 (tm Z) (v := .agg (api.Conn.ct .no .no r1436)) (tm Z) Z Z Z (nb Z) Z (xe (aw_region (xa (.ptr p742 9) Z (fa Z underlying56 Z sizeOf3 Z Z Z) (xc Z (op_load1 (i := 3) Z isAgg3 (tm Z) Z Z (xa (.ptr p1346 2) Z (fa Z underlying59 Z sizeOf3 Z Z Z) (xc Z (op_load1 (i := 0) Z isAgg3 (tm Z) Z Z (xa (.i (if 0 < (ix l s1341.t29).N then (ix l s1341.t29).N else 0)) Z (pu_max2 Z (AEv.int _ _) (tm Z)) (xa (.i (IntKind.wrap .i64 (s1341.c25 - (if 0 < (ix l s1341.t29).N then (ix l s1341.t29).N else 0)))) Z (pu_int (v := .i (IntKind.wrap .i64 (s1341.c25 - (if 0 < (ix l s1341.t29).N then (ix l s1341.t29).N else 0)))) Z Z (tm Z) (tm Z) Z) (xa (.i (if 0 < (IntKind.wrap .i64 (s1341.c25 - (if 0 < (ix l s1341.t29).N then (ix l s1341.t29).N else 0))) then (IntKind.wrap .i64 (s1341.c25 - (if 0 < (ix l s1341.t29).N then (ix l s1341.t29).N else 0))) else 0)) Z (pu_max2 Z (AEv.int _ _) (tm Z)) ?_))))))))))))
       refine xa (.ptr p742 9) Z (fa Z underlying56 Z sizeOf3 Z Z Z) (ac0 Z Z (op_store (i := 3) (cs' := [.i s1341.c16, .i s1341.c17, .str s1341.c18, .sl .no 1 (s1341.c19.map AV.str), .i s1341.c20, .i s1341.c21, .bool s1341.c22, .i s1341.c23, .i s1341.c24, .i (if 0 < (IntKind.wrap .i64 (s1341.c25 - (if 0 < (ix l s1341.t29).N then (ix l s1341.t29).N else 0))) then (IntKind.wrap .i64 (s1341.c25 - (if 0 < (ix l s1341.t29).N then (ix l s1341.t29).N else 0))) else 0), .sl .no 2 (s1341.c26.map api.Held.av), .str s1341.c27, .i s1341.c28, .bool s1341.c29, .bool s1341.c30]) Z sizeOf3 (tm Z) (v := .i (if 0 < (IntKind.wrap .i64 (s1341.c25 - (if 0 < (ix l s1341.t29).N then (ix l s1341.t29).N else 0))) then (IntKind.wrap .i64 (s1341.c25 - (if 0 < (ix l s1341.t29).N then (ix l s1341.t29).N else 0))) else 0)) (tm Z) Z Z Z (nb Z) Z (xe ?_)))
       exact ⟨(s1341.all_, s1341.read, r1436.Born, r1436.Tenant, r1436.In.Rest, r1436.In.Args, r1436.In.Left, r1436.In.Size, r1436.In.Body, r1436.In.Need, r1436.In.Dead, r1436.Asked, r1436.Held, r1436.Out, r1436.Taken, r1436.Shut, r1436.Closed, s1341.c16, s1341.c17, s1341.c18, s1341.c19, s1341.c20, s1341.c21, s1341.c22, s1341.c23, s1341.c24, if 0 < (IntKind.wrap .i64 (s1341.c25 - (if 0 < (ix l s1341.t29).N then (ix l s1341.t29).N else 0))) then (IntKind.wrap .i64 (s1341.c25 - (if 0 < (ix l s1341.t29).N then (ix l s1341.t29).N else 0))) else 0, s1341.c26, s1341.c27, s1341.c28, s1341.c29, s1341.c30), (), (some_of h).symm, Weak.mkL [1, 2, 3] (by decide) ⟨⟨_, Z, cr, Z⟩, ⟨_, Z, cr, Z⟩, ⟨_, Z, ⟨vr, vr, vr, vr, vr, vr, vr, vr, vr, vr, vr, vr, vr, vr, vr, trivial⟩, Z⟩, trivial⟩ ⟨tm Z, tm Z, tm Z, tm Z, tm Z, tm Z, tm Z, tm Z, trivial⟩⟩
      ·replace h := ite_f (dec_f hb1452) h
       refine xr (xa (.bool (decide ((ix l s1341.t29).Kind = 2))) Z (pu_int (v := .bool (decide ((ix l s1341.t29).Kind = 2))) Z Z (tm Z) (AEv.int _ _) Z) (xm Z Z Z (xe (aw_cond (b := decide ((ix l s1341.t29).Kind = 2)) (tm Z) (fun hb1451 => ?_) (fun hb1451 => ?_)))))
       ·replace h := ite_t (dec_t hb1451) h
        obtain ⟨r1437, r1437e, h⟩ := bind_some h
        obtain ⟨r1438, r1438e, h⟩ := bind_some h
        refine aw_planR (by decide +kernel) [[(2, 0, false)], [], [(0, 0, false)], [], [(0, 0, false)], [], [(0, 0, false)], [(1, 0, false)], [], [(3, 0, false)], [], [(0, 0, false)], [], [(0, 0, false)], [], [(0, 0, false)], [(1, 0, false)], [], [(2, 0, true)], [(3, 0, true)]] [[], [], [18], [19]] [[[(p1346, .cells (mewslaw43.Op.ct (ix l s1341.t29)))]], [[(p736, .cells (api.Tenant.ct r739))]], [[(p741, .cells [.i s1341.c, .i s1341.c2, .str s1341.c3, .sl .no 1 (s1341.c4.map AV.str), .i s1341.c5, .i s1341.c6, .bool s1341.c7, .i s1341.c8, .i s1341.c9, .i s1341.c10, .sl .no 2 (s1341.c11.map api.Held.av), .str s1341.c12, .i s1341.c13, .bool s1341.c14, .bool s1341.c15])], [(p741, .cells (api.Conn.ct .no .no r1437))]], [[(p742, .cells [.i s1341.c16, .i s1341.c17, .str s1341.c18, .sl .no 1 (s1341.c19.map AV.str), .i s1341.c20, .i s1341.c21, .bool s1341.c22, .i s1341.c23, .i s1341.c24, .i s1341.c25, .sl .no 2 (s1341.c26.map api.Held.av), .str s1341.c27, .i s1341.c28, .bool s1341.c29, .bool s1341.c30])], [(p742, .cells (api.Conn.ct .no .no r1438))]]] [.agg [.i s1341.c, .i s1341.c2, .str s1341.c3, .sl .no 1 (s1341.c4.map AV.str), .i s1341.c5, .i s1341.c6, .bool s1341.c7, .i s1341.c8, .i s1341.c9, .i s1341.c10, .sl .no 2 (s1341.c11.map api.Held.av), .str s1341.c12, .i s1341.c13, .bool s1341.c14, .bool s1341.c15], .ptr p1346 1, .str (ix l s1341.t29).S, .ptr p1346 2, .i (ix l s1341.t29).N, .ptr p1346 3, .i (ix l s1341.t29).M, .agg (api.Tenant.ct r739), .agg (api.Conn.ct .no .no r1437), .agg [.i s1341.c16, .i s1341.c17, .str s1341.c18, .sl .no 1 (s1341.c19.map AV.str), .i s1341.c20, .i s1341.c21, .bool s1341.c22, .i s1341.c23, .i s1341.c24, .i s1341.c25, .sl .no 2 (s1341.c26.map api.Held.av), .str s1341.c27, .i s1341.c28, .bool s1341.c29, .bool s1341.c30], .ptr p1346 1, .str (ix l s1341.t29).S, .ptr p1346 2, .i (ix l s1341.t29).N, .ptr p1346 3, .i (ix l s1341.t29).M, .agg (api.Tenant.ct r739), .agg (api.Conn.ct .no .no r1438), .un, .un] (by decide +kernel) Z Z ?_ ?_
        ·exact ⟨stepg_plain Z (op_loadN (i := 0) Z isAgg56 sizeOf56 (tm Z) Z (nb Z) Z ⟨Z, Z⟩), yp Z (fa Z underlying59 Z sizeOf9 Z Z Z), stepg_plain Z (op_load1 (i := 0) Z isAgg9 (tm Z) Z Z ⟨Z, Z⟩), yp Z (fa Z underlying59 Z sizeOf3 Z Z Z), stepg_plain Z (op_load1 (i := 0) Z isAgg3 (tm Z) Z Z ⟨Z, Z⟩), yp Z (fa Z underlying59 Z sizeOf3 Z Z Z), stepg_plain Z (op_load1 (i := 0) Z isAgg3 (tm Z) Z Z ⟨Z, Z⟩), stepg_plain Z (op_loadN (i := 0) Z isAgg53 sizeOf53 (tm Z) Z (nb Z) Z ⟨Z, Z⟩), stepg_plain Z (op_call (vs := [.agg [.i s1341.c, .i s1341.c2, .str s1341.c3, .sl .no 1 (s1341.c4.map AV.str), .i s1341.c5, .i s1341.c6, .bool s1341.c7, .i s1341.c8, .i s1341.c9, .i s1341.c10, .sl .no 2 (s1341.c11.map api.Held.av), .str s1341.c12, .i s1341.c13, .bool s1341.c14, .bool s1341.c15], .str (ix l s1341.t29).S, .i (ix l s1341.t29).N, .i (ix l s1341.t29).M, .agg (api.Tenant.ct r739)]) (H := []) Z call27 ⟨(tm Z), (tm Z), (tm Z), (tm Z), (tm Z), trivial⟩ (R := []) (List.Perm.refl _) (conn.Say.ok r1437e) (by rintro _ _ ⟨rfl, rfl⟩; exact ⟨Z, Z⟩)), stepg_plain Z (op_loadN (i := 0) Z isAgg56 sizeOf56 (tm Z) Z (nb Z) Z ⟨Z, Z⟩), yp Z (fa Z underlying59 Z sizeOf9 Z Z Z), stepg_plain Z (op_load1 (i := 0) Z isAgg9 (tm Z) Z Z ⟨Z, Z⟩), yp Z (fa Z underlying59 Z sizeOf3 Z Z Z), stepg_plain Z (op_load1 (i := 0) Z isAgg3 (tm Z) Z Z ⟨Z, Z⟩), yp Z (fa Z underlying59 Z sizeOf3 Z Z Z), stepg_plain Z (op_load1 (i := 0) Z isAgg3 (tm Z) Z Z ⟨Z, Z⟩), stepg_plain Z (op_loadN (i := 0) Z isAgg53 sizeOf53 (tm Z) Z (nb Z) Z ⟨Z, Z⟩), stepg_plain Z (op_call (vs := [.agg [.i s1341.c16, .i s1341.c17, .str s1341.c18, .sl .no 1 (s1341.c19.map AV.str), .i s1341.c20, .i s1341.c21, .bool s1341.c22, .i s1341.c23, .i s1341.c24, .i s1341.c25, .sl .no 2 (s1341.c26.map api.Held.av), .str s1341.c27, .i s1341.c28, .bool s1341.c29, .bool s1341.c30], .str (ix l s1341.t29).S, .i (ix l s1341.t29).N, .i (ix l s1341.t29).M, .agg (api.Tenant.ct r739)]) (H := []) Z call35 ⟨(tm Z), (tm Z), (tm Z), (tm Z), (tm Z), trivial⟩ (R := []) (List.Perm.refl _) (mewsref43.Say.ok r1438e) (by rintro _ _ ⟨rfl, rfl⟩; exact ⟨Z, Z⟩)), stepg_plain Z (op_store (i := 0) (cs' := (api.Conn.ct .no .no r1437)) Z sizeOf56 (tm Z) (v := .agg (api.Conn.ct .no .no r1437)) (tm Z) Z Z Z (nb Z) Z ⟨Z, Z⟩), stepg_plain Z (op_store (i := 0) (cs' := (api.Conn.ct .no .no r1438)) Z sizeOf56 (tm Z) (v := .agg (api.Conn.ct .no .no r1438)) (tm Z) Z Z Z (nb Z) Z ⟨Z, Z⟩), trivial⟩
        exact ⟨(s1341.all_, s1341.read, r1437.Born, r1437.Tenant, r1437.In.Rest, r1437.In.Args, r1437.In.Left, r1437.In.Size, r1437.In.Body, r1437.In.Need, r1437.In.Dead, r1437.Asked, r1437.Held, r1437.Out, r1437.Taken, r1437.Shut, r1437.Closed, r1438.Born, r1438.Tenant, r1438.In.Rest, r1438.In.Args, r1438.In.Left, r1438.In.Size, r1438.In.Body, r1438.In.Need, r1438.In.Dead, r1438.Asked, r1438.Held, r1438.Out, r1438.Taken, r1438.Shut, r1438.Closed), (), (some_of h).symm, Weak.mkL [1, 2, 3] (by decide) ⟨⟨_, Z, cr, Z⟩, ⟨_, Z, cr, Z⟩, ⟨_, Z, cr, Z⟩, trivial⟩ ⟨tm Z, tm Z, tm Z, tm Z, tm Z, tm Z, tm Z, tm Z, trivial⟩⟩
       ·replace h := ite_f (dec_f hb1451) h
        refine xr (xa (.bool (decide ((ix l s1341.t29).Kind = 3))) Z (pu_int (v := .bool (decide ((ix l s1341.t29).Kind = 3))) Z Z (tm Z) (AEv.int _ _) Z) (xm Z Z Z (xe (aw_cond (b := decide ((ix l s1341.t29).Kind = 3)) (tm Z) (fun hb1450 => ?_) (fun hb1450 => ?_)))))
        ·replace h := ite_t (dec_t hb1450) h
         obtain ⟨r1439, r1439e, h⟩ := bind_some h
         obtain ⟨r1440, r1440e, h⟩ := bind_some h
         refine aw_planR (by decide +kernel) [[(2, 0, false)], [], [(0, 0, false)], [], [(3, 0, false)], [], [(0, 0, false)], [], [(2, 0, true)], [(3, 0, true)]] [[], [], [8], [9]] [[[(p1346, .cells (mewslaw43.Op.ct (ix l s1341.t29)))]], [[(p736, .cells (api.Tenant.ct r739))]], [[(p741, .cells [.i s1341.c, .i s1341.c2, .str s1341.c3, .sl .no 1 (s1341.c4.map AV.str), .i s1341.c5, .i s1341.c6, .bool s1341.c7, .i s1341.c8, .i s1341.c9, .i s1341.c10, .sl .no 2 (s1341.c11.map api.Held.av), .str s1341.c12, .i s1341.c13, .bool s1341.c14, .bool s1341.c15])], [(p741, .cells (api.Conn.ct .no .no r1439))]], [[(p742, .cells [.i s1341.c16, .i s1341.c17, .str s1341.c18, .sl .no 1 (s1341.c19.map AV.str), .i s1341.c20, .i s1341.c21, .bool s1341.c22, .i s1341.c23, .i s1341.c24, .i s1341.c25, .sl .no 2 (s1341.c26.map api.Held.av), .str s1341.c27, .i s1341.c28, .bool s1341.c29, .bool s1341.c30])], [(p742, .cells (api.Conn.ct .no .no r1440))]]] [.agg [.i s1341.c, .i s1341.c2, .str s1341.c3, .sl .no 1 (s1341.c4.map AV.str), .i s1341.c5, .i s1341.c6, .bool s1341.c7, .i s1341.c8, .i s1341.c9, .i s1341.c10, .sl .no 2 (s1341.c11.map api.Held.av), .str s1341.c12, .i s1341.c13, .bool s1341.c14, .bool s1341.c15], .ptr p1346 3, .i (ix l s1341.t29).M, .agg (api.Conn.ct .no .no r1439), .agg [.i s1341.c16, .i s1341.c17, .str s1341.c18, .sl .no 1 (s1341.c19.map AV.str), .i s1341.c20, .i s1341.c21, .bool s1341.c22, .i s1341.c23, .i s1341.c24, .i s1341.c25, .sl .no 2 (s1341.c26.map api.Held.av), .str s1341.c27, .i s1341.c28, .bool s1341.c29, .bool s1341.c30], .ptr p1346 3, .i (ix l s1341.t29).M, .agg (api.Conn.ct .no .no r1440), .un, .un] (by decide +kernel) Z Z ?_ ?_
         ·exact ⟨stepg_plain Z (op_loadN (i := 0) Z isAgg56 sizeOf56 (tm Z) Z (nb Z) Z ⟨Z, Z⟩), yp Z (fa Z underlying59 Z sizeOf3 Z Z Z), stepg_plain Z (op_load1 (i := 0) Z isAgg3 (tm Z) Z Z ⟨Z, Z⟩), stepg_plain Z (aop_forget (.agg (api.Conn.ct .no .no r1439)) [] (op_call (vs := [.agg [.i s1341.c, .i s1341.c2, .str s1341.c3, .sl .no 1 (s1341.c4.map AV.str), .i s1341.c5, .i s1341.c6, .bool s1341.c7, .i s1341.c8, .i s1341.c9, .i s1341.c10, .sl .no 2 (s1341.c11.map api.Held.av), .str s1341.c12, .i s1341.c13, .bool s1341.c14, .bool s1341.c15], .i (ix l s1341.t29).M]) (H := []) Z call28 ⟨(tm Z), (tm Z), trivial⟩ (R := []) (List.Perm.refl _) (conn.Free.ok r1439e) (by rintro _ _ ⟨_, rfl, rfl⟩; exact ⟨([] : List Nat), _, Z, Z, (AV.Le.agg ⟨vr, vr, vr, vr, vr, vr, vr, vr, vr, vr, (AV.Le.forget _ _ _), vr, vr, vr, vr, trivial⟩), List.nodup_nil, Z⟩)) ⟨Z, Z⟩), stepg_plain Z (op_loadN (i := 0) Z isAgg56 sizeOf56 (tm Z) Z (nb Z) Z ⟨Z, Z⟩), yp Z (fa Z underlying59 Z sizeOf3 Z Z Z), stepg_plain Z (op_load1 (i := 0) Z isAgg3 (tm Z) Z Z ⟨Z, Z⟩), stepg_plain Z (op_call (vs := [.agg [.i s1341.c16, .i s1341.c17, .str s1341.c18, .sl .no 1 (s1341.c19.map AV.str), .i s1341.c20, .i s1341.c21, .bool s1341.c22, .i s1341.c23, .i s1341.c24, .i s1341.c25, .sl .no 2 (s1341.c26.map api.Held.av), .str s1341.c27, .i s1341.c28, .bool s1341.c29, .bool s1341.c30], .i (ix l s1341.t29).M]) (H := []) Z call36 ⟨(tm Z), (tm Z), trivial⟩ (R := []) (List.Perm.refl _) (mewsref43.Free.ok r1440e) (by rintro _ _ ⟨rfl, rfl⟩; exact ⟨Z, Z⟩)), stepg_plain Z (op_store (i := 0) (cs' := (api.Conn.ct .no .no r1439)) Z sizeOf56 (tm Z) (v := .agg (api.Conn.ct .no .no r1439)) (tm Z) Z Z Z (nb Z) Z ⟨Z, Z⟩), stepg_plain Z (op_store (i := 0) (cs' := (api.Conn.ct .no .no r1440)) Z sizeOf56 (tm Z) (v := .agg (api.Conn.ct .no .no r1440)) (tm Z) Z Z Z (nb Z) Z ⟨Z, Z⟩), trivial⟩
         exact ⟨(s1341.all_, s1341.read, r1439.Born, r1439.Tenant, r1439.In.Rest, r1439.In.Args, r1439.In.Left, r1439.In.Size, r1439.In.Body, r1439.In.Need, r1439.In.Dead, r1439.Asked, r1439.Held, r1439.Out, r1439.Taken, r1439.Shut, r1439.Closed, r1440.Born, r1440.Tenant, r1440.In.Rest, r1440.In.Args, r1440.In.Left, r1440.In.Size, r1440.In.Body, r1440.In.Need, r1440.In.Dead, r1440.Asked, r1440.Held, r1440.Out, r1440.Taken, r1440.Shut, r1440.Closed), (), (some_of h).symm, Weak.mkL [1, 2, 3] (by decide) ⟨⟨_, Z, cr, Z⟩, ⟨_, Z, cr, Z⟩, ⟨_, Z, cr, Z⟩, trivial⟩ ⟨tm Z, tm Z, tm Z, tm Z, tm Z, tm Z, tm Z, tm Z, trivial⟩⟩
        ·replace h := ite_f (dec_f hb1450) h
         refine xr (xa (.bool (decide ((ix l s1341.t29).Kind = 4))) Z (pu_int (v := .bool (decide ((ix l s1341.t29).Kind = 4))) Z Z (tm Z) (AEv.int _ _) Z) (xm Z Z Z (xe (aw_cond (b := decide ((ix l s1341.t29).Kind = 4)) (tm Z) (fun hb1449 => ?_) (fun hb1449 => ?_)))))
         ·replace h := ite_t (dec_t hb1449) h
          refine xr (xc Z (op_loadN (i := 2) Z isAgg56 sizeOf56 (tm Z) Z (nb Z) Z (xa (.ptr p1346 2) Z (fa Z underlying59 Z sizeOf3 Z Z Z) (xc Z (op_load1 (i := 0) Z isAgg3 (tm Z) Z Z ?_)))))
          obtain ⟨r1441, r1441e, h⟩ := bind_some h
          refine xc Z (op_call (vs := [.agg [.i s1341.c, .i s1341.c2, .str s1341.c3, .sl .no 1 (s1341.c4.map AV.str), .i s1341.c5, .i s1341.c6, .bool s1341.c7, .i s1341.c8, .i s1341.c9, .i s1341.c10, .sl .no 2 (s1341.c11.map api.Held.av), .str s1341.c12, .i s1341.c13, .bool s1341.c14, .bool s1341.c15], .i (ix l s1341.t29).N]) (H := []) Z call29 ⟨(tm Z), (tm Z), trivial⟩ (List.Perm.refl _) (conn.Take.ok r1441e) ?_)
          rintro _ _ ⟨rfl, rfl⟩
          refine xm Z Z Z (xa (.agg (api.Conn.ct .no .no r1441.1)) Z (pu_extract Z (tm Z) (nb Z) Z) (xa (.str r1441.2) Z (pu_extract Z (tm Z) (nb Z) Z) (xc Z (op_alloc (cs := [.i 0, .i 0, .str ([] : List UInt8), .sl .full 1 (([] : List (List UInt8)).map AV.str), .i 0, .i 0, .bool false, .i 0, .i 0, .i 0, .sl .full 2 (([] : List api.Held).map api.Held.av), .str ([] : List UInt8), .i 0, .bool false, .bool false]) (v := .agg [.i 0, .i 0, .str ([] : List UInt8), .sl .full 1 (([] : List (List UInt8)).map AV.str), .i 0, .i 0, .bool false, .i 0, .i 0, .i 0, .sl .full 2 (([] : List api.Held).map api.Held.av), .str ([] : List UInt8), .i 0, .bool false, .bool false]) Z zeroValue56 Z Z Z ?_))))
          intro p1442
          refine ac0 Z Z (op_store (i := 0) (cs' := (api.Conn.ct .no .no r1441.1)) Z sizeOf56 (tm Z) (v := .agg (api.Conn.ct .no .no r1441.1)) (tm Z) Z Z Z (nb Z) Z (xm Z Z Z (xe (xr (xc Z (op_loadN (i := 4) Z isAgg56 sizeOf56 (tm Z) Z (nb Z) Z (xa (.ptr p1346 2) Z (fa Z underlying59 Z sizeOf3 Z Z Z) (xc Z (op_load1 (i := 1) Z isAgg3 (tm Z) Z Z ?_)))))))))
          obtain ⟨r1443, r1443e, h⟩ := bind_some h
          refine xc Z (op_call (vs := [.agg [.i s1341.c16, .i s1341.c17, .str s1341.c18, .sl .no 1 (s1341.c19.map AV.str), .i s1341.c20, .i s1341.c21, .bool s1341.c22, .i s1341.c23, .i s1341.c24, .i s1341.c25, .sl .no 2 (s1341.c26.map api.Held.av), .str s1341.c27, .i s1341.c28, .bool s1341.c29, .bool s1341.c30], .i (ix l s1341.t29).N]) (H := []) Z call37 ⟨(tm Z), (tm Z), trivial⟩ (List.Perm.refl _) (mewsref43.Take.ok r1443e) ?_)
          rintro _ _ ⟨rfl, rfl⟩
          refine xm Z Z Z (xa (.agg (api.Conn.ct .no .no r1443.1)) Z (pu_extract Z (tm Z) (nb Z) Z) (xa (.str r1443.2) Z (pu_extract Z (tm Z) (nb Z) Z) (xc Z (op_alloc (cs := [.i 0, .i 0, .str ([] : List UInt8), .sl .full 1 (([] : List (List UInt8)).map AV.str), .i 0, .i 0, .bool false, .i 0, .i 0, .i 0, .sl .full 2 (([] : List api.Held).map api.Held.av), .str ([] : List UInt8), .i 0, .bool false, .bool false]) (v := .agg [.i 0, .i 0, .str ([] : List UInt8), .sl .full 1 (([] : List (List UInt8)).map AV.str), .i 0, .i 0, .bool false, .i 0, .i 0, .i 0, .sl .full 2 (([] : List api.Held).map api.Held.av), .str ([] : List UInt8), .i 0, .bool false, .bool false]) Z zeroValue56 Z Z Z ?_))))
          intro p1444
          refine ac0 Z Z (op_store (i := 0) (cs' := (api.Conn.ct .no .no r1443.1)) Z sizeOf56 (tm Z) (v := .agg (api.Conn.ct .no .no r1443.1)) (tm Z) Z Z Z (nb Z) Z (xm Z Z Z (xe (aw_seq (aw_planR (by decide +kernel) [[(1, 0, false)], [(0, 0, false)], [(4, 0, true)], [(5, 0, true)]] [[], [], [], [], [2], [3]] [[[(p1444, .cells (api.Conn.ct .no .no r1443.1))]], [[(p1442, .cells (api.Conn.ct .no .no r1441.1))]], [[(p1346, .cells (mewslaw43.Op.ct (ix l s1341.t29)))]], [[(p736, .cells (api.Tenant.ct r739))]], [[(p741, .cells [.i s1341.c, .i s1341.c2, .str s1341.c3, .sl .no 1 (s1341.c4.map AV.str), .i s1341.c5, .i s1341.c6, .bool s1341.c7, .i s1341.c8, .i s1341.c9, .i s1341.c10, .sl .no 2 (s1341.c11.map api.Held.av), .str s1341.c12, .i s1341.c13, .bool s1341.c14, .bool s1341.c15])], [(p741, .cells (api.Conn.ct .no .no r1441.1))]], [[(p742, .cells [.i s1341.c16, .i s1341.c17, .str s1341.c18, .sl .no 1 (s1341.c19.map AV.str), .i s1341.c20, .i s1341.c21, .bool s1341.c22, .i s1341.c23, .i s1341.c24, .i s1341.c25, .sl .no 2 (s1341.c26.map api.Held.av), .str s1341.c27, .i s1341.c28, .bool s1341.c29, .bool s1341.c30])], [(p742, .cells (api.Conn.ct .no .no r1443.1))]]] [.agg (api.Conn.ct .no .no r1441.1), .agg (api.Conn.ct .no .no r1443.1), .un, .un] (by decide +kernel) Z Z ?_ ?_)))))
          ·exact ⟨stepg_plain Z (op_loadN (i := 0) Z isAgg56 sizeOf56 (tm Z) Z (nb Z) Z ⟨Z, Z⟩), stepg_plain Z (op_loadN (i := 0) Z isAgg56 sizeOf56 (tm Z) Z (nb Z) Z ⟨Z, Z⟩), stepg_plain Z (op_store (i := 0) (cs' := (api.Conn.ct .no .no r1441.1)) Z sizeOf56 (tm Z) (v := .agg (api.Conn.ct .no .no r1441.1)) (tm Z) Z Z Z (nb Z) Z ⟨Z, Z⟩), stepg_plain Z (op_store (i := 0) (cs' := (api.Conn.ct .no .no r1443.1)) Z sizeOf56 (tm Z) (v := .agg (api.Conn.ct .no .no r1443.1)) (tm Z) Z Z Z (nb Z) Z ⟨Z, Z⟩), trivial⟩
          refine xr (xm Z Z Z (xm Z Z Z (xa (.bool (!decide (r1441.2 = r1443.2))) Z (pu_str (v := .bool (!decide (r1441.2 = r1443.2))) Z Z (tm Z) (tm Z) Z) (xe (aw_cond (b := (!decide (r1441.2 = r1443.2))) (tm Z) (fun hb1445 => ?_) (fun hb1445 => ?_))))))
          ·replace h := ite_f (ndec_t hb1445) h
           refine xr (xa (.bool false) Z (pu_assign Z (AEv.bool _)) (xe (aw_ret ?_)))
           obtain rfl := some_of h
           have h := onSum_inr h1400
           obtain rfl := some_of h
           have h := congrArg some (hx1342 _ rfl)
           obtain rfl := some_of h
           have h := onSum_inr h1105
           obtain rfl := some_of h
           exact ⟨[.bool false], _, [], ⟨(tm Z), trivial⟩, vr, Weak.mkL [] (by decide) trivial trivial, ⟨Z, Z⟩⟩
          ·replace h := ite_t (ndec_f hb1445) h
           refine aw_skip ?_
           exact ⟨(s1341.all_, s1341.read, r1441.1.Born, r1441.1.Tenant, r1441.1.In.Rest, r1441.1.In.Args, r1441.1.In.Left, r1441.1.In.Size, r1441.1.In.Body, r1441.1.In.Need, r1441.1.In.Dead, r1441.1.Asked, r1441.1.Held, r1441.1.Out, r1441.1.Taken, r1441.1.Shut, r1441.1.Closed, r1443.1.Born, r1443.1.Tenant, r1443.1.In.Rest, r1443.1.In.Args, r1443.1.In.Left, r1443.1.In.Size, r1443.1.In.Body, r1443.1.In.Need, r1443.1.In.Dead, r1443.1.Asked, r1443.1.Held, r1443.1.Out, r1443.1.Taken, r1443.1.Shut, r1443.1.Closed), (), (some_of h).symm, Weak.mkL [3, 4, 5] (by decide) ⟨⟨_, Z, cr, Z⟩, ⟨_, Z, cr, Z⟩, ⟨_, Z, cr, Z⟩, trivial⟩ ⟨tm Z, tm Z, tm Z, tm Z, tm Z, tm Z, tm Z, tm Z, trivial⟩⟩
         ·replace h := ite_f (dec_f hb1449) h
          refine xr (xc Z (op_loadN (i := 2) Z isAgg56 sizeOf56 (tm Z) Z (nb Z) Z ?_))
          obtain ⟨r1446, r1446e, h⟩ := bind_some h
          refine xc Z (op_call (vs := [.agg [.i s1341.c, .i s1341.c2, .str s1341.c3, .sl .no 1 (s1341.c4.map AV.str), .i s1341.c5, .i s1341.c6, .bool s1341.c7, .i s1341.c8, .i s1341.c9, .i s1341.c10, .sl .no 2 (s1341.c11.map api.Held.av), .str s1341.c12, .i s1341.c13, .bool s1341.c14, .bool s1341.c15]]) (H := []) Z call38 ⟨(tm Z), trivial⟩ (List.Perm.refl _) (conn.Shut.ok r1446e) ?_)
          rintro _ _ ⟨t1447, rfl, rfl⟩
          refine ac0 Z Z (op_store (i := 3) (cs' := (api.Conn.ct .no (.own t1447) r1446)) Z sizeOf56 (tm Z) (v := .agg (api.Conn.ct .no (.own t1447) r1446)) (tm Z) Z Z Z (nb Z) Z (xe (xr (xa (.ptr p742 13) Z (fa Z underlying56 Z sizeOf4 Z Z Z) (ac0 Z Z (op_store (i := 4) (cs' := [.i s1341.c16, .i s1341.c17, .str s1341.c18, .sl .no 1 (s1341.c19.map AV.str), .i s1341.c20, .i s1341.c21, .bool s1341.c22, .i s1341.c23, .i s1341.c24, .i s1341.c25, .sl .no 2 (s1341.c26.map api.Held.av), .str s1341.c27, .i s1341.c28, .bool true, .bool s1341.c30]) Z sizeOf4 (tm Z) (v := .bool true) (AEv.bool _) Z Z Z (nb Z) Z (xe (aw_region (xc Z (op_loadN (i := 4) Z isAgg56 sizeOf56 (tm Z) Z (nb Z) Z ?_))))))))))
          obtain ⟨r1448, r1448e, h⟩ := bind_some h
          refine xc Z (op_call (vs := [.agg [.i s1341.c16, .i s1341.c17, .str s1341.c18, .sl .no 1 (s1341.c19.map AV.str), .i s1341.c20, .i s1341.c21, .bool s1341.c22, .i s1341.c23, .i s1341.c24, .i s1341.c25, .sl .no 2 (s1341.c26.map api.Held.av), .str s1341.c27, .i s1341.c28, .bool true, .bool s1341.c30], .i (-1)]) (H := []) Z call36 ⟨(tm Z), (AEv.int _ _), trivial⟩ (List.Perm.refl _) (mewsref43.Free.ok r1448e) ?_)
          rintro _ _ ⟨rfl, rfl⟩
          refine ac0 Z Z (op_store (i := 4) (cs' := (api.Conn.ct .no .no r1448)) Z sizeOf56 (tm Z) (v := .agg (api.Conn.ct .no .no r1448)) (tm Z) Z Z Z (nb Z) Z (xe ?_))
          exact ⟨(s1341.all_, s1341.read, r1446.Born, r1446.Tenant, r1446.In.Rest, r1446.In.Args, r1446.In.Left, r1446.In.Size, r1446.In.Body, r1446.In.Need, r1446.In.Dead, r1446.Asked, r1446.Held, r1446.Out, r1446.Taken, r1446.Shut, r1446.Closed, r1448.Born, r1448.Tenant, r1448.In.Rest, r1448.In.Args, r1448.In.Left, r1448.In.Size, r1448.In.Body, r1448.In.Need, r1448.In.Dead, r1448.Asked, r1448.Held, r1448.Out, r1448.Taken, r1448.Shut, r1448.Closed), (), (some_of h).symm, Weak.mkL [2, 3, 4] (by decide) ⟨⟨_, Z, cr, Z⟩, ⟨_, Z, ⟨vr, vr, vr, vr, vr, vr, vr, vr, vr, vr, (AV.Le.forget _ _ _), vr, vr, vr, vr, trivial⟩, Z⟩, ⟨_, Z, cr, Z⟩, trivial⟩ ⟨tm Z, tm Z, tm Z, tm Z, tm Z, tm Z, tm Z, tm Z, trivial⟩⟩
   ·replace h := ite_f (dec_f hb1467) h
    refine aw_exit ?_
    obtain rfl := some_of h
    have h := congrArg some (hx1342 _ rfl)
    exact ⟨(), (), (some_of h).symm, Weak.mkL [] (by decide) trivial trivial⟩

end Go.Pu
