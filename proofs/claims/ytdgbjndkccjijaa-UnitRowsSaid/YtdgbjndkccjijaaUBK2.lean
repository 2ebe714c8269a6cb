/- Printed by lift.py: the functions come to them. -/
import Derived.Test.YtdgbjndkccjijaaLiftW
import Derived.Test.YtdgbjndkccjijaaUBK1
set_option maxRecDepth 100000
set_option maxHeartbeats 0
namespace Go.Pu
open Go.Lift Go.Proofs.Try Go.RowKit Go.Proofs

theorem parse.Feed.ok {in_ : api.Input} {b : List UInt8} {l : api.Limits} {r : api.Input × (List api.Request) × Int} (h : parse.Feed in_ b l = some r) : Go.Lift.Spec prog 43 [.agg (api.Input.ct .no in_), .str b, .agg [.i l.Args, .i l.Bulk, .i l.Line]] [] (fun v H => ∃ n0, v = .tup [.agg [.str r.1.Rest, .sl .no 1 (r.1.Args.map AV.str), .i r.1.Left, .i r.1.Size, .bool r.1.Body, .i r.1.Need, .i r.1.Dead], .sl (.own n0) 2 (r.2.1.map api.Request.av), .i r.2.2] ∧ H = [(n0, .spare)]) := by
 unfold parse.Feed at h
 refine Go.Lift.Spec.of_body (rs := [.cell 6 62, .tmp 7, .tmp 8]) func43 Z Z (nb Z) Z (xr (xc Z (op_box (cs := (api.Input.ct .no in_)) (v := .agg (api.Input.ct .no in_)) Z (tm Z) Z Z ?_)))
 intro p64
 refine xc Z (op_box (cs := [.i l.Args, .i l.Bulk, .i l.Line]) (v := .agg [.i l.Args, .i l.Bulk, .i l.Line]) Z (tm Z) Z Z ?_)
 intro p65
 refine xc Z (op_alloc (cs := [.str ([] : List UInt8), .sl .full 1 (([] : List (List UInt8)).map AV.str), .i 0, .i 0, .bool false, .i 0, .i 0]) (v := .agg [.str ([] : List UInt8), .sl .full 1 (([] : List (List UInt8)).map AV.str), .i 0, .i 0, .bool false, .i 0, .i 0]) Z zeroValue62 Z Z Z ?_)
 intro p66
 refine xa (.sl .full 2 (([] : List api.Request).map api.Request.av)) Z (pu_assign Z (AEv.nil 2 (by decide))) (xa (.i 0) Z (pu_assign Z (AEv.int _ _)) (xe (aw_seq (xr (xa (.ptr p64 6) Z (fa Z underlying62 Z sizeOf27 Z Z Z) (xc Z (op_load1 (i := 2) Z isAgg27 (tm Z) Z Z (xa (.bool (!decide (in_.Dead = 0))) Z (pu_int (v := .bool (!decide (in_.Dead = 0))) Z Z (tm Z) (AEv.int _ _) Z) (xe ?_)))))))))
 refine aw_cond (b := (!decide (in_.Dead = 0))) (tm Z) (fun hb127 => ?_) (fun hb127 => ?_)
 ·replace h := ite_f (ndec_t hb127) h
  refine aw_seq (aw_planR (by decide +kernel) [[], [(2, 0, false)], [], [], [(2, 0, false)], [(0, 0, true)], [], []] [[5], [], []] [[[(p66, .cells [.str ([] : List UInt8), .sl .full 1 (([] : List (List UInt8)).map AV.str), .i 0, .i 0, .bool false, .i 0, .i 0])], [(p66, .cells [.str ([] : List UInt8), .sl .full 1 (([] : List (List UInt8)).map AV.str), .i 0, .i 0, .bool false, .i 0, .i in_.Dead])]], [[(p65, .cells [.i l.Args, .i l.Bulk, .i l.Line])]], [[(p64, .cells (api.Input.ct .no in_))]]] [.ptr p64 6, .i in_.Dead, .agg [.str ([] : List UInt8), .sl .full 1 (([] : List (List UInt8)).map AV.str), .i 0, .i 0, .bool false, .i 0, .i in_.Dead], .ptr p64 6, .i in_.Dead, .un, .sl .full 2 (([] : List api.Request).map api.Request.av), .i in_.Dead] (by decide +kernel) Z Z ?_ ?_)
  ·exact ⟨yp Z (fa Z underlying62 Z sizeOf27 Z Z Z), stepg_plain Z (op_load1 (i := 0) Z isAgg27 (tm Z) Z Z ⟨Z, Z⟩), yp Z (pu_build (zs := [.str ([] : List UInt8), .sl .full 1 (([] : List (List UInt8)).map AV.str), .i 0, .i 0, .bool false, .i 0, .i 0]) (szs := [1, 1, 1, 1, 1, 1, 1]) (aparts := [(6, .i in_.Dead)]) (cs := [.str ([] : List UInt8), .sl .full 1 (([] : List (List UInt8)).map AV.str), .i 0, .i 0, .bool false, .i 0, .i in_.Dead]) Z underlying62 zeroValue62 Z ⟨sizeOf9, sizeOf49, sizeOf3, sizeOf3, sizeOf4, sizeOf3, sizeOf27, trivial⟩ ⟨Z, (tm Z), trivial⟩ Z), yp Z (fa Z underlying62 Z sizeOf27 Z Z Z), stepg_plain Z (op_load1 (i := 0) Z isAgg27 (tm Z) Z Z ⟨Z, Z⟩), stepg_plain Z (op_store (i := 0) (cs' := [.str ([] : List UInt8), .sl .full 1 (([] : List (List UInt8)).map AV.str), .i 0, .i 0, .bool false, .i 0, .i in_.Dead]) Z sizeOf62 (tm Z) (v := .agg [.str ([] : List UInt8), .sl .full 1 (([] : List (List UInt8)).map AV.str), .i 0, .i 0, .bool false, .i 0, .i in_.Dead]) (tm Z) Z Z Z (nb Z) Z ⟨Z, Z⟩), yp Z (pu_assign Z (AEv.nil 2 (by decide))), ym Z Z Z, trivial⟩
  refine aw_claim 7 (tm Z) fun t67 => (aw_ret ?_)
  obtain rfl := some_of h
  exact ⟨[.agg [.str ([] : List UInt8), .sl .full 1 (([] : List (List UInt8)).map AV.str), .i 0, .i 0, .bool false, .i 0, .i in_.Dead], .sl (.own t67) 2 (([] : List api.Request).map api.Request.av), .i in_.Dead], .tup [.agg [.str ([] : List UInt8), .sl .no 1 (([] : List (List UInt8)).map AV.str), .i 0, .i 0, .bool false, .i 0, .i in_.Dead], .sl (.own t67) 2 (([] : List api.Request).map api.Request.av), .i in_.Dead], [(t67, .spare)], ⟨(CellOk.agg 1 (tm Z) Z isAgg62 sizeOf62 (nb Z) Z), (tm Z), (tm Z), trivial⟩, (AV.Le.tup ⟨(AV.Le.agg ⟨vr, (AV.Le.forget _ _ _), vr, vr, vr, vr, vr, trivial⟩), vr, vr, trivial⟩), Weak.mkL [0] (by decide) ⟨⟨_, Z, Z⟩, trivial⟩ trivial, ⟨t67, Z, Z⟩⟩
 ·replace h := ite_t (ndec_f hb127) h
  refine aw_skip (aw_seq ?_)
  obtain ⟨c68, h⟩ := need_of h
  obtain ⟨r69, r69e, h⟩ := bind_some h
  refine aw_reserve fun p70 => (aw_planR (by decide +kernel) [[(3, 0, false)], [], [(3, 0, false)], [], [], [(2, 0, false)], [], [], [(0, 0, true)], []] [[8], [], [], []] [[[(p70, .resv)], [(p70, .cells (parse.parser.ct .no .full ({ in_ := in_, s := in_.Rest ++ b, l := r69, out := ([] : List api.Request) } : parse.parser)))]], [[(p66, .cells [.str ([] : List UInt8), .sl .full 1 (([] : List (List UInt8)).map AV.str), .i 0, .i 0, .bool false, .i 0, .i 0])]], [[(p65, .cells [.i l.Args, .i l.Bulk, .i l.Line])]], [[(p64, .cells (api.Input.ct .no in_))]]] [.agg (api.Input.ct .no in_), .ptr p64 0, .str in_.Rest, .str b, .str (in_.Rest ++ b), .agg [.i l.Args, .i l.Bulk, .i l.Line], .agg [.i r69.Args, .i r69.Bulk, .i r69.Line], .agg (parse.parser.ct .no .full ({ in_ := in_, s := in_.Rest ++ b, l := r69, out := ([] : List api.Request) } : parse.parser)), .ptr p70 0, .ptr p70 0] (by decide +kernel) Z Z ?_ ?_)
  ·exact ⟨stepg_plain Z (op_loadN (i := 0) Z isAgg62 sizeOf62 (tm Z) Z (nb Z) Z ⟨Z, Z⟩), yp Z (fa Z underlying62 Z sizeOf9 Z Z Z), stepg_plain Z (op_load1 (i := 0) Z isAgg9 (tm Z) Z Z ⟨Z, Z⟩), ym Z Z Z, yp Z (pu_strAdd Z (tm Z) (tm Z) c68), stepg_plain Z (op_loadN (i := 0) Z isAgg67 sizeOf67 (tm Z) Z (nb Z) Z ⟨Z, Z⟩), stepg_plain Z (op_call (vs := [.agg [.i l.Args, .i l.Bulk, .i l.Line]]) (H := []) Z call55 ⟨(tm Z), trivial⟩ (R := []) (List.Perm.refl _) (parse.Limits.ok r69e) (by rintro _ _ ⟨rfl, rfl⟩; exact ⟨Z, Z⟩)), yp Z (pu_build (zs := [.str ([] : List UInt8), .sl .full 1 (([] : List (List UInt8)).map AV.str), .i 0, .i 0, .bool false, .i 0, .i 0, .str ([] : List UInt8), .i 0, .i 0, .i 0, .sl .full 2 (([] : List api.Request).map api.Request.av)]) (szs := [7, 1, 3, 1]) (aparts := [(0, .agg (api.Input.ct .no in_)), (1, .str (in_.Rest ++ b)), (2, .agg [.i r69.Args, .i r69.Bulk, .i r69.Line])]) (cs := [.str in_.Rest, .sl .no 1 (in_.Args.map AV.str), .i in_.Left, .i in_.Size, .bool in_.Body, .i in_.Need, .i in_.Dead, .str (in_.Rest ++ b), .i r69.Args, .i r69.Bulk, .i r69.Line, .sl .full 2 (([] : List api.Request).map api.Request.av)]) Z underlying99 zeroValue99 Z ⟨sizeOf62, sizeOf9, sizeOf67, sizeOf63, trivial⟩ ⟨Z, (tm Z), ⟨Z, (tm Z), ⟨Z, (tm Z), trivial⟩⟩⟩ Z), stepg_plain Z (aop_settleP (op_box (cs := (parse.parser.ct .no .full ({ in_ := in_, s := in_.Rest ++ b, l := r69, out := ([] : List api.Request) } : parse.parser))) (v := .agg (parse.parser.ct .no .full ({ in_ := in_, s := in_.Rest ++ b, l := r69, out := ([] : List api.Request) } : parse.parser))) Z (tm Z) Z Z fun t => ⟨t, Z, Z⟩) ⟨Z, Z⟩), ym Z Z Z, trivial⟩
  refine xr (xm Z Z Z (xm Z Z Z (xa (.ptr p64 1) Z (fa Z underlying62 Z sizeOf49 Z Z Z) (xc Z (op_load1 (i := 3) Z isAgg49 (tm Z) Z Z ?_)))))
  obtain ⟨r71, r71e, h⟩ := bind_some h
  refine xc Z (op_call (vs := [.sl .no 1 (in_.Args.map AV.str)]) (H := []) Z call56 ⟨(tm Z), trivial⟩ (List.Perm.refl _) (slices.Clone_string.ok r71e) ?_)
  rintro _ _ ⟨t72, rfl, rfl⟩
  refine xa (.ptr p70 0) Z (pu_nilCheck Z (tm Z) Z) (xa (.ptr p70 0) Z (fa Z underlying99 Z sizeOf62 Z Z Z) (xa (.ptr p70 1) Z (fa Z underlying62 Z sizeOf49 Z Z Z) (ac0 Z Z (op_store (i := 1) (cs' := (parse.parser.ct (.own t72) .full ({ in_ := { in_ with Args := r71 }, s := in_.Rest ++ b, l := r69, out := ([] : List api.Request) } : parse.parser))) Z sizeOf49 (tm Z) (v := .sl (.own t72) 1 (r71.map AV.str)) (tm Z) Z Z Z (nb Z) Z (xa (.ptr p70 0) Z (pu_nilCheck Z (tm Z) Z) (xa (.ptr p70 0) Z (fa Z underlying99 Z sizeOf62 Z Z Z) (xa (.ptr p70 0) Z (fa Z underlying62 Z sizeOf9 Z Z Z) (ac0 Z Z (op_store (i := 1) (cs' := (parse.parser.ct (.own t72) .full ({ in_ := { in_ with Rest := ([] : List UInt8), Args := r71 }, s := in_.Rest ++ b, l := r69, out := ([] : List api.Request) } : parse.parser))) Z sizeOf9 (tm Z) (v := .str ([] : List UInt8)) (AEv.const Z) Z Z Z (nb Z) Z (xe ?_))))))))))
  obtain ⟨s97, s97e, h100⟩ := bind_some h
  refine aw_meet (ν := Nat × Nat) (fun v => [(6, .ptr p66 0), (9, .ptr p70 0)]) (fun v => [(p66, .cells [.str ([] : List UInt8), .sl .full 1 (([] : List (List UInt8)).map AV.str), .i 0, .i 0, .bool false, .i 0, .i 0]), (p70, .cells [.str s97.1, .sl (.own v.1) 1 (s97.2.1.map AV.str), .i s97.2.2.1, .i s97.2.2.2.1, .bool s97.2.2.2.2.1, .i s97.2.2.2.2.2.1, .i s97.2.2.2.2.2.2.1, .str s97.2.2.2.2.2.2.2.1, .i s97.2.2.2.2.2.2.2.2.1, .i s97.2.2.2.2.2.2.2.2.2.1, .i s97.2.2.2.2.2.2.2.2.2.2.1, .sl (.own v.2) 2 (s97.2.2.2.2.2.2.2.2.2.2.2.map api.Request.av)]), (v.1, .spare), (v.2, .spare)]) ?_ ?_
  ·have h := s97e
   refine aw_block (aw_claimCell 1 11 Z Z fun t125 => (aw_while (σ := parse.Feed.S0) (ν := Nat × Nat) (parse.Feed.body0 in_ l) (fun s115 v => [(6, .ptr p66 0), (9, .ptr p70 0)]) (fun s115 v => [(p66, .cells [.str ([] : List UInt8), .sl .full 1 (([] : List (List UInt8)).map AV.str), .i 0, .i 0, .bool false, .i 0, .i 0]), (p70, .cells [.str s115.c, .sl (.own v.1) 1 (s115.c2.map AV.str), .i s115.c3, .i s115.c4, .bool s115.c5, .i s115.c6, .i s115.c7, .str s115.c8, .i s115.c9, .i s115.c10, .i s115.c11, .sl (.own v.2) 2 (s115.c12.map api.Request.av)]), (v.1, .spare), (v.2, .spare)]) ⟨([] : List UInt8), r71, in_.Left, in_.Size, in_.Body, in_.Need, in_.Dead, in_.Rest ++ b, r69.Args, r69.Bulk, r69.Line, ([] : List api.Request)⟩ (t72, t125) _ h (Weak.mkL [3, 2, 1, 0] (by decide) ⟨⟨_, Z, cr, Z⟩, ⟨_, Z, ⟨vr, vr, vr, vr, vr, vr, vr, vr, vr, vr, vr, vr, trivial⟩, Z⟩, ⟨_, Z, Z⟩, ⟨_, Z, Z⟩, trivial⟩ ⟨tm Z, tm Z, trivial⟩) ?_))
   rintro s115 ⟨n116, n117⟩ x119 h hx118
   unfold parse.Feed.body0 at h
   refine aw_seq (xr (xm Z Z Z ?_))
   obtain ⟨r121, r121e, h⟩ := bind_some h
   refine aops_weak (weak_pick [1, 2, 3, 0] (by decide) Z) (xc Z (op_call (vs := [.ptr p70 0]) (H := [(p70, .cells [.str s115.c, .sl (.own n116) 1 (s115.c2.map AV.str), .i s115.c3, .i s115.c4, .bool s115.c5, .i s115.c6, .i s115.c7, .str s115.c8, .i s115.c9, .i s115.c10, .i s115.c11, .sl (.own n117) 2 (s115.c12.map api.Request.av)]), (n116, .spare), (n117, .spare)]) Z call57 ⟨(tm Z), trivial⟩ (List.Perm.refl _) (parse.parser.step.ok r121e p70 n116 n117) ?_))
   rintro _ _ ⟨t122, t123, rfl, rfl⟩
   refine xe (aw_cond (b := r121.1) (tm Z) (fun hb124 => ?_) (fun hb124 => ?_))
   ·replace h := ite_t hb124 h
    refine aw_skip (aw_block (aw_skip ?_))
    obtain rfl := some_of h
    exact ⟨_, (t122, t123), Z, Weak.mkL [3, 0, 1, 2] (by decide) ⟨⟨_, Z, cr, Z⟩, ⟨_, Z, cr, Z⟩, ⟨_, Z, Z⟩, ⟨_, Z, Z⟩, trivial⟩ ⟨tm Z, tm Z, trivial⟩⟩
   ·replace h := ite_fb hb124 h
    refine aw_exit ?_
    obtain rfl := some_of h
    have h := congrArg some (hx118 _ rfl)
    obtain rfl := some_of h
    exact ⟨(t122, t123), Weak.mkL [3, 0, 1, 2] (by decide) ⟨⟨_, Z, cr, Z⟩, ⟨_, Z, cr, Z⟩, ⟨_, Z, Z⟩, ⟨_, Z, Z⟩, trivial⟩ ⟨tm Z, tm Z, trivial⟩⟩
  ·rintro ⟨n98, n99⟩
   have h := h100
   refine xr (xm Z Z Z (xm Z Z Z (xa (.ptr p70 0) Z (pu_nilCheck Z (tm Z) Z) (xa (.ptr p70 7) Z (fa Z underlying99 Z sizeOf9 Z Z Z) (xc Z (op_load1 (i := 1) Z isAgg9 (tm Z) Z Z ?_))))))
   obtain ⟨r126, r126e, h⟩ := bind_some h
   refine xc Z (op_call (vs := [.str s97.2.2.2.2.2.2.2.1]) (H := []) Z call58 ⟨(tm Z), trivial⟩ (List.Perm.refl _) (strings.Clone.ok r126e) ?_)
   rintro _ _ ⟨rfl, rfl⟩
   refine xa (.ptr p70 0) Z (pu_nilCheck Z (tm Z) Z) (xa (.ptr p70 0) Z (fa Z underlying99 Z sizeOf62 Z Z Z) (xa (.ptr p70 0) Z (fa Z underlying62 Z sizeOf9 Z Z Z) (ac0 Z Z (op_store (i := 1) (cs' := [.str r126, .sl (.own n98) 1 (s97.2.1.map AV.str), .i s97.2.2.1, .i s97.2.2.2.1, .bool s97.2.2.2.2.1, .i s97.2.2.2.2.2.1, .i s97.2.2.2.2.2.2.1, .str s97.2.2.2.2.2.2.2.1, .i s97.2.2.2.2.2.2.2.2.1, .i s97.2.2.2.2.2.2.2.2.2.1, .i s97.2.2.2.2.2.2.2.2.2.2.1, .sl (.own n99) 2 (s97.2.2.2.2.2.2.2.2.2.2.2.map api.Request.av)]) Z sizeOf9 (tm Z) (v := .str r126) (tm Z) Z Z Z (nb Z) Z (xe (aw_seq (aw_planR (by decide +kernel) [[], [], [], [(1, 0, false)], [], [], [], [(1, 0, false)], [], [], [], [], [(1, 0, false)], [(0, 0, true)], [], []] [[13], [], [], []] [[[(p66, .cells [.str ([] : List UInt8), .sl .full 1 (([] : List (List UInt8)).map AV.str), .i 0, .i 0, .bool false, .i 0, .i 0])], [(p66, .cells [.str r126, .sl (.own n98) 1 (s97.2.1.map AV.str), .i s97.2.2.1, .i s97.2.2.2.1, .bool s97.2.2.2.2.1, .i s97.2.2.2.2.2.1, .i s97.2.2.2.2.2.2.1])]], [[(p70, .cells [.str r126, .sl (.own n98) 1 (s97.2.1.map AV.str), .i s97.2.2.1, .i s97.2.2.2.1, .bool s97.2.2.2.2.1, .i s97.2.2.2.2.2.1, .i s97.2.2.2.2.2.2.1, .str s97.2.2.2.2.2.2.2.1, .i s97.2.2.2.2.2.2.2.2.1, .i s97.2.2.2.2.2.2.2.2.2.1, .i s97.2.2.2.2.2.2.2.2.2.2.1, .sl (.own n99) 2 (s97.2.2.2.2.2.2.2.2.2.2.2.map api.Request.av)])]], [[(n98, .spare)]], [[(n99, .spare)]]] [.ptr p70 0, .ptr p70 0, .ptr p70 0, .agg [.str r126, .sl (.own n98) 1 (s97.2.1.map AV.str), .i s97.2.2.1, .i s97.2.2.2.1, .bool s97.2.2.2.2.1, .i s97.2.2.2.2.2.1, .i s97.2.2.2.2.2.2.1], .ptr p70 0, .ptr p70 0, .ptr p70 11, .sl (.own n99) 2 (s97.2.2.2.2.2.2.2.2.2.2.2.map api.Request.av), .ptr p70 0, .ptr p70 0, .ptr p70 0, .ptr p70 6, .i s97.2.2.2.2.2.2.1, .un, .sl (.own n99) 2 (s97.2.2.2.2.2.2.2.2.2.2.2.map api.Request.av), .i s97.2.2.2.2.2.2.1] (by decide +kernel) Z Z ?_ ?_)))))))
   ·exact ⟨ym Z Z Z, yp Z (pu_nilCheck Z (tm Z) Z), yp Z (fa Z underlying99 Z sizeOf62 Z Z Z), stepg_plain Z (op_loadN (i := 0) Z isAgg62 sizeOf62 (tm Z) Z (nb Z) Z ⟨Z, Z⟩), ym Z Z Z, yp Z (pu_nilCheck Z (tm Z) Z), yp Z (fa Z underlying99 Z sizeOf63 Z Z Z), stepg_plain Z (op_load1 (i := 0) Z isAgg63 (tm Z) Z Z ⟨Z, Z⟩), ym Z Z Z, yp Z (pu_nilCheck Z (tm Z) Z), yp Z (fa Z underlying99 Z sizeOf62 Z Z Z), yp Z (fa Z underlying62 Z sizeOf27 Z Z Z), stepg_plain Z (op_load1 (i := 0) Z isAgg27 (tm Z) Z Z ⟨Z, Z⟩), stepg_plain Z (op_store (i := 0) (cs' := [.str r126, .sl (.own n98) 1 (s97.2.1.map AV.str), .i s97.2.2.1, .i s97.2.2.2.1, .bool s97.2.2.2.2.1, .i s97.2.2.2.2.2.1, .i s97.2.2.2.2.2.2.1]) Z sizeOf62 (tm Z) (v := .agg [.str r126, .sl (.own n98) 1 (s97.2.1.map AV.str), .i s97.2.2.1, .i s97.2.2.2.1, .bool s97.2.2.2.2.1, .i s97.2.2.2.2.2.1, .i s97.2.2.2.2.2.2.1]) (tm Z) Z Z Z (nb Z) Z ⟨Z, Z⟩), ym Z Z Z, ym Z Z Z, trivial⟩
   refine aw_ret ?_
   obtain rfl := some_of h
   exact ⟨[.agg [.str r126, .sl (.own n98) 1 (s97.2.1.map AV.str), .i s97.2.2.1, .i s97.2.2.2.1, .bool s97.2.2.2.2.1, .i s97.2.2.2.2.2.1, .i s97.2.2.2.2.2.2.1], .sl (.own n99) 2 (s97.2.2.2.2.2.2.2.2.2.2.2.map api.Request.av), .i s97.2.2.2.2.2.2.1], .tup [.agg [.str r126, .sl .no 1 (s97.2.1.map AV.str), .i s97.2.2.1, .i s97.2.2.2.1, .bool s97.2.2.2.2.1, .i s97.2.2.2.2.2.1, .i s97.2.2.2.2.2.2.1], .sl (.own n99) 2 (s97.2.2.2.2.2.2.2.2.2.2.2.map api.Request.av), .i s97.2.2.2.2.2.2.1], [(n99, .spare)], ⟨(CellOk.agg 0 (tm Z) Z isAgg62 sizeOf62 (nb Z) Z), (tm Z), (tm Z), trivial⟩, (AV.Le.tup ⟨(AV.Le.agg ⟨vr, (AV.Le.forget _ _ _), vr, vr, vr, vr, vr, trivial⟩), vr, vr, trivial⟩), Weak.mkL [3] (by decide) ⟨⟨_, Z, Z⟩, trivial⟩ trivial, ⟨n99, Z, Z⟩⟩

theorem parse.Idle.ok {in_ : api.Input} {r : Bool} (h : parse.Idle in_ = some r) : Go.Lift.Spec prog 44 [.agg (api.Input.ct .no in_)] [] (fun v H => v = .bool r ∧ H = []) := by
 unfold parse.Idle at h
 refine Go.Lift.Spec.of_body (rs := [.tmp 2]) func44 Z Z (nb Z) Z (xr (xc Z (op_box (cs := (api.Input.ct .no in_)) (v := .agg (api.Input.ct .no in_)) Z (tm Z) Z Z ?_)))
 intro p9
 refine xa (.bool false) Z (pu_assign Z (AEv.bool _)) (xe ?_)
 obtain ⟨s12, s12e, h13⟩ := letO_of h
 refine aw_meet (ν := Unit) (fun v => [(2, .bool s12)]) (fun v => []) ?_ ?_
 ·have h := s12e.symm
  refine aw_region (xa (.ptr p9 0) Z (fa Z underlying62 Z sizeOf9 Z Z Z) (xc Z (op_load1 (i := 0) Z isAgg9 (tm Z) Z Z (xa (.bool (decide (in_.Rest = ([] : List UInt8)))) Z (pu_str (v := .bool (decide (in_.Rest = ([] : List UInt8)))) Z Z (tm Z) (AEv.const Z) Z) (xm Z Z Z ?_)))))
  rcases Bool.eq_false_or_eq_true (decide (in_.Rest = ([] : List UInt8))) with hb15 | hb15
  ·replace h := ite_t (dec_t hb15) h
   refine aops_known 6 Z hb15 (xp (.ptr p9 3) Z Z (fa Z underlying62 Z sizeOf3 Z Z Z) (xg Z Z (op_load1 (i := 0) Z isAgg3 (tm Z) Z Z (xp (.bool (decide (in_.Size = 0))) Z Z (pu_int (v := .bool (decide (in_.Size = 0))) Z Z (tm Z) (AEv.int _ _) Z) (xa (.bool (decide (in_.Size = 0))) Z (pu_pick (b := true) Z (tm Z) (fun _ => (tm Z)) (fun h => nomatch h)) (xm Z Z Z ?_))))))
   rcases Bool.eq_false_or_eq_true (decide (in_.Size = 0)) with hb16 | hb16
   ·replace h := ite_t (dec_t hb16) h
    refine aops_known 11 Z hb16 (xp (.ptr p9 6) Z Z (fa Z underlying62 Z sizeOf27 Z Z Z) (xg Z Z (op_load1 (i := 0) Z isAgg27 (tm Z) Z Z (xp (.bool (decide (in_.Dead = 0))) Z Z (pu_int (v := .bool (decide (in_.Dead = 0))) Z Z (tm Z) (AEv.int _ _) Z) (xa (.bool (decide (in_.Dead = 0))) Z (pu_pick (b := true) Z (tm Z) (fun _ => (tm Z)) (fun h => nomatch h)) (xm Z Z Z (xe ?_)))))))
    subst h
    exact ⟨(), Weak.mkL [] (by decide) trivial ⟨(AEv.le (tm Z) vr), trivial⟩⟩
   ·replace h := ite_f (dec_f hb16) h
    refine aops_known 11 Z hb16 (xn Z Z Z (xn Z Z Z (xn Z Z Z (xa (.bool false) Z (pu_pick (b := false) Z (tm Z) (fun h => nomatch h) (fun _ => (AEv.bool _))) (xm Z Z Z (xe ?_))))))
    subst h
    exact ⟨(), Weak.mkL [] (by decide) trivial ⟨tm Z, trivial⟩⟩
  ·replace h := ite_f (dec_f hb15) h
   refine aops_known 6 Z hb15 (xn Z Z Z (xn Z Z Z (xn Z Z Z (xa (.bool false) Z (pu_pick (b := false) Z (tm Z) (fun h => nomatch h) (fun _ => (AEv.bool _))) (xm Z Z Z (xn Z Z Z (xn Z Z Z (xn Z Z Z (xa (.bool false) Z (pu_pick (b := false) Z (tm Z) (fun h => nomatch h) (fun _ => (AEv.bool _))) ?_)))))))))
   refine xm Z Z Z (xe ?_)
   subst h
   exact ⟨(), Weak.mkL [] (by decide) trivial ⟨tm Z, trivial⟩⟩
 ·intro _
  have h := h13
  refine aw_ret ?_
  obtain rfl := some_of h
  exact ⟨[.bool s12], _, [], ⟨(tm Z), trivial⟩, vr, Weak.mkL [] (by decide) trivial trivial, ⟨Z, Z⟩⟩

theorem unit.read.ok {s_ : List UInt8} {r : api.Unit × Bool} (h : unit.read s_ = some r) : Go.Lift.Spec prog 30 [.str s_] [] (fun v H => v = .tup [.agg [.sl .no 1 (r.1.Cmds.map av_List_List_UInt8)], .bool r.2] ∧ H = []) := by
 unfold unit.read at h
 refine Go.Lift.Spec.of_body (rs := [.cell 2 24, .tmp 3]) func30 Z Z (nb Z) Z (xr (xc Z (op_alloc (cs := [.sl .full 1 (([] : List (List (List UInt8))).map av_List_List_UInt8)]) (v := .agg [.sl .full 1 (([] : List (List (List UInt8))).map av_List_List_UInt8)]) Z zeroValue24 Z Z Z ?_)))
 intro p75
 refine xa (.bool false) Z (pu_assign Z (AEv.bool _)) (xe (xr (xa (.agg [.str ([] : List UInt8), .sl .full 1 (([] : List (List UInt8)).map AV.str), .i 0, .i 0, .bool false, .i 0, .i 0]) Z (pu_build (zs := [.str ([] : List UInt8), .sl .full 1 (([] : List (List UInt8)).map AV.str), .i 0, .i 0, .bool false, .i 0, .i 0]) (szs := [1, 1, 1, 1, 1, 1, 1]) (aparts := []) (cs := [.str ([] : List UInt8), .sl .full 1 (([] : List (List UInt8)).map AV.str), .i 0, .i 0, .bool false, .i 0, .i 0]) Z underlying62 zeroValue62 Z ⟨sizeOf9, sizeOf49, sizeOf3, sizeOf3, sizeOf4, sizeOf3, sizeOf27, trivial⟩ trivial Z) (xm Z Z Z (xa (.agg [.i 65536, .i 1048576, .i 1]) Z (pu_build (zs := [.i 0, .i 0, .i 0]) (szs := [1, 1, 1]) (aparts := [(0, .i 65536), (1, .i 1048576), (2, .i 1)]) (cs := [.i 65536, .i 1048576, .i 1]) Z underlying67 zeroValue67 Z ⟨sizeOf3, sizeOf3, sizeOf3, trivial⟩ ⟨Z, (AEv.int _ _), ⟨Z, (AEv.int _ _), ⟨Z, (AEv.int _ _), trivial⟩⟩⟩ Z) ?_)))))
 obtain ⟨r76, r76e, h⟩ := bind_some h
 refine xc Z (op_call (vs := [.agg [.str ([] : List UInt8), .sl .no 1 (([] : List (List UInt8)).map AV.str), .i 0, .i 0, .bool false, .i 0, .i 0], .str s_, .agg [.i 65536, .i 1048576, .i 1]]) (H := []) Z call43 ⟨(AEv.le (tm Z) (AV.Le.agg ⟨vr, (AV.Le.forget _ _ _), vr, vr, vr, vr, vr, trivial⟩)), (tm Z), (tm Z), trivial⟩ (List.Perm.refl _) (parse.Feed.ok r76e) ?_)
 rintro _ _ ⟨t77, rfl, rfl⟩
 refine xm Z Z Z (xa (.agg (api.Input.ct .no r76.1)) Z (pu_extract Z (tm Z) (nb Z) Z) (xa (.sl (.own t77) 2 (r76.2.1.map api.Request.av)) Z (pu_extract Z (tm Z) (nb Z) Z) (xa (.i r76.2.2) Z (pu_extract Z (tm Z) (nb Z) Z) (xc Z (op_alloc (cs := [.str ([] : List UInt8), .sl .full 1 (([] : List (List UInt8)).map AV.str), .i 0, .i 0, .bool false, .i 0, .i 0]) (v := .agg [.str ([] : List UInt8), .sl .full 1 (([] : List (List UInt8)).map AV.str), .i 0, .i 0, .bool false, .i 0, .i 0]) Z zeroValue62 Z Z Z ?_)))))
 intro p78
 refine ac0 Z Z (op_store (i := 0) (cs' := (api.Input.ct .no r76.1)) Z sizeOf62 (tm Z) (v := .agg (api.Input.ct .no r76.1)) (tm Z) Z Z Z (nb Z) Z (xm Z Z Z (xm Z Z Z (xe (xr (xc Z (op_alloc (cs := [.sl .full 1 (([] : List (List (List UInt8))).map av_List_List_UInt8)]) (v := .agg [.sl .full 1 (([] : List (List (List UInt8))).map av_List_List_UInt8)]) Z zeroValue24 Z Z Z ?_)))))))
 intro p79
 refine xe ?_
 obtain ⟨s104, s104e, h106⟩ := bind_some h
 refine aw_meet (ν := Nat) (fun v => [(0, .str s_), (2, .ptr p75 0), (4, .ptr p78 0), (7, .ptr p79 0)]) (fun v => [(p75, .cells [.sl .full 1 (([] : List (List (List UInt8))).map av_List_List_UInt8)]), (p78, .cells (api.Input.ct .no r76.1)), (p79, .cells [.sl (.own v) 1 (s104.map av_List_List_UInt8)]), (v, .spare)]) ?_ ?_
 ·have h := s104e
  refine xr (xm Z Z Z (xa (.i (r76.2.1.length : Int)) Z (pu_lenM Z underlying63 (tm Z)) (xa (.i 0) Z (pu_move Z (AEv.int _ _)) (xe (aw_block (aw_claimCell 0 0 Z Z fun t131 => (aw_while (σ := unit.read.S0) (ν := Nat) (unit.read.body0 r76) (fun s121 v => [(0, .str s_), (2, .ptr p75 0), (4, .ptr p78 0), (7, .ptr p79 0), (20, .sl (.own t77) 2 (r76.2.1.map api.Request.av)), (21, .i (r76.2.1.length : Int)), (22, .i s121.t22)]) (fun s121 v => [(p75, .cells [.sl .full 1 (([] : List (List (List UInt8))).map av_List_List_UInt8)]), (p78, .cells (api.Input.ct .no r76.1)), (p79, .cells [.sl (.own v) 1 (s121.c.map av_List_List_UInt8)]), (t77, .spare), (v, .spare)]) ⟨0, ([] : List (List (List UInt8)))⟩ t131 _ h (Weak.mkL [4, 2, 1, 3, 0] (by decide) ⟨⟨_, Z, ⟨vr, trivial⟩, Z⟩, ⟨_, Z, cr, Z⟩, ⟨_, Z, ⟨vr, trivial⟩, Z⟩, ⟨_, Z, Z⟩, ⟨_, Z, Z⟩, trivial⟩ ⟨tm Z, tm Z, tm Z, tm Z, tm Z, tm Z, tm Z, trivial⟩) ?_)))))))
  rintro s121 n122 x124 h hx123
  unfold unit.read.body0 at h
  refine xr (xa (.bool (decide (s121.t22 < (r76.2.1.length : Int)))) Z (pu_int (v := .bool (decide (s121.t22 < (r76.2.1.length : Int)))) Z Z (tm Z) (tm Z) Z) (xe (aw_seq (aw_cond (b := decide (s121.t22 < (r76.2.1.length : Int))) (tm Z) (fun hb130 => ?_) (fun hb130 => ?_)))))
  ·replace h := ite_t (dec_t hb130) h
   refine aw_skip (aw_seq (aw_block (aw_seq (aw_region ?_))))
   obtain ⟨c126, h⟩ := need_of h
   refine xa (.vptr [.sl .no 1 ((ix r76.2.1 s121.t22).Args.map AV.str), .i (ix r76.2.1 s121.t22).Size]) Z (pu_indexAddrM Z underlying63 sizeOf69 (tm Z) (tm Z) c126 Z) (xc Z (op_loadVN Z isAgg69 sizeOf69 (tm Z) (nb Z) Z (xc Z (op_alloc (cs := [.sl .full 1 (([] : List (List UInt8)).map AV.str), .i 0]) (v := .agg [.sl .full 1 (([] : List (List UInt8)).map AV.str), .i 0]) Z zeroValue69 Z Z Z ?_))))
   intro p127
   refine ac0 Z Z (op_store (i := 0) (cs' := [.sl .no 1 ((ix r76.2.1 s121.t22).Args.map AV.str), .i (ix r76.2.1 s121.t22).Size]) Z sizeOf69 (tm Z) (v := .agg [.sl .no 1 ((ix r76.2.1 s121.t22).Args.map AV.str), .i (ix r76.2.1 s121.t22).Size]) (tm Z) Z Z Z (nb Z) Z (xe (aw_region (xa (.ptr p79 0) Z (fa Z underlying24 Z sizeOf22 Z Z Z) (xc Z (op_load1 (i := 3) Z isAgg22 (tm Z) Z Z (xa (.ptr p127 0) Z (fa Z underlying69 Z sizeOf49 Z Z Z) (xc Z (op_load1 (i := 0) Z isAgg49 (tm Z) Z Z (xc Z (op_buildSlice (xs := ([(ix r76.2.1 s121.t22).Args] : List (List (List UInt8))).map av_List_List_UInt8) (aparts := [(0, .sl .no 1 ((ix r76.2.1 s121.t22).Args.map AV.str))]) Z underlying22 sizeOf49 zeroValue49 (by decide) (by decide) ⟨Z, (tm Z), trivial⟩ Z Z Z ?_)))))))))))
   obtain ⟨c128, h⟩ := need_of h
   refine xc Z (op_appendOM (q := 5) Z underlying22 underlying22 (.inl Z) typeInfo49 Z Z Z (by decide) (tm Z) Z (given_sl (tm Z)) c128 ?_)
   intro t129
   refine xa (.ptr p79 0) Z (fa Z underlying24 Z sizeOf22 Z Z Z) (ac0 Z Z (op_store (i := 3) (cs' := [.sl (.own t129) 1 ((s121.c ++ [(ix r76.2.1 s121.t22).Args]).map av_List_List_UInt8)]) Z sizeOf22 (tm Z) (v := .sl (.own t129) 1 ((s121.c ++ [(ix r76.2.1 s121.t22).Args]).map av_List_List_UInt8)) (tm Z) Z Z Z (nb Z) Z (xe (aw_region (xa (.i (IntKind.wrap .i64 (s121.t22 + 1))) Z (pu_int (v := .i (IntKind.wrap .i64 (s121.t22 + 1))) Z Z (tm Z) (AEv.int _ _) Z) (xm Z Z Z (xe ?_)))))))
   obtain rfl := some_of h
   exact ⟨_, t129, Z, Weak.mkL [1, 2, 3, 4, 5] (by decide) ⟨⟨_, Z, ⟨vr, trivial⟩, Z⟩, ⟨_, Z, cr, Z⟩, ⟨_, Z, ⟨vr, trivial⟩, Z⟩, ⟨_, Z, Z⟩, ⟨_, Z, Z⟩, trivial⟩ ⟨tm Z, tm Z, tm Z, tm Z, tm Z, tm Z, (AEv.le (tm Z) vr), trivial⟩⟩
  ·replace h := ite_f (dec_f hb130) h
   refine aw_exit ?_
   obtain rfl := some_of h
   have h := congrArg some (hx123 _ rfl)
   obtain rfl := some_of h
   exact ⟨n122, Weak.mkL [0, 1, 2, 4] (by decide) ⟨⟨_, Z, ⟨vr, trivial⟩, Z⟩, ⟨_, Z, cr, Z⟩, ⟨_, Z, ⟨vr, trivial⟩, Z⟩, ⟨_, Z, Z⟩, trivial⟩ ⟨tm Z, tm Z, tm Z, tm Z, trivial⟩⟩
 ·intro n105
  have h := h106
  refine aw_seq ?_
  obtain ⟨s135, s135e, h136⟩ := bind_some h
  refine aw_meet (ν := Unit) (fun v => [(0, .str s_), (2, .ptr p75 0), (7, .ptr p79 0), (41, .bool s135)]) (fun v => [(p75, .cells [.sl .full 1 (([] : List (List (List UInt8))).map av_List_List_UInt8)]), (p79, .cells [.sl (.own n105) 1 (s104.map av_List_List_UInt8)]), (n105, .spare)]) ?_ ?_
  ·have h := s135e
   refine aw_region (xc Z (op_loadN (i := 1) Z isAgg62 sizeOf62 (tm Z) Z (nb Z) Z ?_))
   obtain ⟨r138, r138e, h⟩ := bind_some h
   refine xc Z (op_call (vs := [.agg (api.Input.ct .no r76.1)]) (H := []) Z call44 ⟨(tm Z), trivial⟩ (List.Perm.refl _) (parse.Idle.ok r138e) ?_)
   rintro _ _ ⟨rfl, rfl⟩
   refine xa (.bool (!r138)) Z (pu_not Z (tm Z)) (xm Z Z Z ?_)
   rcases Bool.eq_false_or_eq_true (!r138) with hb139 | hb139
   ·replace h := ite_t hb139 h
    refine aops_known 37 Z hb139 (xn Z Z Z (xn Z Z Z (xn Z Z Z (xa (.bool true) Z (pu_pick (b := true) Z (tm Z) (fun _ => (AEv.bool _)) (fun h => nomatch h)) (xe ?_)))))
    obtain rfl := some_of h
    exact ⟨(), Weak.mkL [0, 2, 3] (by decide) ⟨⟨_, Z, ⟨vr, trivial⟩, Z⟩, ⟨_, Z, ⟨vr, trivial⟩, Z⟩, ⟨_, Z, Z⟩, trivial⟩ ⟨tm Z, tm Z, tm Z, tm Z, trivial⟩⟩
   ·replace h := ite_fb hb139 h
    refine aops_known 37 Z hb139 (xg Z Z (op_loadN (i := 2) Z isAgg24 sizeOf24 (tm Z) Z (nb Z) Z ?_))
    obtain ⟨r140, r140e, h⟩ := bind_some h
    refine xg Z Z (op_call (vs := [.agg [.sl .no 1 (s104.map av_List_List_UInt8)]]) (H := []) Z call20 ⟨(AEv.le (tm Z) (AV.Le.agg ⟨(AV.Le.forget _ _ _), trivial⟩)), trivial⟩ (List.Perm.refl _) (unit.may.ok r140e) ?_)
    rintro _ _ ⟨rfl, rfl⟩
    refine xp (.bool (!r140)) Z Z (pu_not Z (tm Z)) (xa (.bool (!r140)) Z (pu_pick (b := false) Z (tm Z) (fun h => nomatch h) (fun _ => (tm Z))) (xe ?_))
    obtain rfl := some_of h
    exact ⟨(), Weak.mkL [0, 2, 3] (by decide) ⟨⟨_, Z, ⟨vr, trivial⟩, Z⟩, ⟨_, Z, ⟨vr, trivial⟩, Z⟩, ⟨_, Z, Z⟩, trivial⟩ ⟨tm Z, tm Z, tm Z, tm Z, trivial⟩⟩
  ·intro _
   have h := h136
   refine aw_cond (b := s135) (tm Z) (fun hb148 => ?_) (fun hb148 => ?_)
   ·replace h := ite_t hb148 h
    refine xr (xa (.agg [.sl .full 1 (([] : List (List (List UInt8))).map av_List_List_UInt8)]) Z (pu_build (zs := [.sl .full 1 (([] : List (List (List UInt8))).map av_List_List_UInt8)]) (szs := [1]) (aparts := []) (cs := [.sl .full 1 (([] : List (List (List UInt8))).map av_List_List_UInt8)]) Z underlying24 zeroValue24 Z ⟨sizeOf22, trivial⟩ trivial Z) (ac0 Z Z (op_store (i := 0) (cs' := [.sl .full 1 (([] : List (List (List UInt8))).map av_List_List_UInt8)]) Z sizeOf24 (tm Z) (v := .agg [.sl .full 1 (([] : List (List (List UInt8))).map av_List_List_UInt8)]) (tm Z) Z Z Z (nb Z) Z (xa (.bool false) Z (pu_assign Z (AEv.bool _)) (xe (aw_ret ?_))))))
    obtain rfl := some_of h
    exact ⟨[.agg [.sl .full 1 (([] : List (List (List UInt8))).map av_List_List_UInt8)], .bool false], .tup [.agg [.sl .no 1 (([] : List (List (List UInt8))).map av_List_List_UInt8)], .bool false], [], ⟨(CellOk.agg 0 (tm Z) Z isAgg24 sizeOf24 (nb Z) Z), (tm Z), trivial⟩, (AV.Le.tup ⟨(AV.Le.agg ⟨(AV.Le.forget _ _ _), trivial⟩), vr, trivial⟩), Weak.mkL [] (by decide) trivial trivial, ⟨Z, Z⟩⟩
   ·replace h := ite_fb hb148 h
    refine aw_skip (xr (xc Z (op_loadN (i := 1) Z isAgg24 sizeOf24 (tm Z) Z (nb Z) Z ?_)))
    obtain ⟨r141, r141e, h⟩ := bind_some h
    refine xc Z (op_call (vs := [.agg [.sl .no 1 (s104.map av_List_List_UInt8)]]) (H := []) Z call21 ⟨(AEv.le (tm Z) (AV.Le.agg ⟨(AV.Le.forget _ _ _), trivial⟩)), trivial⟩ (List.Perm.refl _) (unit.load.ok r141e) ?_)
    rintro _ _ ⟨rfl, rfl⟩
    refine xm Z Z Z (xa (.str r141.1) Z (pu_extract Z (tm Z) (nb Z) Z) (xa (.bool r141.2) Z (pu_extract Z (tm Z) (nb Z) Z) (xm Z Z Z (xm Z Z Z (xe (aw_seq ?_))))))
    obtain ⟨s143, s143e, h144⟩ := letO_of h
    refine aw_meet (ν := Unit) (fun v => [(2, .ptr p75 0), (7, .ptr p79 0), (54, .bool s143)]) (fun v => [(p75, .cells [.sl .full 1 (([] : List (List (List UInt8))).map av_List_List_UInt8)]), (p79, .cells [.sl (.own n105) 1 (s104.map av_List_List_UInt8)]), (n105, .spare)]) ?_ ?_
    ·have h := s143e.symm
     refine aw_region (xm Z Z Z (xa (.bool (!r141.2)) Z (pu_not Z (tm Z)) (xm Z Z Z ?_)))
     rcases Bool.eq_false_or_eq_true (!r141.2) with hb146 | hb146
     ·replace h := ite_t hb146 h
      refine aops_known 50 Z hb146 (xn Z Z Z (xn Z Z Z (xn Z Z Z (xa (.bool true) Z (pu_pick (b := true) Z (tm Z) (fun _ => (AEv.bool _)) (fun h => nomatch h)) (xe ?_)))))
      subst h
      exact ⟨(), Weak.mkL [0, 1, 2] (by decide) ⟨⟨_, Z, ⟨vr, trivial⟩, Z⟩, ⟨_, Z, ⟨vr, trivial⟩, Z⟩, ⟨_, Z, Z⟩, trivial⟩ ⟨tm Z, tm Z, tm Z, trivial⟩⟩
     ·replace h := ite_fb hb146 h
      refine aops_known 50 Z hb146 (xq Z Z Z Z (xq Z Z Z Z (xp (.bool (!decide (r141.1 = s_))) Z Z (pu_str (v := .bool (!decide (r141.1 = s_))) Z Z (tm Z) (tm Z) Z) (xa (.bool (!decide (r141.1 = s_))) Z (pu_pick (b := false) Z (tm Z) (fun h => nomatch h) (fun _ => (tm Z))) (xe ?_)))))
      subst h
      exact ⟨(), Weak.mkL [0, 1, 2] (by decide) ⟨⟨_, Z, ⟨vr, trivial⟩, Z⟩, ⟨_, Z, ⟨vr, trivial⟩, Z⟩, ⟨_, Z, Z⟩, trivial⟩ ⟨tm Z, tm Z, tm Z, trivial⟩⟩
    ·intro _
     have h := h144
     refine aw_cond (b := s143) (tm Z) (fun hb147 => ?_) (fun hb147 => ?_)
     ·replace h := ite_t hb147 h
      refine xr (xa (.agg [.sl .full 1 (([] : List (List (List UInt8))).map av_List_List_UInt8)]) Z (pu_build (zs := [.sl .full 1 (([] : List (List (List UInt8))).map av_List_List_UInt8)]) (szs := [1]) (aparts := []) (cs := [.sl .full 1 (([] : List (List (List UInt8))).map av_List_List_UInt8)]) Z underlying24 zeroValue24 Z ⟨sizeOf22, trivial⟩ trivial Z) (ac0 Z Z (op_store (i := 0) (cs' := [.sl .full 1 (([] : List (List (List UInt8))).map av_List_List_UInt8)]) Z sizeOf24 (tm Z) (v := .agg [.sl .full 1 (([] : List (List (List UInt8))).map av_List_List_UInt8)]) (tm Z) Z Z Z (nb Z) Z (xa (.bool false) Z (pu_assign Z (AEv.bool _)) (xe (aw_ret ?_))))))
      obtain rfl := some_of h
      exact ⟨[.agg [.sl .full 1 (([] : List (List (List UInt8))).map av_List_List_UInt8)], .bool false], .tup [.agg [.sl .no 1 (([] : List (List (List UInt8))).map av_List_List_UInt8)], .bool false], [], ⟨(CellOk.agg 0 (tm Z) Z isAgg24 sizeOf24 (nb Z) Z), (tm Z), trivial⟩, (AV.Le.tup ⟨(AV.Le.agg ⟨(AV.Le.forget _ _ _), trivial⟩), vr, trivial⟩), Weak.mkL [] (by decide) trivial trivial, ⟨Z, Z⟩⟩
     ·replace h := ite_fb hb147 h
      refine aw_skip (xr (xc Z (op_loadN (i := 1) Z isAgg24 sizeOf24 (tm Z) Z (nb Z) Z (ac0 Z Z (op_store (i := 0) (cs' := [.sl (.own n105) 1 (s104.map av_List_List_UInt8)]) Z sizeOf24 (tm Z) (v := .agg [.sl (.own n105) 1 (s104.map av_List_List_UInt8)]) (tm Z) Z Z Z (nb Z) Z (xa (.bool true) Z (pu_assign Z (AEv.bool _)) (xe (aw_ret ?_))))))))
      obtain rfl := some_of h
      exact ⟨[.agg [.sl (.own n105) 1 (s104.map av_List_List_UInt8)], .bool true], .tup [.agg [.sl .no 1 (s104.map av_List_List_UInt8)], .bool true], [], ⟨(CellOk.agg 0 (tm Z) Z isAgg24 sizeOf24 (nb Z) Z), (tm Z), trivial⟩, (AV.Le.tup ⟨(AV.Le.agg ⟨(AV.Le.forget _ _ _), trivial⟩), vr, trivial⟩), Weak.mkL [] (by decide) trivial trivial, ⟨Z, Z⟩⟩

theorem unit.Take.ok {s_ : List UInt8} {r : api.Unit × Int × Int} (h : unit.Take s_ = some r) : Go.Lift.Spec prog 14 [.str s_] [] (fun v H => v = .tup [.agg [.sl .no 1 (r.1.Cmds.map av_List_List_UInt8)], .i r.2.1, .i r.2.2] ∧ H = []) := by
 unfold unit.Take at h
 refine Go.Lift.Spec.of_body (rs := [.cell 2 24, .tmp 3, .tmp 4]) func14 Z Z (nb Z) Z (xr (xc Z (op_alloc (cs := [.sl .full 1 (([] : List (List (List UInt8))).map av_List_List_UInt8)]) (v := .agg [.sl .full 1 (([] : List (List (List UInt8))).map av_List_List_UInt8)]) Z zeroValue24 Z Z Z ?_)))
 intro p22
 refine xa (.i 0) Z (pu_assign Z (AEv.int _ _)) (xa (.i 0) Z (pu_assign Z (AEv.int _ _)) (xe (aw_seq (aw_block (xr (xm Z Z Z (xa (.bool (decide (s_ = ([] : List UInt8)))) Z (pu_str (v := .bool (decide (s_ = ([] : List UInt8)))) Z Z (tm Z) (AEv.const Z) Z) (xm Z Z Z ?_))))))))
 refine xe (aw_cond (b := decide (s_ = ([] : List UInt8))) (tm Z) (fun hb42 => ?_) (fun hb42 => ?_))
 ·replace h := ite_t (dec_t hb42) h
  refine xr (xa (.agg [.sl .full 1 (([] : List (List (List UInt8))).map av_List_List_UInt8)]) Z (pu_build (zs := [.sl .full 1 (([] : List (List (List UInt8))).map av_List_List_UInt8)]) (szs := [1]) (aparts := []) (cs := [.sl .full 1 (([] : List (List (List UInt8))).map av_List_List_UInt8)]) Z underlying24 zeroValue24 Z ⟨sizeOf22, trivial⟩ trivial Z) (ac0 Z Z (op_store (i := 0) (cs' := [.sl .full 1 (([] : List (List (List UInt8))).map av_List_List_UInt8)]) Z sizeOf24 (tm Z) (v := .agg [.sl .full 1 (([] : List (List (List UInt8))).map av_List_List_UInt8)]) (tm Z) Z Z Z (nb Z) Z (xa (.i 0) Z (pu_assign Z (AEv.int _ _)) (xa (.i 4) Z (pu_assign Z (AEv.int _ _)) (xe (aw_ret ?_)))))))
  obtain rfl := some_of h
  exact ⟨[.agg [.sl .full 1 (([] : List (List (List UInt8))).map av_List_List_UInt8)], .i 0, .i 4], .tup [.agg [.sl .no 1 (([] : List (List (List UInt8))).map av_List_List_UInt8)], .i 0, .i 4], [], ⟨(CellOk.agg 0 (tm Z) Z isAgg24 sizeOf24 (nb Z) Z), (tm Z), (tm Z), trivial⟩, (AV.Le.tup ⟨(AV.Le.agg ⟨(AV.Le.forget _ _ _), trivial⟩), vr, vr, trivial⟩), Weak.mkL [] (by decide) trivial trivial, ⟨Z, Z⟩⟩
 ·replace h := ite_f (dec_f hb42) h
  refine xr (xm Z Z Z ?_)
  obtain ⟨c23, h⟩ := need_of h
  refine xa (.int .u8 (bix s_ 0)) Z (pu_strIdxM Z underlying9 (tm Z) (AEv.int _ _) c23) (xa (.bool (!decide ((bix s_ 0) = 85))) Z (pu_int (v := .bool (!decide ((bix s_ 0) = 85))) Z Z (tm Z) (AEv.int _ _) Z) (xm Z Z Z (xe (aw_cond (b := (!decide ((bix s_ 0) = 85))) (tm Z) (fun hb41 => ?_) (fun hb41 => ?_)))))
  ·replace h := ite_f (ndec_t hb41) h
   refine xr (xa (.agg [.sl .full 1 (([] : List (List (List UInt8))).map av_List_List_UInt8)]) Z (pu_build (zs := [.sl .full 1 (([] : List (List (List UInt8))).map av_List_List_UInt8)]) (szs := [1]) (aparts := []) (cs := [.sl .full 1 (([] : List (List (List UInt8))).map av_List_List_UInt8)]) Z underlying24 zeroValue24 Z ⟨sizeOf22, trivial⟩ trivial Z) (ac0 Z Z (op_store (i := 0) (cs' := [.sl .full 1 (([] : List (List (List UInt8))).map av_List_List_UInt8)]) Z sizeOf24 (tm Z) (v := .agg [.sl .full 1 (([] : List (List (List UInt8))).map av_List_List_UInt8)]) (tm Z) Z Z Z (nb Z) Z (xa (.i 0) Z (pu_assign Z (AEv.int _ _)) (xa (.i 5) Z (pu_assign Z (AEv.int _ _)) (xe (aw_ret ?_)))))))
   obtain rfl := some_of h
   exact ⟨[.agg [.sl .full 1 (([] : List (List (List UInt8))).map av_List_List_UInt8)], .i 0, .i 5], .tup [.agg [.sl .no 1 (([] : List (List (List UInt8))).map av_List_List_UInt8)], .i 0, .i 5], [], ⟨(CellOk.agg 0 (tm Z) Z isAgg24 sizeOf24 (nb Z) Z), (tm Z), (tm Z), trivial⟩, (AV.Le.tup ⟨(AV.Le.agg ⟨(AV.Le.forget _ _ _), trivial⟩), vr, vr, trivial⟩), Weak.mkL [] (by decide) trivial trivial, ⟨Z, Z⟩⟩
  ·replace h := ite_t (ndec_f hb41) h
   refine xr (xm Z Z Z (xa (.i (s_.length : Int)) Z (pu_strLen Z underlying9 (tm Z)) (xa (.bool (decide ((s_.length : Int) < 5))) Z (pu_int (v := .bool (decide ((s_.length : Int) < 5))) Z Z (tm Z) (AEv.int _ _) Z) (xm Z Z Z (xe (aw_cond (b := decide ((s_.length : Int) < 5)) (tm Z) (fun hb40 => ?_) (fun hb40 => ?_)))))))
   ·replace h := ite_t (dec_t hb40) h
    refine xr (xa (.agg [.sl .full 1 (([] : List (List (List UInt8))).map av_List_List_UInt8)]) Z (pu_build (zs := [.sl .full 1 (([] : List (List (List UInt8))).map av_List_List_UInt8)]) (szs := [1]) (aparts := []) (cs := [.sl .full 1 (([] : List (List (List UInt8))).map av_List_List_UInt8)]) Z underlying24 zeroValue24 Z ⟨sizeOf22, trivial⟩ trivial Z) (ac0 Z Z (op_store (i := 0) (cs' := [.sl .full 1 (([] : List (List (List UInt8))).map av_List_List_UInt8)]) Z sizeOf24 (tm Z) (v := .agg [.sl .full 1 (([] : List (List (List UInt8))).map av_List_List_UInt8)]) (tm Z) Z Z Z (nb Z) Z (xa (.i 0) Z (pu_assign Z (AEv.int _ _)) (xa (.i 4) Z (pu_assign Z (AEv.int _ _)) (xe (aw_ret ?_)))))))
    obtain rfl := some_of h
    exact ⟨[.agg [.sl .full 1 (([] : List (List (List UInt8))).map av_List_List_UInt8)], .i 0, .i 4], .tup [.agg [.sl .no 1 (([] : List (List (List UInt8))).map av_List_List_UInt8)], .i 0, .i 4], [], ⟨(CellOk.agg 0 (tm Z) Z isAgg24 sizeOf24 (nb Z) Z), (tm Z), (tm Z), trivial⟩, (AV.Le.tup ⟨(AV.Le.agg ⟨(AV.Le.forget _ _ _), trivial⟩), vr, vr, trivial⟩), Weak.mkL [] (by decide) trivial trivial, ⟨Z, Z⟩⟩
   ·replace h := ite_f (dec_f hb40) h
    refine aw_skip (aw_seq ?_)
    obtain ⟨c24, h⟩ := need_of h
    obtain ⟨c25, h⟩ := need_of h
    obtain ⟨x26, x26e, h⟩ := letO_of h
    obtain ⟨c27, h⟩ := need_of h
    obtain ⟨x28, x28e, h⟩ := letO_of h
    obtain ⟨c29, h⟩ := need_of h
    obtain ⟨x30, x30e, h⟩ := letO_of h
    refine aw_planR (by decide +kernel) [[], [], [], [], [], [], [], [], [], [], [], [], [], [], [], [], [], [], []] [[]] [[[(p22, .cells [.sl .full 1 (([] : List (List (List UInt8))).map av_List_List_UInt8)])]]] [.str s_, .int .u8 (bix s_ 1), .i (IntKind.wrap .i64 (bix s_ 1)), .str s_, .int .u8 (bix s_ 2), .i (IntKind.wrap .i64 (bix s_ 2)), .i (IntKind.wrap .i64 ((IntKind.wrap .i64 (bix s_ 2)) * 2 ^ min (Int.toNat 8) (IntKind.bits .i64))), .i x26, .str s_, .int .u8 (bix s_ 3), .i (IntKind.wrap .i64 (bix s_ 3)), .i (IntKind.wrap .i64 ((IntKind.wrap .i64 (bix s_ 3)) * 2 ^ min (Int.toNat 16) (IntKind.bits .i64))), .i x28, .str s_, .int .u8 (bix s_ 4), .i (IntKind.wrap .i64 (bix s_ 4)), .i (IntKind.wrap .i64 ((IntKind.wrap .i64 (bix s_ 4)) * 2 ^ min (Int.toNat 24) (IntKind.bits .i64))), .i x30, .i x30] (by decide +kernel) Z Z ?_ ?_
    ·exact ⟨ym Z Z Z, yp Z (pu_strIdxM Z underlying9 (tm Z) (AEv.int _ _) c24), yp Z (pu_conv Z underlying5 underlying3 (tm Z)), ym Z Z Z, yp Z (pu_strIdxM Z underlying9 (tm Z) (AEv.int _ _) c25), yp Z (pu_conv Z underlying5 underlying3 (tm Z)), yp Z (pu_shl Z (tm Z) (AEv.int _ _) (by decide)), yp Z (APure.eq (pu_int (v := .i (Go.bits .or .i64 (IntKind.wrap .i64 (bix s_ 1)) (IntKind.wrap .i64 ((IntKind.wrap .i64 (bix s_ 2)) * 2 ^ min (Int.toNat 8) (IntKind.bits .i64))))) Z Z (tm Z) (tm Z) Z) (congrArg (AV.int .i64) x26e.symm)), ym Z Z Z, yp Z (pu_strIdxM Z underlying9 (tm Z) (AEv.int _ _) c27), yp Z (pu_conv Z underlying5 underlying3 (tm Z)), yp Z (pu_shl Z (tm Z) (AEv.int _ _) (by decide)), yp Z (APure.eq (pu_int (v := .i (Go.bits .or .i64 x26 (IntKind.wrap .i64 ((IntKind.wrap .i64 (bix s_ 3)) * 2 ^ min (Int.toNat 16) (IntKind.bits .i64))))) Z Z (tm Z) (tm Z) Z) (congrArg (AV.int .i64) x28e.symm)), ym Z Z Z, yp Z (pu_strIdxM Z underlying9 (tm Z) (AEv.int _ _) c29), yp Z (pu_conv Z underlying5 underlying3 (tm Z)), yp Z (pu_shl Z (tm Z) (AEv.int _ _) (by decide)), yp Z (APure.eq (pu_int (v := .i (Go.bits .or .i64 x28 (IntKind.wrap .i64 ((IntKind.wrap .i64 (bix s_ 4)) * 2 ^ min (Int.toNat 24) (IntKind.bits .i64))))) Z Z (tm Z) (tm Z) Z) (congrArg (AV.int .i64) x30e.symm)), ym Z Z Z, trivial⟩
    refine aw_seq (aw_block (xr (xm Z Z Z (xa (.bool (decide (4194304 < x30))) Z (pu_int (v := .bool (decide (4194304 < x30))) Z Z (tm Z) (AEv.int _ _) Z) (xm Z Z Z (xe (aw_cond (b := decide (4194304 < x30)) (tm Z) (fun hb39 => ?_) (fun hb39 => ?_))))))))
    ·replace h := ite_t (dec_t hb39) h
     refine xr (xa (.agg [.sl .full 1 (([] : List (List (List UInt8))).map av_List_List_UInt8)]) Z (pu_build (zs := [.sl .full 1 (([] : List (List (List UInt8))).map av_List_List_UInt8)]) (szs := [1]) (aparts := []) (cs := [.sl .full 1 (([] : List (List (List UInt8))).map av_List_List_UInt8)]) Z underlying24 zeroValue24 Z ⟨sizeOf22, trivial⟩ trivial Z) (ac0 Z Z (op_store (i := 0) (cs' := [.sl .full 1 (([] : List (List (List UInt8))).map av_List_List_UInt8)]) Z sizeOf24 (tm Z) (v := .agg [.sl .full 1 (([] : List (List (List UInt8))).map av_List_List_UInt8)]) (tm Z) Z Z Z (nb Z) Z (xa (.i 0) Z (pu_assign Z (AEv.int _ _)) (xa (.i 6) Z (pu_assign Z (AEv.int _ _)) (xe (aw_ret ?_)))))))
     obtain rfl := some_of h
     exact ⟨[.agg [.sl .full 1 (([] : List (List (List UInt8))).map av_List_List_UInt8)], .i 0, .i 6], .tup [.agg [.sl .no 1 (([] : List (List (List UInt8))).map av_List_List_UInt8)], .i 0, .i 6], [], ⟨(CellOk.agg 0 (tm Z) Z isAgg24 sizeOf24 (nb Z) Z), (tm Z), (tm Z), trivial⟩, (AV.Le.tup ⟨(AV.Le.agg ⟨(AV.Le.forget _ _ _), trivial⟩), vr, vr, trivial⟩), Weak.mkL [] (by decide) trivial trivial, ⟨Z, Z⟩⟩
    ·replace h := ite_f (dec_f hb39) h
     refine xr (xm Z Z Z (xa (.i (s_.length : Int)) Z (pu_strLen Z underlying9 (tm Z)) (xm Z Z Z (xa (.i (IntKind.wrap .i64 (x30 + 9))) Z (pu_int (v := .i (IntKind.wrap .i64 (x30 + 9))) Z Z (tm Z) (AEv.int _ _) Z) (xa (.bool (decide ((s_.length : Int) < (IntKind.wrap .i64 (x30 + 9))))) Z (pu_int (v := .bool (decide ((s_.length : Int) < (IntKind.wrap .i64 (x30 + 9))))) Z Z (tm Z) (tm Z) Z) (xm Z Z Z (xe (aw_cond (b := decide ((s_.length : Int) < (IntKind.wrap .i64 (x30 + 9)))) (tm Z) (fun hb38 => ?_) (fun hb38 => ?_)))))))))
     ·replace h := ite_t (dec_t hb38) h
      refine xr (xa (.agg [.sl .full 1 (([] : List (List (List UInt8))).map av_List_List_UInt8)]) Z (pu_build (zs := [.sl .full 1 (([] : List (List (List UInt8))).map av_List_List_UInt8)]) (szs := [1]) (aparts := []) (cs := [.sl .full 1 (([] : List (List (List UInt8))).map av_List_List_UInt8)]) Z underlying24 zeroValue24 Z ⟨sizeOf22, trivial⟩ trivial Z) (ac0 Z Z (op_store (i := 0) (cs' := [.sl .full 1 (([] : List (List (List UInt8))).map av_List_List_UInt8)]) Z sizeOf24 (tm Z) (v := .agg [.sl .full 1 (([] : List (List (List UInt8))).map av_List_List_UInt8)]) (tm Z) Z Z Z (nb Z) Z (xa (.i 0) Z (pu_assign Z (AEv.int _ _)) (xa (.i 4) Z (pu_assign Z (AEv.int _ _)) (xe (aw_ret ?_)))))))
      obtain rfl := some_of h
      exact ⟨[.agg [.sl .full 1 (([] : List (List (List UInt8))).map av_List_List_UInt8)], .i 0, .i 4], .tup [.agg [.sl .no 1 (([] : List (List (List UInt8))).map av_List_List_UInt8)], .i 0, .i 4], [], ⟨(CellOk.agg 0 (tm Z) Z isAgg24 sizeOf24 (nb Z) Z), (tm Z), (tm Z), trivial⟩, (AV.Le.tup ⟨(AV.Le.agg ⟨(AV.Le.forget _ _ _), trivial⟩), vr, vr, trivial⟩), Weak.mkL [] (by decide) trivial trivial, ⟨Z, Z⟩⟩
     ·replace h := ite_f (dec_f hb38) h
      refine xr (xm Z Z Z (xm Z Z Z (xa (.i (IntKind.wrap .i64 (x30 + 9))) Z (pu_int (v := .i (IntKind.wrap .i64 (x30 + 9))) Z Z (tm Z) (AEv.int _ _) Z) ?_)))
      obtain ⟨c31, h⟩ := need_of h
      refine xa (.str (sub s_ 0 (IntKind.wrap .i64 (x30 + 9)))) Z (pu_strSliceM Z underlying9 (tm Z) Z ⟨_, (tm Z)⟩ c31) ?_
      obtain ⟨r32, r32e, h⟩ := bind_some h
      refine xc Z (op_call (vs := [.str (sub s_ 0 (IntKind.wrap .i64 (x30 + 9)))]) (H := []) Z call29 ⟨(tm Z), trivial⟩ (List.Perm.refl _) (crc.Fits.ok r32e) ?_)
      rintro _ _ ⟨rfl, rfl⟩
      refine xa (.bool (!r32)) Z (pu_not Z (tm Z)) (xm Z Z Z (xe (aw_cond (b := (!r32)) (tm Z) (fun hb37 => ?_) (fun hb37 => ?_))))
      ·replace h := ite_t hb37 h
       refine xr (xa (.agg [.sl .full 1 (([] : List (List (List UInt8))).map av_List_List_UInt8)]) Z (pu_build (zs := [.sl .full 1 (([] : List (List (List UInt8))).map av_List_List_UInt8)]) (szs := [1]) (aparts := []) (cs := [.sl .full 1 (([] : List (List (List UInt8))).map av_List_List_UInt8)]) Z underlying24 zeroValue24 Z ⟨sizeOf22, trivial⟩ trivial Z) (ac0 Z Z (op_store (i := 0) (cs' := [.sl .full 1 (([] : List (List (List UInt8))).map av_List_List_UInt8)]) Z sizeOf24 (tm Z) (v := .agg [.sl .full 1 (([] : List (List (List UInt8))).map av_List_List_UInt8)]) (tm Z) Z Z Z (nb Z) Z (xa (.i 0) Z (pu_assign Z (AEv.int _ _)) (xa (.i 14) Z (pu_assign Z (AEv.int _ _)) (xe (aw_ret ?_)))))))
       obtain rfl := some_of h
       exact ⟨[.agg [.sl .full 1 (([] : List (List (List UInt8))).map av_List_List_UInt8)], .i 0, .i 14], .tup [.agg [.sl .no 1 (([] : List (List (List UInt8))).map av_List_List_UInt8)], .i 0, .i 14], [], ⟨(CellOk.agg 0 (tm Z) Z isAgg24 sizeOf24 (nb Z) Z), (tm Z), (tm Z), trivial⟩, (AV.Le.tup ⟨(AV.Le.agg ⟨(AV.Le.forget _ _ _), trivial⟩), vr, vr, trivial⟩), Weak.mkL [] (by decide) trivial trivial, ⟨Z, Z⟩⟩
      ·replace h := ite_fb hb37 h
       refine aw_skip (xr (xm Z Z Z (xm Z Z Z (xa (.i (IntKind.wrap .i64 (5 + x30))) Z (pu_int (v := .i (IntKind.wrap .i64 (5 + x30))) Z Z (AEv.int _ _) (tm Z) Z) ?_))))
       obtain ⟨c33, h⟩ := need_of h
       refine xa (.str (sub s_ 5 (IntKind.wrap .i64 (5 + x30)))) Z (pu_strSliceM Z underlying9 (tm Z) ⟨_, (AEv.int _ _)⟩ ⟨_, (tm Z)⟩ c33) ?_
       obtain ⟨r34, r34e, h⟩ := bind_some h
       refine xc Z (op_call (vs := [.str (sub s_ 5 (IntKind.wrap .i64 (5 + x30)))]) (H := []) Z call30 ⟨(tm Z), trivial⟩ (List.Perm.refl _) (unit.read.ok r34e) ?_)
       rintro _ _ ⟨rfl, rfl⟩
       refine xm Z Z Z (xa (.agg [.sl .no 1 (r34.1.Cmds.map av_List_List_UInt8)]) Z (pu_extract Z (tm Z) (nb Z) Z) (xa (.bool r34.2) Z (pu_extract Z (tm Z) (nb Z) Z) (xc Z (op_alloc (cs := [.sl .full 1 (([] : List (List (List UInt8))).map av_List_List_UInt8)]) (v := .agg [.sl .full 1 (([] : List (List (List UInt8))).map av_List_List_UInt8)]) Z zeroValue24 Z Z Z ?_))))
       intro p35
       refine ac0 Z Z (op_store (i := 0) (cs' := [.sl .no 1 (r34.1.Cmds.map av_List_List_UInt8)]) Z sizeOf24 (tm Z) (v := .agg [.sl .no 1 (r34.1.Cmds.map av_List_List_UInt8)]) (tm Z) Z Z Z (nb Z) Z (xm Z Z Z (xe (aw_seq (xr (xm Z Z Z (xa (.bool (!r34.2)) Z (pu_not Z (tm Z)) (xe (aw_cond (b := (!r34.2)) (tm Z) (fun hb36 => ?_) (fun hb36 => ?_))))))))))
       ·replace h := ite_t hb36 h
        refine xr (xa (.agg [.sl .full 1 (([] : List (List (List UInt8))).map av_List_List_UInt8)]) Z (pu_build (zs := [.sl .full 1 (([] : List (List (List UInt8))).map av_List_List_UInt8)]) (szs := [1]) (aparts := []) (cs := [.sl .full 1 (([] : List (List (List UInt8))).map av_List_List_UInt8)]) Z underlying24 zeroValue24 Z ⟨sizeOf22, trivial⟩ trivial Z) (ac0 Z Z (op_store (i := 1) (cs' := [.sl .full 1 (([] : List (List (List UInt8))).map av_List_List_UInt8)]) Z sizeOf24 (tm Z) (v := .agg [.sl .full 1 (([] : List (List (List UInt8))).map av_List_List_UInt8)]) (tm Z) Z Z Z (nb Z) Z (xa (.i 0) Z (pu_assign Z (AEv.int _ _)) (xa (.i 5) Z (pu_assign Z (AEv.int _ _)) (xe (aw_ret ?_)))))))
        obtain rfl := some_of h
        exact ⟨[.agg [.sl .full 1 (([] : List (List (List UInt8))).map av_List_List_UInt8)], .i 0, .i 5], .tup [.agg [.sl .no 1 (([] : List (List (List UInt8))).map av_List_List_UInt8)], .i 0, .i 5], [], ⟨(CellOk.agg 1 (tm Z) Z isAgg24 sizeOf24 (nb Z) Z), (tm Z), (tm Z), trivial⟩, (AV.Le.tup ⟨(AV.Le.agg ⟨(AV.Le.forget _ _ _), trivial⟩), vr, vr, trivial⟩), Weak.mkL [] (by decide) trivial trivial, ⟨Z, Z⟩⟩
       ·replace h := ite_fb hb36 h
        refine aw_skip (xr (xc Z (op_loadN (i := 0) Z isAgg24 sizeOf24 (tm Z) Z (nb Z) Z (xm Z Z Z (xa (.i (IntKind.wrap .i64 (x30 + 9))) Z (pu_int (v := .i (IntKind.wrap .i64 (x30 + 9))) Z Z (tm Z) (AEv.int _ _) Z) (ac0 Z Z (op_store (i := 1) (cs' := [.sl .no 1 (r34.1.Cmds.map av_List_List_UInt8)]) Z sizeOf24 (tm Z) (v := .agg [.sl .no 1 (r34.1.Cmds.map av_List_List_UInt8)]) (tm Z) Z Z Z (nb Z) Z (xm Z Z Z (xa (.i 0) Z (pu_assign Z (AEv.int _ _)) (xe ?_))))))))))
        refine aw_ret ?_
        obtain rfl := some_of h
        exact ⟨[.agg [.sl .no 1 (r34.1.Cmds.map av_List_List_UInt8)], .i (IntKind.wrap .i64 (x30 + 9)), .i 0], .tup [.agg [.sl .no 1 (r34.1.Cmds.map av_List_List_UInt8)], .i (IntKind.wrap .i64 (x30 + 9)), .i 0], [], ⟨(CellOk.agg 1 (tm Z) Z isAgg24 sizeOf24 (nb Z) Z), (tm Z), (tm Z), trivial⟩, (AV.Le.tup cr), Weak.mkL [] (by decide) trivial trivial, ⟨Z, Z⟩⟩

theorem unit.All.ok {s_ : List UInt8} {r : (List api.Unit) × Int} (h : unit.All s_ = some r) : Go.Lift.Spec prog 16 [.str s_] [] (fun v H => ∃ n0, v = .tup [.sl (.own n0) 1 (r.1.map api.Unit.av), .i r.2] ∧ H = [(n0, .spare)]) := by
 unfold unit.All at h
 refine Go.Lift.Spec.of_body (rs := [.tmp 2, .tmp 3]) func16 Z Z (nb Z) Z (xr (xa (.sl .full 1 (([] : List api.Unit).map api.Unit.av)) Z (pu_assign Z (AEv.nil 1 (by decide))) (xa (.i 0) Z (pu_assign Z (AEv.int _ _)) (xe (xr (xa (.sl .full 1 (([] : List api.Unit).map api.Unit.av)) Z (pu_assign Z (AEv.nil 1 (by decide))) (xe ?_)))))))
 refine xr (xa (.i 0) Z (pu_assign Z (AEv.int _ _)) (xe (aw_block (aw_claim 4 (tm Z) fun t54 => (aw_while (σ := unit.All.S0) (ν := Nat) (unit.All.body0 s_) (fun s43 v => [(0, .str s_), (4, .sl (.own v) 1 (s43.l.map api.Unit.av)), (5, .i s43.at_)]) (fun s43 v => [(v, .spare)]) ⟨([] : List api.Unit), 0⟩ t54 _ h (Weak.mkL [0] (by decide) ⟨⟨_, Z, Z⟩, trivial⟩ ⟨tm Z, tm Z, tm Z, trivial⟩) ?_)))))
 rintro s43 n44 x46 h hx45
 unfold unit.All.body0 at h
 refine aw_block (xr (xm Z Z Z (xm Z Z Z ?_)))
 obtain ⟨c48, h⟩ := need_of h
 refine xa (.str (sub s_ s43.at_ (s_.length : Int))) Z (pu_strSliceM Z underlying9 (tm Z) ⟨_, (tm Z)⟩ Z c48) ?_
 obtain ⟨r49, r49e, h⟩ := bind_some h
 refine xc Z (op_call (vs := [.str (sub s_ s43.at_ (s_.length : Int))]) (H := []) Z call14 ⟨(tm Z), trivial⟩ (List.Perm.refl _) (unit.Take.ok r49e) ?_)
 rintro _ _ ⟨rfl, rfl⟩
 refine xm Z Z Z (xa (.agg [.sl .no 1 (r49.1.Cmds.map av_List_List_UInt8)]) Z (pu_extract Z (tm Z) (nb Z) Z) (xa (.i r49.2.1) Z (pu_extract Z (tm Z) (nb Z) Z) (xa (.i r49.2.2) Z (pu_extract Z (tm Z) (nb Z) Z) (xc Z (op_alloc (cs := [.sl .full 1 (([] : List (List (List UInt8))).map av_List_List_UInt8)]) (v := .agg [.sl .full 1 (([] : List (List (List UInt8))).map av_List_List_UInt8)]) Z zeroValue24 Z Z Z ?_)))))
 intro p50
 refine ac0 Z Z (op_store (i := 0) (cs' := [.sl .no 1 (r49.1.Cmds.map av_List_List_UInt8)]) Z sizeOf24 (tm Z) (v := .agg [.sl .no 1 (r49.1.Cmds.map av_List_List_UInt8)]) (tm Z) Z Z Z (nb Z) Z (xm Z Z Z (xm Z Z Z (xe (aw_seq (xr (xm Z Z Z (xa (.bool (!decide (r49.2.2 = 0))) Z (pu_int (v := .bool (!decide (r49.2.2 = 0))) Z Z (tm Z) (AEv.int _ _) Z) (xe ?_)))))))))
 refine aw_cond (b := (!decide (r49.2.2 = 0))) (tm Z) (fun hb53 => ?_) (fun hb53 => ?_)
 ·replace h := ite_f (ndec_t hb53) h
  refine xr (xm Z Z Z (xm Z Z Z (xm Z Z Z (xm Z Z Z (xe (aw_ret ?_))))))
  obtain rfl := some_of h
  have h := congrArg some (hx45 _ rfl)
  obtain rfl := some_of h
  exact ⟨[.sl (.own n44) 1 (s43.l.map api.Unit.av), .i s43.at_], _, [(n44, .spare)], ⟨(tm Z), (tm Z), trivial⟩, vr, Weak.mkL [1] (by decide) ⟨⟨_, Z, Z⟩, trivial⟩ trivial, ⟨n44, Z, Z⟩⟩
 ·replace h := ite_t (ndec_f hb53) h
  refine aw_skip (xr (xm Z Z Z (xc Z (op_loadN (i := 0) Z isAgg24 sizeOf24 (tm Z) Z (nb Z) Z (xc Z (op_buildSlice (xs := ([r49.1] : List api.Unit).map api.Unit.av) (aparts := [(0, .agg [.sl .no 1 (r49.1.Cmds.map av_List_List_UInt8)])]) Z underlying37 sizeOf24 zeroValue24 (by decide) (by decide) ⟨Z, (tm Z), trivial⟩ Z Z Z ?_))))))
  obtain ⟨c51, h⟩ := need_of h
  refine xc Z (op_appendOM (q := 1) Z underlying37 underlying37 (.inl Z) typeInfo24 Z Z Z (by decide) (tm Z) Z (given_sl (tm Z)) c51 ?_)
  intro t52
  refine xm Z Z Z (xe (aw_region (xm Z Z Z (xm Z Z Z (xa (.i (IntKind.wrap .i64 (s43.at_ + r49.2.1))) Z (pu_int (v := .i (IntKind.wrap .i64 (s43.at_ + r49.2.1))) Z Z (tm Z) (tm Z) Z) (xm Z Z Z (xe ?_)))))))
  obtain rfl := some_of h
  exact ⟨_, t52, Z, Weak.mkL [1] (by decide) ⟨⟨_, Z, Z⟩, trivial⟩ ⟨tm Z, (AEv.le (tm Z) vr), (AEv.le (tm Z) vr), trivial⟩⟩

theorem slices.Equal_string.ok {s1_ : List (List UInt8)} {s2_ : List (List UInt8)} {r : Bool} (h : slices.Equal_string s1_ s2_ = some r) : Go.Lift.Spec prog 28 [.sl .no 1 (s1_.map AV.str), .sl .no 1 (s2_.map AV.str)] [] (fun v H => v = .bool r ∧ H = []) := by
 unfold slices.Equal_string at h
 refine Go.Lift.Spec.of_body (rs := [.tmp 4]) func28 Z Z (nb Z) Z (xr (xa (.bool false) Z (pu_assign Z (AEv.bool _)) (xe (aw_seq (xr (xm Z Z Z (xa (.i (s1_.length : Int)) Z (pu_lenM Z underlying49 (tm Z)) ?_)))))))
 refine xm Z Z Z (xa (.i (s2_.length : Int)) Z (pu_lenM Z underlying49 (tm Z)) (xa (.bool (!decide ((s1_.length : Int) = (s2_.length : Int)))) Z (pu_int (v := .bool (!decide ((s1_.length : Int) = (s2_.length : Int)))) Z Z (tm Z) (tm Z) Z) (xe (aw_cond (b := (!decide ((s1_.length : Int) = (s2_.length : Int)))) (tm Z) (fun hb82 => ?_) (fun hb82 => ?_)))))
 ·replace h := ite_f (ndec_t hb82) h
  refine xr (xa (.bool false) Z (pu_assign Z (AEv.bool _)) (xe (aw_ret ?_)))
  obtain rfl := some_of h
  exact ⟨[.bool false], _, [], ⟨(tm Z), trivial⟩, vr, Weak.mkL [] (by decide) trivial trivial, ⟨Z, Z⟩⟩
 ·replace h := ite_t (ndec_f hb82) h
  refine aw_skip ?_
  obtain ⟨s81, s81e, h61⟩ := bind_some h
  refine aw_join (σ := Unit) (ν := Unit) (fun u v => []) (fun u v => []) (fun u => s81 = .inl u) ?_ ?_
  ·intro s60
   intro _
   rintro rfl
   have h := onSum_inl h61
   refine xr (xa (.bool true) Z (pu_assign Z (AEv.bool _)) (xe (aw_ret ?_)))
   obtain rfl := some_of h
   exact ⟨[.bool true], _, [], ⟨(tm Z), trivial⟩, vr, Weak.mkL [] (by decide) trivial trivial, ⟨Z, Z⟩⟩
  ·have h := s81e
   refine xr (xm Z Z Z (xa (.i (s1_.length : Int)) Z (pu_lenM Z underlying49 (tm Z)) (xa (.i 0) Z (pu_move Z (AEv.int _ _)) (xe (aw_block (aw_while (σ := slices.Equal_string.S0) (ν := Unit) (slices.Equal_string.body0 s1_ s2_) (fun s73 v => [(0, .sl .no 1 (s1_.map AV.str)), (1, .sl .no 1 (s2_.map AV.str)), (12, .i (s1_.length : Int)), (13, .i s73.t13)]) (fun s73 v => []) ⟨0⟩ () _ h (Weak.mkL [] (by decide) trivial ⟨tm Z, tm Z, tm Z, tm Z, trivial⟩) ?_))))))
   rintro s73 _ x75 h hx74
   unfold slices.Equal_string.body0 at h
   refine xr (xa (.bool (decide (s73.t13 < (s1_.length : Int)))) Z (pu_int (v := .bool (decide (s73.t13 < (s1_.length : Int)))) Z Z (tm Z) (tm Z) Z) (xe (aw_seq (aw_cond (b := decide (s73.t13 < (s1_.length : Int))) (tm Z) (fun hb80 => ?_) (fun hb80 => ?_)))))
   ·replace h := ite_t (dec_t hb80) h
    refine aw_skip (aw_seq (aw_block (xr (xm Z Z Z (xm Z Z Z (xe (aw_seq ?_)))))))
    obtain ⟨c77, h⟩ := need_of h
    obtain ⟨c78, h⟩ := need_of h
    refine aw_planR (by decide +kernel) [[], [], [], [], [], [], [], [], []] [] [] [.sl .no 1 (s1_.map AV.str), .i s73.t13, .vptr [.str (ix s1_ s73.t13)], .str (ix s1_ s73.t13), .sl .no 1 (s2_.map AV.str), .i s73.t13, .vptr [.str (ix s2_ s73.t13)], .str (ix s2_ s73.t13), .bool (!decide ((ix s1_ s73.t13) = (ix s2_ s73.t13)))] (by decide +kernel) Z Z ?_ ?_
    ·exact ⟨ym Z Z Z, ym Z Z Z, yp Z (pu_indexAddrM Z underlying49 sizeOf9 (tm Z) (tm Z) c77 Z), stepg_plain Z (op_loadV1 Z isAgg9 (tm Z) Z ⟨Z, Z⟩), ym Z Z Z, ym Z Z Z, yp Z (pu_indexAddrM Z underlying49 sizeOf9 (tm Z) (tm Z) c78 Z), stepg_plain Z (op_loadV1 Z isAgg9 (tm Z) Z ⟨Z, Z⟩), yp Z (pu_str (v := .bool (!decide ((ix s1_ s73.t13) = (ix s2_ s73.t13)))) Z Z (tm Z) (tm Z) Z), trivial⟩
    refine aw_cond (b := (!decide ((ix s1_ s73.t13) = (ix s2_ s73.t13)))) (tm Z) (fun hb79 => ?_) (fun hb79 => ?_)
    ·replace h := ite_f (ndec_t hb79) h
     refine xr (xa (.bool false) Z (pu_assign Z (AEv.bool _)) (xe (aw_ret ?_)))
     obtain rfl := some_of h
     have h := congrArg some (hx74 _ rfl)
     obtain rfl := some_of h
     have h := onSum_inr h61
     obtain rfl := some_of h
     exact ⟨[.bool false], _, [], ⟨(tm Z), trivial⟩, vr, Weak.mkL [] (by decide) trivial trivial, ⟨Z, Z⟩⟩
    ·replace h := ite_t (ndec_f hb79) h
     refine aw_skip (aw_region (xa (.i (IntKind.wrap .i64 (s73.t13 + 1))) Z (pu_int (v := .i (IntKind.wrap .i64 (s73.t13 + 1))) Z Z (tm Z) (AEv.int _ _) Z) (xm Z Z Z (xe ?_))))
     obtain rfl := some_of h
     exact ⟨_, (), Z, Weak.mkL [] (by decide) trivial ⟨tm Z, tm Z, tm Z, (AEv.le (tm Z) vr), trivial⟩⟩
   ·replace h := ite_f (dec_f hb80) h
    refine aw_exit ?_
    obtain rfl := some_of h
    have h := congrArg some (hx74 _ rfl)
    exact ⟨(), (), (some_of h).symm, Weak.mkL [] (by decide) trivial trivial⟩

theorem slices.EqualFunc_strings_slices_Equal_string.ok {s1_ : List (List (List UInt8))} {s2_ : List (List (List UInt8))} {r : Bool} (h : slices.EqualFunc_strings_slices_Equal_string s1_ s2_ = some r) : Go.Lift.Spec prog 27 [.sl .no 1 (s1_.map av_List_List_UInt8), .sl .no 1 (s2_.map av_List_List_UInt8), .fn 28 []] [] (fun v H => v = .bool r ∧ H = []) := by
 unfold slices.EqualFunc_strings_slices_Equal_string at h
 refine Go.Lift.Spec.of_body (rs := [.tmp 6]) func27 Z Z (nb Z) Z (xr (xa (.bool false) Z (pu_assign Z (AEv.bool _)) (xe (aw_seq (xr (xm Z Z Z (xa (.i (s1_.length : Int)) Z (pu_lenM Z underlying22 (tm Z)) ?_)))))))
 refine xm Z Z Z (xa (.i (s2_.length : Int)) Z (pu_lenM Z underlying22 (tm Z)) (xa (.bool (!decide ((s1_.length : Int) = (s2_.length : Int)))) Z (pu_int (v := .bool (!decide ((s1_.length : Int) = (s2_.length : Int)))) Z Z (tm Z) (tm Z) Z) (xe (aw_cond (b := (!decide ((s1_.length : Int) = (s2_.length : Int)))) (tm Z) (fun hb94 => ?_) (fun hb94 => ?_)))))
 ·replace h := ite_f (ndec_t hb94) h
  refine xr (xa (.bool false) Z (pu_assign Z (AEv.bool _)) (xe (aw_ret ?_)))
  obtain rfl := some_of h
  exact ⟨[.bool false], _, [], ⟨(tm Z), trivial⟩, vr, Weak.mkL [] (by decide) trivial trivial, ⟨Z, Z⟩⟩
 ·replace h := ite_t (ndec_f hb94) h
  refine aw_skip ?_
  obtain ⟨s93, s93e, h70⟩ := bind_some h
  refine aw_join (σ := Unit) (ν := Unit) (fun u v => []) (fun u v => []) (fun u => s93 = .inl u) ?_ ?_
  ·intro s69
   intro _
   rintro rfl
   have h := onSum_inl h70
   refine xr (xa (.bool true) Z (pu_assign Z (AEv.bool _)) (xe (aw_ret ?_)))
   obtain rfl := some_of h
   exact ⟨[.bool true], _, [], ⟨(tm Z), trivial⟩, vr, Weak.mkL [] (by decide) trivial trivial, ⟨Z, Z⟩⟩
  ·have h := s93e
   refine xr (xm Z Z Z (xa (.i (s1_.length : Int)) Z (pu_lenM Z underlying22 (tm Z)) (xa (.i 0) Z (pu_move Z (AEv.int _ _)) (xe (aw_block (aw_while (σ := slices.EqualFunc_strings_slices_Equal_string.S0) (ν := Unit) (slices.EqualFunc_strings_slices_Equal_string.body0 s1_ s2_) (fun s84 v => [(1, .sl .no 1 (s2_.map av_List_List_UInt8)), (2, .fn 28 []), (15, .sl .no 1 (s1_.map av_List_List_UInt8)), (16, .i (s1_.length : Int)), (17, .i s84.t17)]) (fun s84 v => []) ⟨0⟩ () _ h (Weak.mkL [] (by decide) trivial ⟨tm Z, tm Z, tm Z, tm Z, tm Z, trivial⟩) ?_))))))
   rintro s84 _ x86 h hx85
   unfold slices.EqualFunc_strings_slices_Equal_string.body0 at h
   refine xr (xa (.bool (decide (s84.t17 < (s1_.length : Int)))) Z (pu_int (v := .bool (decide (s84.t17 < (s1_.length : Int)))) Z Z (tm Z) (tm Z) Z) (xe (aw_seq (aw_cond (b := decide (s84.t17 < (s1_.length : Int))) (tm Z) (fun hb92 => ?_) (fun hb92 => ?_)))))
   ·replace h := ite_t (dec_t hb92) h
    refine aw_skip (aw_seq (aw_block (xr (xm Z Z Z ?_))))
    obtain ⟨c88, h⟩ := need_of h
    refine xa (.vptr [.sl .no 1 ((ix s1_ s84.t17).map AV.str)]) Z (pu_indexAddrM Z underlying22 sizeOf49 (tm Z) (tm Z) c88 Z) (xc Z (op_loadV1 Z isAgg49 (tm Z) Z (xm Z Z Z (xm Z Z Z (xe (xr (xm Z Z Z (xm Z Z Z ?_))))))))
    obtain ⟨c89, h⟩ := need_of h
    refine xa (.vptr [.sl .no 1 ((ix s2_ s84.t17).map AV.str)]) Z (pu_indexAddrM Z underlying22 sizeOf49 (tm Z) (tm Z) c89 Z) (xc Z (op_loadV1 Z isAgg49 (tm Z) Z (xm Z Z Z (xe (xr (xm Z Z Z (xm Z Z Z (xm Z Z Z ?_))))))))
    obtain ⟨r90, r90e, h⟩ := bind_some h
    refine xc Z (op_callV (vs := [.sl .no 1 ((ix s1_ s84.t17).map AV.str), .sl .no 1 ((ix s2_ s84.t17).map AV.str)]) (H := []) Z (tm Z) call28 ⟨(tm Z), (tm Z), trivial⟩ (List.Perm.refl _) (slices.Equal_string.ok r90e) ?_)
    rintro _ _ ⟨rfl, rfl⟩
    refine xa (.bool (!r90)) Z (pu_not Z (tm Z)) (xe (aw_cond (b := (!r90)) (tm Z) (fun hb91 => ?_) (fun hb91 => ?_)))
    ·replace h := ite_t hb91 h
     refine xr (xa (.bool false) Z (pu_assign Z (AEv.bool _)) (xe (aw_ret ?_)))
     obtain rfl := some_of h
     have h := congrArg some (hx85 _ rfl)
     obtain rfl := some_of h
     have h := onSum_inr h70
     obtain rfl := some_of h
     exact ⟨[.bool false], _, [], ⟨(tm Z), trivial⟩, vr, Weak.mkL [] (by decide) trivial trivial, ⟨Z, Z⟩⟩
    ·replace h := ite_fb hb91 h
     refine aw_skip (aw_region (xa (.i (IntKind.wrap .i64 (s84.t17 + 1))) Z (pu_int (v := .i (IntKind.wrap .i64 (s84.t17 + 1))) Z Z (tm Z) (AEv.int _ _) Z) (xm Z Z Z (xe ?_))))
     obtain rfl := some_of h
     exact ⟨_, (), Z, Weak.mkL [] (by decide) trivial ⟨tm Z, tm Z, tm Z, tm Z, (AEv.le (tm Z) vr), trivial⟩⟩
   ·replace h := ite_f (dec_f hb92) h
    refine aw_exit ?_
    obtain rfl := some_of h
    have h := congrArg some (hx85 _ rfl)
    exact ⟨(), (), (some_of h).symm, Weak.mkL [] (by decide) trivial trivial⟩

theorem unit.Same.ok {a : api.Unit} {b : api.Unit} {r : Bool} (h : unit.Same a b = some r) : Go.Lift.Spec prog 12 [.agg [.sl .no 1 (a.Cmds.map av_List_List_UInt8)], .agg [.sl .no 1 (b.Cmds.map av_List_List_UInt8)]] [] (fun v H => v = .bool r ∧ H = []) := by
 unfold unit.Same at h
 refine Go.Lift.Spec.of_body (rs := [.tmp 4]) func12 Z Z (nb Z) Z (xr (xc Z (op_box (cs := [.sl .no 1 (a.Cmds.map av_List_List_UInt8)]) (v := .agg [.sl .no 1 (a.Cmds.map av_List_List_UInt8)]) Z (tm Z) Z Z ?_)))
 intro p4
 refine xc Z (op_box (cs := [.sl .no 1 (b.Cmds.map av_List_List_UInt8)]) (v := .agg [.sl .no 1 (b.Cmds.map av_List_List_UInt8)]) Z (tm Z) Z Z ?_)
 intro p5
 refine xa (.bool false) Z (pu_assign Z (AEv.bool _)) (xe (xr (xa (.ptr p4 0) Z (fa Z underlying24 Z sizeOf22 Z Z Z) (xc Z (op_load1 (i := 1) Z isAgg22 (tm Z) Z Z (xa (.ptr p5 0) Z (fa Z underlying24 Z sizeOf22 Z Z Z) (xc Z (op_load1 (i := 0) Z isAgg22 (tm Z) Z Z ?_))))))))
 obtain ⟨r6, r6e, h⟩ := bind_some h
 refine xc Z (op_call (vs := [.sl .no 1 (a.Cmds.map av_List_List_UInt8), .sl .no 1 (b.Cmds.map av_List_List_UInt8), .fn 28 []]) (H := []) Z call27 ⟨(tm Z), (tm Z), (AEv.func _), trivial⟩ (List.Perm.refl _) (slices.EqualFunc_strings_slices_Equal_string.ok r6e) ?_)
 rintro _ _ ⟨rfl, rfl⟩
 refine xm Z Z Z (xe (aw_ret ?_))
 obtain rfl := some_of h
 exact ⟨[.bool r6], _, [], ⟨(tm Z), trivial⟩, vr, Weak.mkL [] (by decide) trivial trivial, ⟨Z, Z⟩⟩

theorem mewslaw15.alive.ok  {r : Bool} (h : mewslaw15.alive = some r) : Go.Lift.Spec prog 9 [] [] (fun v H => v = .bool r ∧ H = []) := by
 unfold mewslaw15.alive at h
 refine Go.Lift.Spec.of_body (rs := [.tmp 0]) func9 Z Z (nb Z) Z (xr (xa (.bool false) Z (pu_assign Z (AEv.bool _)) (xe (xr (xc Z (op_buildSlice (xs := ([[80, 73, 78, 71]] : List (List UInt8)).map AV.str) (aparts := [(0, .str [80, 73, 78, 71])]) Z underlying49 sizeOf9 zeroValue9 (by decide) (by decide) ⟨Z, (AEv.const Z), trivial⟩ Z Z Z (xc Z (op_buildSlice (xs := ([[[80, 73, 78, 71]]] : List (List (List UInt8))).map av_List_List_UInt8) (aparts := [(0, .sl .no 1 ([[80, 73, 78, 71]].map AV.str))]) Z underlying22 sizeOf49 zeroValue49 (by decide) (by decide) ⟨Z, (AEv.le (tm Z) (AV.Le.forget _ _ _)), trivial⟩ Z Z Z (xa (.agg [.sl .full 1 ([[[80, 73, 78, 71]]].map av_List_List_UInt8)]) Z (pu_build (zs := [.sl .full 1 (([] : List (List (List UInt8))).map av_List_List_UInt8)]) (szs := [1]) (aparts := [(0, .sl .full 1 ([[[80, 73, 78, 71]]].map av_List_List_UInt8))]) (cs := [.sl .full 1 ([[[80, 73, 78, 71]]].map av_List_List_UInt8)]) Z underlying24 zeroValue24 Z ⟨sizeOf22, trivial⟩ ⟨Z, (tm Z), trivial⟩ Z) ?_)))))))))
 refine xc Z (op_alloc (cs := [.sl .full 1 (([] : List (List (List UInt8))).map av_List_List_UInt8)]) (v := .agg [.sl .full 1 (([] : List (List (List UInt8))).map av_List_List_UInt8)]) Z zeroValue24 Z Z Z ?_)
 intro p27
 refine ac0 Z Z (op_store (i := 0) (cs' := [.sl .full 1 ([[[80, 73, 78, 71]]].map av_List_List_UInt8)]) Z sizeOf24 (tm Z) (v := .agg [.sl .full 1 ([[[80, 73, 78, 71]]].map av_List_List_UInt8)]) (tm Z) Z Z Z (nb Z) Z (xe (xr (xc Z (op_loadN (i := 0) Z isAgg24 sizeOf24 (tm Z) Z (nb Z) Z ?_)))))
 obtain ⟨r28, r28e, h⟩ := bind_some h
 refine xc Z (op_call (vs := [.agg [.sl .no 1 ([[[80, 73, 78, 71]]].map av_List_List_UInt8)]]) (H := []) Z call10 ⟨(AEv.le (tm Z) (AV.Le.agg ⟨(AV.Le.forget _ _ _), trivial⟩)), trivial⟩ (List.Perm.refl _) (unit.Put.ok r28e) ?_)
 rintro _ _ ⟨rfl, rfl⟩
 refine xm Z Z Z (xa (.str r28.1) Z (pu_extract Z (tm Z) (nb Z) Z) (xa (.i r28.2) Z (pu_extract Z (tm Z) (nb Z) Z) (xm Z Z Z (xm Z Z Z (xe (xr (xm Z Z Z ?_)))))))
 obtain ⟨c29, h⟩ := need_of h
 refine xa (.str (r28.1 ++ [120])) Z (pu_strAdd Z (tm Z) (AEv.const Z) c29) ?_
 obtain ⟨r30, r30e, h⟩ := bind_some h
 refine xc Z (op_call (vs := [.str (r28.1 ++ [120])]) (H := []) Z call14 ⟨(tm Z), trivial⟩ (List.Perm.refl _) (unit.Take.ok r30e) ?_)
 rintro _ _ ⟨rfl, rfl⟩
 refine xm Z Z Z (xa (.agg [.sl .no 1 (r30.1.Cmds.map av_List_List_UInt8)]) Z (pu_extract Z (tm Z) (nb Z) Z) (xa (.i r30.2.1) Z (pu_extract Z (tm Z) (nb Z) Z) (xa (.i r30.2.2) Z (pu_extract Z (tm Z) (nb Z) Z) (xc Z (op_alloc (cs := [.sl .full 1 (([] : List (List (List UInt8))).map av_List_List_UInt8)]) (v := .agg [.sl .full 1 (([] : List (List (List UInt8))).map av_List_List_UInt8)]) Z zeroValue24 Z Z Z ?_)))))
 intro p31
 refine ac0 Z Z (op_store (i := 0) (cs' := [.sl .no 1 (r30.1.Cmds.map av_List_List_UInt8)]) Z sizeOf24 (tm Z) (v := .agg [.sl .no 1 (r30.1.Cmds.map av_List_List_UInt8)]) (tm Z) Z Z Z (nb Z) Z (xm Z Z Z (xm Z Z Z (xe (xr (xm Z Z Z (xm Z Z Z ?_)))))))
 obtain ⟨c32, h⟩ := need_of h
 refine xa (.str (r28.1 ++ r28.1)) Z (pu_strAdd Z (tm Z) (tm Z) c32) ?_
 obtain ⟨c33, h⟩ := need_of h
 refine xa (.str ((r28.1 ++ r28.1) ++ [120])) Z (pu_strAdd Z (tm Z) (AEv.const Z) c33) ?_
 obtain ⟨r34, r34e, h⟩ := bind_some h
 refine xc Z (op_call (vs := [.str ((r28.1 ++ r28.1) ++ [120])]) (H := []) Z call16 ⟨(tm Z), trivial⟩ (List.Perm.refl _) (unit.All.ok r34e) ?_)
 rintro _ _ ⟨t35, rfl, rfl⟩
 refine xm Z Z Z (xa (.sl (.own t35) 1 (r34.1.map api.Unit.av)) Z (pu_extract Z (tm Z) (nb Z) Z) (xa (.i r34.2) Z (pu_extract Z (tm Z) (nb Z) Z) (xm Z Z Z (xm Z Z Z (xe ?_)))))
 obtain ⟨s43, s43e, h44⟩ := bind_some h
 refine aw_meet (ν := Unit) (fun v => [(0, .bool s43)]) (fun v => []) ?_ ?_
 ·have h := s43e
  refine aw_region (xm Z Z Z (xa (.i (r28.1.length : Int)) Z (pu_strLen Z underlying9 (tm Z)) (xa (.bool (decide ((r28.1.length : Int) = 23))) Z (pu_int (v := .bool (decide ((r28.1.length : Int) = 23))) Z Z (tm Z) (AEv.int _ _) Z) (xm Z Z Z ?_))))
  rcases Bool.eq_false_or_eq_true (decide ((r28.1.length : Int) = 23)) with hb46 | hb46
  ·replace h := ite_t (dec_t hb46) h
   refine aops_known 35 Z hb46 (xq Z Z Z Z (xp (.bool (decide (r28.2 = 0))) Z Z (pu_int (v := .bool (decide (r28.2 = 0))) Z Z (tm Z) (AEv.int _ _) Z) (xa (.bool (decide (r28.2 = 0))) Z (pu_pick (b := true) Z (tm Z) (fun _ => (tm Z)) (fun h => nomatch h)) (xm Z Z Z ?_))))
   rcases Bool.eq_false_or_eq_true (decide (r28.2 = 0)) with hb47 | hb47
   ·replace h := ite_t (dec_t hb47) h
    refine aops_known 39 Z hb47 (xq Z Z Z Z (xp (.bool (decide (r30.2.2 = 0))) Z Z (pu_int (v := .bool (decide (r30.2.2 = 0))) Z Z (tm Z) (AEv.int _ _) Z) (xa (.bool (decide (r30.2.2 = 0))) Z (pu_pick (b := true) Z (tm Z) (fun _ => (tm Z)) (fun h => nomatch h)) (xm Z Z Z ?_))))
    rcases Bool.eq_false_or_eq_true (decide (r30.2.2 = 0)) with hb48 | hb48
    ·replace h := ite_t (dec_t hb48) h
     refine aops_known 43 Z hb48 (xq Z Z Z Z (xp (.bool (decide (r30.2.1 = 23))) Z Z (pu_int (v := .bool (decide (r30.2.1 = 23))) Z Z (tm Z) (AEv.int _ _) Z) (xa (.bool (decide (r30.2.1 = 23))) Z (pu_pick (b := true) Z (tm Z) (fun _ => (tm Z)) (fun h => nomatch h)) (xm Z Z Z ?_))))
     rcases Bool.eq_false_or_eq_true (decide (r30.2.1 = 23)) with hb49 | hb49
     ·replace h := ite_t (dec_t hb49) h
      refine aops_known 47 Z hb49 (xg Z Z (op_loadN (i := 2) Z isAgg24 sizeOf24 (tm Z) Z (nb Z) Z (xg Z Z (op_loadN (i := 1) Z isAgg24 sizeOf24 (tm Z) Z (nb Z) Z ?_))))
      obtain ⟨r50, r50e, h⟩ := bind_some h
      refine xg Z Z (op_call (vs := [.agg [.sl .no 1 ([[[80, 73, 78, 71]]].map av_List_List_UInt8)], .agg [.sl .no 1 (r30.1.Cmds.map av_List_List_UInt8)]]) (H := []) Z call12 ⟨(AEv.le (tm Z) (AV.Le.agg ⟨(AV.Le.forget _ _ _), trivial⟩)), (tm Z), trivial⟩ (List.Perm.refl _) (unit.Same.ok r50e) ?_)
      rintro _ _ ⟨rfl, rfl⟩
      refine xa (.bool r50) Z (pu_pick (b := true) Z (tm Z) (fun _ => (tm Z)) (fun h => nomatch h)) (xm Z Z Z ?_)
      rcases Bool.eq_false_or_eq_true r50 with hb51 | hb51
      ·replace h := ite_t hb51 h
       refine aops_known 52 Z hb51 (xq Z Z Z Z (xp (.i (r34.1.length : Int)) Z Z (pu_lenM Z underlying37 (tm Z)) (xp (.bool (decide ((r34.1.length : Int) = 2))) Z Z (pu_int (v := .bool (decide ((r34.1.length : Int) = 2))) Z Z (tm Z) (AEv.int _ _) Z) (xa (.bool (decide ((r34.1.length : Int) = 2))) Z (pu_pick (b := true) Z (tm Z) (fun _ => (tm Z)) (fun h => nomatch h)) (xm Z Z Z ?_)))))
       rcases Bool.eq_false_or_eq_true (decide ((r34.1.length : Int) = 2)) with hb52 | hb52
       ·replace h := ite_t (dec_t hb52) h
        refine aops_known 57 Z hb52 (xq Z Z Z Z (xp (.bool (decide (r34.2 = 46))) Z Z (pu_int (v := .bool (decide (r34.2 = 46))) Z Z (tm Z) (AEv.int _ _) Z) (xa (.bool (decide (r34.2 = 46))) Z (pu_pick (b := true) Z (tm Z) (fun _ => (tm Z)) (fun h => nomatch h)) (xm Z Z Z (xe ?_)))))
        obtain rfl := some_of h
        exact ⟨(), Weak.mkL [] (by decide) trivial ⟨(AEv.le (tm Z) vr), trivial⟩⟩
       ·replace h := ite_f (dec_f hb52) h
        refine aops_known 57 Z hb52 (xn Z Z Z (xn Z Z Z (xa (.bool false) Z (pu_pick (b := false) Z (tm Z) (fun h => nomatch h) (fun _ => (AEv.bool _))) (xm Z Z Z (xe ?_)))))
        obtain rfl := some_of h
        exact ⟨(), Weak.mkL [] (by decide) trivial ⟨tm Z, trivial⟩⟩
      ·replace h := ite_fb hb51 h
       refine aops_known 52 Z hb51 (xn Z Z Z (xn Z Z Z (xn Z Z Z (xa (.bool false) Z (pu_pick (b := false) Z (tm Z) (fun h => nomatch h) (fun _ => (AEv.bool _))) (xm Z Z Z (xn Z Z Z (xn Z Z Z (xa (.bool false) Z (pu_pick (b := false) Z (tm Z) (fun h => nomatch h) (fun _ => (AEv.bool _))) (xm Z Z Z ?_)))))))))
       refine xe ?_
       obtain rfl := some_of h
       exact ⟨(), Weak.mkL [] (by decide) trivial ⟨tm Z, trivial⟩⟩
     ·replace h := ite_f (dec_f hb49) h
      refine aops_known 47 Z hb49 (xn Z Z Z (xn Z Z Z (xn Z Z Z (xa (.bool false) Z (pu_pick (b := false) Z (tm Z) (fun h => nomatch h) (fun _ => (AEv.bool _))) (xm Z Z Z (xn Z Z Z (xn Z Z Z (xn Z Z Z (xa (.bool false) Z (pu_pick (b := false) Z (tm Z) (fun h => nomatch h) (fun _ => (AEv.bool _))) ?_)))))))))
      refine xm Z Z Z (xn Z Z Z (xn Z Z Z (xa (.bool false) Z (pu_pick (b := false) Z (tm Z) (fun h => nomatch h) (fun _ => (AEv.bool _))) (xm Z Z Z (xe ?_)))))
      obtain rfl := some_of h
      exact ⟨(), Weak.mkL [] (by decide) trivial ⟨tm Z, trivial⟩⟩
    ·replace h := ite_f (dec_f hb48) h
     refine aops_known 43 Z hb48 (xn Z Z Z (xn Z Z Z (xa (.bool false) Z (pu_pick (b := false) Z (tm Z) (fun h => nomatch h) (fun _ => (AEv.bool _))) (xm Z Z Z (xn Z Z Z (xn Z Z Z (xn Z Z Z (xa (.bool false) Z (pu_pick (b := false) Z (tm Z) (fun h => nomatch h) (fun _ => (AEv.bool _))) (xm Z Z Z ?_)))))))))
     refine xn Z Z Z (xn Z Z Z (xn Z Z Z (xa (.bool false) Z (pu_pick (b := false) Z (tm Z) (fun h => nomatch h) (fun _ => (AEv.bool _))) (xm Z Z Z (xn Z Z Z (xn Z Z Z (xa (.bool false) Z (pu_pick (b := false) Z (tm Z) (fun h => nomatch h) (fun _ => (AEv.bool _))) (xm Z Z Z (xe ?_)))))))))
     obtain rfl := some_of h
     exact ⟨(), Weak.mkL [] (by decide) trivial ⟨tm Z, trivial⟩⟩
   ·replace h := ite_f (dec_f hb47) h
    refine aops_known 39 Z hb47 (xn Z Z Z (xn Z Z Z (xa (.bool false) Z (pu_pick (b := false) Z (tm Z) (fun h => nomatch h) (fun _ => (AEv.bool _))) (xm Z Z Z (xn Z Z Z (xn Z Z Z (xa (.bool false) Z (pu_pick (b := false) Z (tm Z) (fun h => nomatch h) (fun _ => (AEv.bool _))) (xm Z Z Z (xn Z Z Z ?_)))))))))
    refine xn Z Z Z (xn Z Z Z (xa (.bool false) Z (pu_pick (b := false) Z (tm Z) (fun h => nomatch h) (fun _ => (AEv.bool _))) (xm Z Z Z (xn Z Z Z (xn Z Z Z (xn Z Z Z (xa (.bool false) Z (pu_pick (b := false) Z (tm Z) (fun h => nomatch h) (fun _ => (AEv.bool _))) (xm Z Z Z (xn Z Z Z ?_)))))))))
    refine xn Z Z Z (xa (.bool false) Z (pu_pick (b := false) Z (tm Z) (fun h => nomatch h) (fun _ => (AEv.bool _))) (xm Z Z Z (xe ?_)))
    obtain rfl := some_of h
    exact ⟨(), Weak.mkL [] (by decide) trivial ⟨tm Z, trivial⟩⟩
  ·replace h := ite_f (dec_f hb46) h
   refine aops_known 35 Z hb46 (xn Z Z Z (xn Z Z Z (xa (.bool false) Z (pu_pick (b := false) Z (tm Z) (fun h => nomatch h) (fun _ => (AEv.bool _))) (xm Z Z Z (xn Z Z Z (xn Z Z Z (xa (.bool false) Z (pu_pick (b := false) Z (tm Z) (fun h => nomatch h) (fun _ => (AEv.bool _))) (xm Z Z Z (xn Z Z Z ?_)))))))))
   refine xn Z Z Z (xa (.bool false) Z (pu_pick (b := false) Z (tm Z) (fun h => nomatch h) (fun _ => (AEv.bool _))) (xm Z Z Z (xn Z Z Z (xn Z Z Z (xn Z Z Z (xa (.bool false) Z (pu_pick (b := false) Z (tm Z) (fun h => nomatch h) (fun _ => (AEv.bool _))) (xm Z Z Z (xn Z Z Z (xn Z Z Z ?_)))))))))
   refine xn Z Z Z (xa (.bool false) Z (pu_pick (b := false) Z (tm Z) (fun h => nomatch h) (fun _ => (AEv.bool _))) (xm Z Z Z (xn Z Z Z (xn Z Z Z (xa (.bool false) Z (pu_pick (b := false) Z (tm Z) (fun h => nomatch h) (fun _ => (AEv.bool _))) (xm Z Z Z (xe ?_)))))))
   obtain rfl := some_of h
   exact ⟨(), Weak.mkL [] (by decide) trivial ⟨tm Z, trivial⟩⟩
 ·intro _
  have h := h44
  refine aw_ret ?_
  obtain rfl := some_of h
  exact ⟨[.bool s43], _, [], ⟨(tm Z), trivial⟩, vr, Weak.mkL [] (by decide) trivial trivial, ⟨Z, Z⟩⟩

theorem mewsref15.Same.ok {a : api.Unit} {b : api.Unit} {r : Bool} (h : mewsref15.Same a b = some r) : Go.Lift.Spec prog 13 [.agg [.sl .no 1 (a.Cmds.map av_List_List_UInt8)], .agg [.sl .no 1 (b.Cmds.map av_List_List_UInt8)]] [] (fun v H => v = .bool r ∧ H = []) := by
 unfold mewsref15.Same at h
 refine Go.Lift.Spec.of_body (rs := [.tmp 4]) func13 Z Z (nb Z) Z (xr (xc Z (op_box (cs := [.sl .no 1 (a.Cmds.map av_List_List_UInt8)]) (v := .agg [.sl .no 1 (a.Cmds.map av_List_List_UInt8)]) Z (tm Z) Z Z ?_)))
 intro p410
 refine xc Z (op_box (cs := [.sl .no 1 (b.Cmds.map av_List_List_UInt8)]) (v := .agg [.sl .no 1 (b.Cmds.map av_List_List_UInt8)]) Z (tm Z) Z Z ?_)
 intro p411
 refine xa (.bool false) Z (pu_assign Z (AEv.bool _)) (xe (aw_seq (xr (xa (.ptr p410 0) Z (fa Z underlying24 Z sizeOf22 Z Z Z) (xc Z (op_load1 (i := 1) Z isAgg22 (tm Z) Z Z (xa (.i (a.Cmds.length : Int)) Z (pu_lenM Z underlying22 (tm Z)) (xa (.ptr p411 0) Z (fa Z underlying24 Z sizeOf22 Z Z Z) (xc Z (op_load1 (i := 0) Z isAgg22 (tm Z) Z Z ?_))))))))))
 refine xa (.i (b.Cmds.length : Int)) Z (pu_lenM Z underlying22 (tm Z)) (xa (.bool (!decide ((a.Cmds.length : Int) = (b.Cmds.length : Int)))) Z (pu_int (v := .bool (!decide ((a.Cmds.length : Int) = (b.Cmds.length : Int)))) Z Z (tm Z) (tm Z) Z) (xe (aw_cond (b := (!decide ((a.Cmds.length : Int) = (b.Cmds.length : Int)))) (tm Z) (fun hb818 => ?_) (fun hb818 => ?_))))
 ·replace h := ite_f (ndec_t hb818) h
  refine xr (xa (.bool false) Z (pu_assign Z (AEv.bool _)) (xe (aw_ret ?_)))
  obtain rfl := some_of h
  exact ⟨[.bool false], _, [], ⟨(tm Z), trivial⟩, vr, Weak.mkL [] (by decide) trivial trivial, ⟨Z, Z⟩⟩
 ·replace h := ite_t (ndec_f hb818) h
  refine aw_skip ?_
  obtain ⟨s817, s817e, h614⟩ := bind_some h
  refine aw_join (σ := Unit) (ν := Unit) (fun u v => []) (fun u v => []) (fun u => s817 = .inl u) ?_ ?_
  ·intro s613
   intro _
   rintro rfl
   have h := onSum_inl h614
   refine xr (xa (.bool true) Z (pu_assign Z (AEv.bool _)) (xe (aw_ret ?_)))
   obtain rfl := some_of h
   exact ⟨[.bool true], _, [], ⟨(tm Z), trivial⟩, vr, Weak.mkL [] (by decide) trivial trivial, ⟨Z, Z⟩⟩
  ·have h := s817e
   refine xr (xa (.i 0) Z (pu_assign Z (AEv.int _ _)) (xe (aw_block (aw_while (σ := mewsref15.Same.S0) (ν := Unit) (mewsref15.Same.body0 a b) (fun s748 v => [(2, .ptr p410 0), (3, .ptr p411 0), (5, .i s748.i)]) (fun s748 v => [(p410, .cells [.sl .no 1 (a.Cmds.map av_List_List_UInt8)]), (p411, .cells [.sl .no 1 (b.Cmds.map av_List_List_UInt8)])]) ⟨0⟩ () _ h (Weak.mkL [1, 0] (by decide) ⟨⟨_, Z, ⟨vr, trivial⟩, Z⟩, ⟨_, Z, ⟨vr, trivial⟩, Z⟩, trivial⟩ ⟨tm Z, tm Z, tm Z, trivial⟩) ?_))))
   rintro s748 _ x750 h hx749
   unfold mewsref15.Same.body0 at h
   refine aw_seq (xr (xm Z Z Z (xa (.ptr p410 0) Z (fa Z underlying24 Z sizeOf22 Z Z Z) (xc Z (op_load1 (i := 0) Z isAgg22 (tm Z) Z Z (xa (.i (a.Cmds.length : Int)) Z (pu_lenM Z underlying22 (tm Z)) (xa (.bool (decide (s748.i < (a.Cmds.length : Int)))) Z (pu_int (v := .bool (decide (s748.i < (a.Cmds.length : Int)))) Z Z (tm Z) (tm Z) Z) (xe (aw_cond (b := decide (s748.i < (a.Cmds.length : Int))) (tm Z) (fun hb816 => ?_) (fun hb816 => ?_))))))))))
   ·replace h := ite_t (dec_t hb816) h
    refine aw_skip ?_
    obtain ⟨s815, s815e, h783⟩ := bind_some h
    refine aw_join (σ := Unit) (ν := Unit) (fun u v => [(2, .ptr p410 0), (3, .ptr p411 0), (5, .i s748.i)]) (fun u v => [(p410, .cells [.sl .no 1 (a.Cmds.map av_List_List_UInt8)]), (p411, .cells [.sl .no 1 (b.Cmds.map av_List_List_UInt8)])]) (fun u => s815 = .inl u) ?_ ?_
    ·intro s782
     intro _
     rintro rfl
     have h := onSum_inl h783
     refine aw_region (xm Z Z Z (xa (.i (IntKind.wrap .i64 (s748.i + 1))) Z (pu_int (v := .i (IntKind.wrap .i64 (s748.i + 1))) Z Z (tm Z) (AEv.int _ _) Z) (xm Z Z Z (xe ?_))))
     obtain rfl := some_of h
     exact ⟨_, (), Z, Weak.mkL [0, 1] (by decide) ⟨⟨_, Z, ⟨vr, trivial⟩, Z⟩, ⟨_, Z, ⟨vr, trivial⟩, Z⟩, trivial⟩ ⟨tm Z, tm Z, (AEv.le (tm Z) vr), trivial⟩⟩
    ·have h := s815e
     refine aw_block (aw_seq (aw_seq ?_))
     obtain ⟨c785, h⟩ := need_of h
     obtain ⟨c786, h⟩ := need_of h
     refine aw_planR (by decide +kernel) [[], [(0, 0, false)], [], [], [], [], [], [(1, 0, false)], [], [], [], [], []] [[], []] [[[(p410, .cells [.sl .no 1 (a.Cmds.map av_List_List_UInt8)])]], [[(p411, .cells [.sl .no 1 (b.Cmds.map av_List_List_UInt8)])]]] [.ptr p410 0, .sl .no 1 (a.Cmds.map av_List_List_UInt8), .i s748.i, .vptr [.sl .no 1 ((ix a.Cmds s748.i).map AV.str)], .sl .no 1 ((ix a.Cmds s748.i).map AV.str), .i ((ix a.Cmds s748.i).length : Int), .ptr p411 0, .sl .no 1 (b.Cmds.map av_List_List_UInt8), .i s748.i, .vptr [.sl .no 1 ((ix b.Cmds s748.i).map AV.str)], .sl .no 1 ((ix b.Cmds s748.i).map AV.str), .i ((ix b.Cmds s748.i).length : Int), .bool (!decide (((ix a.Cmds s748.i).length : Int) = ((ix b.Cmds s748.i).length : Int)))] (by decide +kernel) Z Z ?_ ?_
     ·exact ⟨yp Z (fa Z underlying24 Z sizeOf22 Z Z Z), stepg_plain Z (op_load1 (i := 0) Z isAgg22 (tm Z) Z Z ⟨Z, Z⟩), ym Z Z Z, yp Z (pu_indexAddrM Z underlying22 sizeOf49 (tm Z) (tm Z) c785 Z), stepg_plain Z (op_loadV1 Z isAgg49 (tm Z) Z ⟨Z, Z⟩), yp Z (pu_lenM Z underlying49 (tm Z)), yp Z (fa Z underlying24 Z sizeOf22 Z Z Z), stepg_plain Z (op_load1 (i := 0) Z isAgg22 (tm Z) Z Z ⟨Z, Z⟩), ym Z Z Z, yp Z (pu_indexAddrM Z underlying22 sizeOf49 (tm Z) (tm Z) c786 Z), stepg_plain Z (op_loadV1 Z isAgg49 (tm Z) Z ⟨Z, Z⟩), yp Z (pu_lenM Z underlying49 (tm Z)), yp Z (pu_int (v := .bool (!decide (((ix a.Cmds s748.i).length : Int) = ((ix b.Cmds s748.i).length : Int)))) Z Z (tm Z) (tm Z) Z), trivial⟩
     refine aw_cond (b := (!decide (((ix a.Cmds s748.i).length : Int) = ((ix b.Cmds s748.i).length : Int)))) (tm Z) (fun hb814 => ?_) (fun hb814 => ?_)
     ·replace h := ite_f (ndec_t hb814) h
      refine xr (xa (.bool false) Z (pu_assign Z (AEv.bool _)) (xe (aw_ret ?_)))
      obtain rfl := some_of h
      have h := onSum_inr h783
      obtain rfl := some_of h
      have h := congrArg some (hx749 _ rfl)
      obtain rfl := some_of h
      have h := onSum_inr h614
      obtain rfl := some_of h
      exact ⟨[.bool false], _, [], ⟨(tm Z), trivial⟩, vr, Weak.mkL [] (by decide) trivial trivial, ⟨Z, Z⟩⟩
     ·replace h := ite_t (ndec_f hb814) h
      refine aw_skip (xr (xa (.i 0) Z (pu_assign Z (AEv.int _ _)) (xe (aw_block (aw_while (σ := mewsref15.Same.S2) (ν := Unit) (mewsref15.Same.body2 s748 a b) (fun s803 v => [(2, .ptr p410 0), (3, .ptr p411 0), (5, .i s748.i), (6, .i s803.k)]) (fun s803 v => [(p410, .cells [.sl .no 1 (a.Cmds.map av_List_List_UInt8)]), (p411, .cells [.sl .no 1 (b.Cmds.map av_List_List_UInt8)])]) ⟨0⟩ () _ h (Weak.mkL [0, 1] (by decide) ⟨⟨_, Z, ⟨vr, trivial⟩, Z⟩, ⟨_, Z, ⟨vr, trivial⟩, Z⟩, trivial⟩ ⟨tm Z, tm Z, tm Z, tm Z, trivial⟩) ?_)))))
      rintro s803 _ x805 h hx804
      unfold mewsref15.Same.body2 at h
      refine aw_seq (xr (xm Z Z Z (xa (.ptr p410 0) Z (fa Z underlying24 Z sizeOf22 Z Z Z) (xc Z (op_load1 (i := 0) Z isAgg22 (tm Z) Z Z (xm Z Z Z ?_))))))
      obtain ⟨c807, h⟩ := need_of h
      refine xa (.vptr [.sl .no 1 ((ix a.Cmds s748.i).map AV.str)]) Z (pu_indexAddrM Z underlying22 sizeOf49 (tm Z) (tm Z) c807 Z) (xc Z (op_loadV1 Z isAgg49 (tm Z) Z (xa (.i ((ix a.Cmds s748.i).length : Int)) Z (pu_lenM Z underlying49 (tm Z)) (xa (.bool (decide (s803.k < ((ix a.Cmds s748.i).length : Int)))) Z (pu_int (v := .bool (decide (s803.k < ((ix a.Cmds s748.i).length : Int)))) Z Z (tm Z) (tm Z) Z) (xe (aw_cond (b := decide (s803.k < ((ix a.Cmds s748.i).length : Int))) (tm Z) (fun hb813 => ?_) (fun hb813 => ?_)))))))
      ·replace h := ite_t (dec_t hb813) h
       refine aw_skip (aw_seq (aw_block (aw_seq ?_)))
       obtain ⟨c808, h⟩ := need_of h
       obtain ⟨c809, h⟩ := need_of h
       obtain ⟨c810, h⟩ := need_of h
       obtain ⟨c811, h⟩ := need_of h
       refine aw_planR (by decide +kernel) [[], [(0, 0, false)], [], [], [], [], [], [], [], [(1, 0, false)], [], [], [], [], [], [], []] [[], []] [[[(p410, .cells [.sl .no 1 (a.Cmds.map av_List_List_UInt8)])]], [[(p411, .cells [.sl .no 1 (b.Cmds.map av_List_List_UInt8)])]]] [.ptr p410 0, .sl .no 1 (a.Cmds.map av_List_List_UInt8), .i s748.i, .vptr [.sl .no 1 ((ix a.Cmds s748.i).map AV.str)], .sl .no 1 ((ix a.Cmds s748.i).map AV.str), .i s803.k, .vptr [.str (ix (ix a.Cmds s748.i) s803.k)], .str (ix (ix a.Cmds s748.i) s803.k), .ptr p411 0, .sl .no 1 (b.Cmds.map av_List_List_UInt8), .i s748.i, .vptr [.sl .no 1 ((ix b.Cmds s748.i).map AV.str)], .sl .no 1 ((ix b.Cmds s748.i).map AV.str), .i s803.k, .vptr [.str (ix (ix b.Cmds s748.i) s803.k)], .str (ix (ix b.Cmds s748.i) s803.k), .bool (!decide ((ix (ix a.Cmds s748.i) s803.k) = (ix (ix b.Cmds s748.i) s803.k)))] (by decide +kernel) Z Z ?_ ?_
       ·exact ⟨yp Z (fa Z underlying24 Z sizeOf22 Z Z Z), stepg_plain Z (op_load1 (i := 0) Z isAgg22 (tm Z) Z Z ⟨Z, Z⟩), ym Z Z Z, yp Z (pu_indexAddrM Z underlying22 sizeOf49 (tm Z) (tm Z) c808 Z), stepg_plain Z (op_loadV1 Z isAgg49 (tm Z) Z ⟨Z, Z⟩), ym Z Z Z, yp Z (pu_indexAddrM Z underlying49 sizeOf9 (tm Z) (tm Z) c809 Z), stepg_plain Z (op_loadV1 Z isAgg9 (tm Z) Z ⟨Z, Z⟩), yp Z (fa Z underlying24 Z sizeOf22 Z Z Z), stepg_plain Z (op_load1 (i := 0) Z isAgg22 (tm Z) Z Z ⟨Z, Z⟩), ym Z Z Z, yp Z (pu_indexAddrM Z underlying22 sizeOf49 (tm Z) (tm Z) c810 Z), stepg_plain Z (op_loadV1 Z isAgg49 (tm Z) Z ⟨Z, Z⟩), ym Z Z Z, yp Z (pu_indexAddrM Z underlying49 sizeOf9 (tm Z) (tm Z) c811 Z), stepg_plain Z (op_loadV1 Z isAgg9 (tm Z) Z ⟨Z, Z⟩), yp Z (pu_str (v := .bool (!decide ((ix (ix a.Cmds s748.i) s803.k) = (ix (ix b.Cmds s748.i) s803.k)))) Z Z (tm Z) (tm Z) Z), trivial⟩
       refine aw_cond (b := (!decide ((ix (ix a.Cmds s748.i) s803.k) = (ix (ix b.Cmds s748.i) s803.k)))) (tm Z) (fun hb812 => ?_) (fun hb812 => ?_)
       ·replace h := ite_f (ndec_t hb812) h
        refine xr (xa (.bool false) Z (pu_assign Z (AEv.bool _)) (xe (aw_ret ?_)))
        obtain rfl := some_of h
        have h := congrArg some (hx804 _ rfl)
        obtain rfl := some_of h
        have h := onSum_inr h783
        obtain rfl := some_of h
        have h := congrArg some (hx749 _ rfl)
        obtain rfl := some_of h
        have h := onSum_inr h614
        obtain rfl := some_of h
        exact ⟨[.bool false], _, [], ⟨(tm Z), trivial⟩, vr, Weak.mkL [] (by decide) trivial trivial, ⟨Z, Z⟩⟩
       ·replace h := ite_t (ndec_f hb812) h
        refine aw_skip (aw_region (xm Z Z Z (xa (.i (IntKind.wrap .i64 (s803.k + 1))) Z (pu_int (v := .i (IntKind.wrap .i64 (s803.k + 1))) Z Z (tm Z) (AEv.int _ _) Z) (xm Z Z Z (xe ?_)))))
        obtain rfl := some_of h
        exact ⟨_, (), Z, Weak.mkL [0, 1] (by decide) ⟨⟨_, Z, ⟨vr, trivial⟩, Z⟩, ⟨_, Z, ⟨vr, trivial⟩, Z⟩, trivial⟩ ⟨tm Z, tm Z, tm Z, (AEv.le (tm Z) vr), trivial⟩⟩
      ·replace h := ite_f (dec_f hb813) h
       refine aw_exit ?_
       obtain rfl := some_of h
       have h := congrArg some (hx804 _ rfl)
       exact ⟨(), (), (some_of h).symm, Weak.mkL [0, 1] (by decide) ⟨⟨_, Z, ⟨vr, trivial⟩, Z⟩, ⟨_, Z, ⟨vr, trivial⟩, Z⟩, trivial⟩ ⟨tm Z, tm Z, tm Z, trivial⟩⟩
   ·replace h := ite_f (dec_f hb816) h
    refine aw_exit ?_
    obtain rfl := some_of h
    have h := congrArg some (hx749 _ rfl)
    exact ⟨(), (), (some_of h).symm, Weak.mkL [] (by decide) trivial trivial⟩

theorem mewsref15.SameAll.ok {a : List api.Unit} {b : List api.Unit} {r : Bool} (h : mewsref15.SameAll a b = some r) : Go.Lift.Spec prog 18 [.sl .no 1 (a.map api.Unit.av), .sl .no 1 (b.map api.Unit.av)] [] (fun v H => v = .bool r ∧ H = []) := by
 unfold mewsref15.SameAll at h
 refine Go.Lift.Spec.of_body (rs := [.tmp 4]) func18 Z Z (nb Z) Z (xr (xa (.bool false) Z (pu_assign Z (AEv.bool _)) (xe (aw_seq (xr (xm Z Z Z (xa (.i (a.length : Int)) Z (pu_lenM Z underlying37 (tm Z)) ?_)))))))
 refine xm Z Z Z (xa (.i (b.length : Int)) Z (pu_lenM Z underlying37 (tm Z)) (xa (.bool (!decide ((a.length : Int) = (b.length : Int)))) Z (pu_int (v := .bool (!decide ((a.length : Int) = (b.length : Int)))) Z Z (tm Z) (tm Z) Z) (xe (aw_cond (b := (!decide ((a.length : Int) = (b.length : Int)))) (tm Z) (fun hb94 => ?_) (fun hb94 => ?_)))))
 ·replace h := ite_f (ndec_t hb94) h
  refine xr (xa (.bool false) Z (pu_assign Z (AEv.bool _)) (xe (aw_ret ?_)))
  obtain rfl := some_of h
  exact ⟨[.bool false], _, [], ⟨(tm Z), trivial⟩, vr, Weak.mkL [] (by decide) trivial trivial, ⟨Z, Z⟩⟩
 ·replace h := ite_t (ndec_f hb94) h
  refine aw_skip ?_
  obtain ⟨s93, s93e, h70⟩ := bind_some h
  refine aw_join (σ := Unit) (ν := Unit) (fun u v => []) (fun u v => []) (fun u => s93 = .inl u) ?_ ?_
  ·intro s69
   intro _
   rintro rfl
   have h := onSum_inl h70
   refine xr (xa (.bool true) Z (pu_assign Z (AEv.bool _)) (xe (aw_ret ?_)))
   obtain rfl := some_of h
   exact ⟨[.bool true], _, [], ⟨(tm Z), trivial⟩, vr, Weak.mkL [] (by decide) trivial trivial, ⟨Z, Z⟩⟩
  ·have h := s93e
   refine xr (xa (.i 0) Z (pu_assign Z (AEv.int _ _)) (xe (aw_block (aw_while (σ := mewsref15.SameAll.S0) (ν := Unit) (mewsref15.SameAll.body0 a b) (fun s84 v => [(0, .sl .no 1 (a.map api.Unit.av)), (1, .sl .no 1 (b.map api.Unit.av)), (5, .i s84.i)]) (fun s84 v => []) ⟨0⟩ () _ h (Weak.mkL [] (by decide) trivial ⟨tm Z, tm Z, tm Z, trivial⟩) ?_))))
   rintro s84 _ x86 h hx85
   unfold mewsref15.SameAll.body0 at h
   refine aw_seq (xr (xm Z Z Z (xm Z Z Z (xa (.i (a.length : Int)) Z (pu_lenM Z underlying37 (tm Z)) (xa (.bool (decide (s84.i < (a.length : Int)))) Z (pu_int (v := .bool (decide (s84.i < (a.length : Int)))) Z Z (tm Z) (tm Z) Z) (xe (aw_cond (b := decide (s84.i < (a.length : Int))) (tm Z) (fun hb92 => ?_) (fun hb92 => ?_))))))))
   ·replace h := ite_t (dec_t hb92) h
    refine aw_skip (aw_seq (aw_block (aw_seq ?_)))
    obtain ⟨c88, h⟩ := need_of h
    obtain ⟨c89, h⟩ := need_of h
    obtain ⟨r90, r90e, h⟩ := bind_some h
    refine aw_planR (by decide +kernel) [[], [], [], [], [], [], [], [], [], []] [] [] [.sl .no 1 (a.map api.Unit.av), .i s84.i, .vptr [.sl .no 1 ((ix a s84.i).Cmds.map av_List_List_UInt8)], .agg [.sl .no 1 ((ix a s84.i).Cmds.map av_List_List_UInt8)], .sl .no 1 (b.map api.Unit.av), .i s84.i, .vptr [.sl .no 1 ((ix b s84.i).Cmds.map av_List_List_UInt8)], .agg [.sl .no 1 ((ix b s84.i).Cmds.map av_List_List_UInt8)], .bool r90, .bool (!r90)] (by decide +kernel) Z Z ?_ ?_
    ·exact ⟨ym Z Z Z, ym Z Z Z, yp Z (pu_indexAddrM Z underlying37 sizeOf24 (tm Z) (tm Z) c88 Z), stepg_plain Z (op_loadVN Z isAgg24 sizeOf24 (tm Z) (nb Z) Z ⟨Z, Z⟩), ym Z Z Z, ym Z Z Z, yp Z (pu_indexAddrM Z underlying37 sizeOf24 (tm Z) (tm Z) c89 Z), stepg_plain Z (op_loadVN Z isAgg24 sizeOf24 (tm Z) (nb Z) Z ⟨Z, Z⟩), stepg_plain Z (op_call (vs := [.agg [.sl .no 1 ((ix a s84.i).Cmds.map av_List_List_UInt8)], .agg [.sl .no 1 ((ix b s84.i).Cmds.map av_List_List_UInt8)]]) (H := []) Z call13 ⟨(tm Z), (tm Z), trivial⟩ (R := []) (List.Perm.refl _) (mewsref15.Same.ok r90e) (by rintro _ _ ⟨rfl, rfl⟩; exact ⟨Z, Z⟩)), yp Z (pu_not Z (tm Z)), trivial⟩
    refine aw_cond (b := (!r90)) (tm Z) (fun hb91 => ?_) (fun hb91 => ?_)
    ·replace h := ite_t hb91 h
     refine xr (xa (.bool false) Z (pu_assign Z (AEv.bool _)) (xe (aw_ret ?_)))
     obtain rfl := some_of h
     have h := congrArg some (hx85 _ rfl)
     obtain rfl := some_of h
     have h := onSum_inr h70
     obtain rfl := some_of h
     exact ⟨[.bool false], _, [], ⟨(tm Z), trivial⟩, vr, Weak.mkL [] (by decide) trivial trivial, ⟨Z, Z⟩⟩
    ·replace h := ite_fb hb91 h
     refine aw_skip (aw_region (xm Z Z Z (xa (.i (IntKind.wrap .i64 (s84.i + 1))) Z (pu_int (v := .i (IntKind.wrap .i64 (s84.i + 1))) Z Z (tm Z) (AEv.int _ _) Z) (xm Z Z Z (xe ?_)))))
     obtain rfl := some_of h
     exact ⟨_, (), Z, Weak.mkL [] (by decide) trivial ⟨tm Z, tm Z, (AEv.le (tm Z) vr), trivial⟩⟩
   ·replace h := ite_f (dec_f hb92) h
    refine aw_exit ?_
    obtain rfl := some_of h
    have h := congrArg some (hx85 _ rfl)
    exact ⟨(), (), (some_of h).symm, Weak.mkL [] (by decide) trivial trivial⟩

theorem mewslaw15.UnitBack.ok {u_ : api.Unit} {behind : List UInt8} {at_ : Int} {r : Bool} (h : mewslaw15.UnitBack u_ behind at_ = some r) : Go.Lift.Spec prog 5 [.agg [.sl .no 1 (u_.Cmds.map av_List_List_UInt8)], .str behind, .i at_] [] (fun v H => v = .bool r ∧ H = []) := by
 unfold mewslaw15.UnitBack at h
 refine Go.Lift.Spec.of_body (rs := [.tmp 6]) func5 Z Z (nb Z) Z (xr (xc Z (op_box (cs := [.sl .no 1 (u_.Cmds.map av_List_List_UInt8)]) (v := .agg [.sl .no 1 (u_.Cmds.map av_List_List_UInt8)]) Z (tm Z) Z Z ?_)))
 intro p49
 refine xa (.bool false) Z (pu_assign Z (AEv.bool _)) (xe (aw_seq ?_))
 obtain ⟨s52, s52e, h53⟩ := bind_some h
 refine aw_meet (ν := Unit) (fun v => [(1, .str behind), (2, .i at_), (3, .ptr p49 0), (22, .bool s52)]) (fun v => [(p49, .cells [.sl .no 1 (u_.Cmds.map av_List_List_UInt8)])]) ?_ ?_
 ·have h := s52e
  refine aw_region (xc Z (op_loadN (i := 0) Z isAgg24 sizeOf24 (tm Z) Z (nb Z) Z (xc Z (op_buildSlice (xs := ([u_] : List api.Unit).map api.Unit.av) (aparts := [(0, .agg [.sl .no 1 (u_.Cmds.map av_List_List_UInt8)])]) Z underlying37 sizeOf24 zeroValue24 (by decide) (by decide) ⟨Z, (tm Z), trivial⟩ Z Z Z ?_))))
  obtain ⟨r55, r55e, h⟩ := bind_some h
  refine xc Z (op_call (vs := [.sl .no 1 ([u_].map api.Unit.av)]) (H := []) Z call8 ⟨(AEv.le (tm Z) (AV.Le.forget _ _ _)), trivial⟩ (List.Perm.refl _) (mewslaw15.Far.ok r55e) ?_)
  rintro _ _ ⟨rfl, rfl⟩
  refine xm Z Z Z ?_
  rcases Bool.eq_false_or_eq_true r55 with hb56 | hb56
  ·replace h := ite_t hb56 h
   refine aops_known 18 Z hb56 (xn Z Z Z (xn Z Z Z (xn Z Z Z (xa (.bool true) Z (pu_pick (b := true) Z (tm Z) (fun _ => (AEv.bool _)) (fun h => nomatch h)) (xe ?_)))))
   obtain rfl := some_of h
   exact ⟨(), Weak.mkL [0] (by decide) ⟨⟨_, Z, ⟨vr, trivial⟩, Z⟩, trivial⟩ ⟨tm Z, tm Z, tm Z, tm Z, trivial⟩⟩
  ·replace h := ite_fb hb56 h
   refine aops_known 18 Z hb56 (xq Z Z Z Z (xp (.i (behind.length : Int)) Z Z (pu_strLen Z underlying9 (tm Z)) (xp (.bool (decide (1000 < (behind.length : Int)))) Z Z (pu_int (v := .bool (decide (1000 < (behind.length : Int)))) Z Z (tm Z) (AEv.int _ _) Z) (xa (.bool (decide (1000 < (behind.length : Int)))) Z (pu_pick (b := false) Z (tm Z) (fun h => nomatch h) (fun _ => (tm Z))) (xe ?_)))))
   obtain rfl := some_of h
   exact ⟨(), Weak.mkL [0] (by decide) ⟨⟨_, Z, ⟨vr, trivial⟩, Z⟩, trivial⟩ ⟨tm Z, tm Z, tm Z, (AEv.le (tm Z) vr), trivial⟩⟩
 ·intro _
  have h := h53
  refine aw_cond (b := s52) (tm Z) (fun hb96 => ?_) (fun hb96 => ?_)
  ·replace h := ite_t hb96 h
   refine aw_seq (aw_region ?_)
   obtain ⟨r57, r57e, h⟩ := bind_some h
   refine xc Z (op_call (vs := []) (H := []) Z call9 trivial (List.Perm.refl _) (mewslaw15.alive.ok r57e) ?_)
   rintro _ _ ⟨rfl, rfl⟩
   refine xm Z Z Z (xe (aw_ret ?_))
   obtain rfl := some_of h
   exact ⟨[.bool r57], _, [], ⟨(tm Z), trivial⟩, vr, Weak.mkL [] (by decide) trivial trivial, ⟨Z, Z⟩⟩
  ·replace h := ite_fb hb96 h
   refine aw_skip (xr (xc Z (op_loadN (i := 0) Z isAgg24 sizeOf24 (tm Z) Z (nb Z) Z ?_)))
   obtain ⟨r58, r58e, h⟩ := bind_some h
   refine xc Z (op_call (vs := [.agg [.sl .no 1 (u_.Cmds.map av_List_List_UInt8)]]) (H := []) Z call10 ⟨(tm Z), trivial⟩ (List.Perm.refl _) (unit.Put.ok r58e) ?_)
   rintro _ _ ⟨rfl, rfl⟩
   refine xm Z Z Z (xa (.str r58.1) Z (pu_extract Z (tm Z) (nb Z) Z) (xa (.i r58.2) Z (pu_extract Z (tm Z) (nb Z) Z) (xm Z Z Z (xm Z Z Z (xe (aw_seq (xr (xm Z Z Z ?_))))))))
   refine xa (.bool (!decide (r58.2 = 0))) Z (pu_int (v := .bool (!decide (r58.2 = 0))) Z Z (tm Z) (AEv.int _ _) Z) (xe (aw_cond (b := (!decide (r58.2 = 0))) (tm Z) (fun hb95 => ?_) (fun hb95 => ?_)))
   ·replace h := ite_f (ndec_t hb95) h
    obtain ⟨s61, s61e, h62⟩ := bind_some h
    refine aw_meet (ν := Unit) (fun v => [(6, .bool s61)]) (fun v => []) ?_ ?_
    ·have h := s61e
     refine aw_region (xm Z Z Z (xa (.bool (decide (r58.1 = ([] : List UInt8)))) Z (pu_str (v := .bool (decide (r58.1 = ([] : List UInt8)))) Z Z (tm Z) (AEv.const Z) Z) (xm Z Z Z ?_)))
     rcases Bool.eq_false_or_eq_true (decide (r58.1 = ([] : List UInt8))) with hb64 | hb64
     ·replace h := ite_t (dec_t hb64) h
      refine aops_known 33 Z hb64 ?_
      obtain ⟨r65, r65e, h⟩ := bind_some h
      refine xg Z Z (op_call (vs := []) (H := []) Z call9 trivial (List.Perm.refl _) (mewslaw15.alive.ok r65e) ?_)
      rintro _ _ ⟨rfl, rfl⟩
      refine xa (.bool r65) Z (pu_pick (b := true) Z (tm Z) (fun _ => (tm Z)) (fun h => nomatch h)) (xm Z Z Z (xe ?_))
      obtain rfl := some_of h
      exact ⟨(), Weak.mkL [] (by decide) trivial ⟨tm Z, trivial⟩⟩
     ·replace h := ite_f (dec_f hb64) h
      refine aops_known 33 Z hb64 (xn Z Z Z (xa (.bool false) Z (pu_pick (b := false) Z (tm Z) (fun h => nomatch h) (fun _ => (AEv.bool _))) (xm Z Z Z (xe ?_))))
      obtain rfl := some_of h
      exact ⟨(), Weak.mkL [] (by decide) trivial ⟨tm Z, trivial⟩⟩
    ·intro _
     have h := h62
     refine aw_ret ?_
     obtain rfl := some_of h
     exact ⟨[.bool s61], _, [], ⟨(tm Z), trivial⟩, vr, Weak.mkL [] (by decide) trivial trivial, ⟨Z, Z⟩⟩
   ·replace h := ite_t (ndec_f hb95) h
    refine aw_skip (xr (xm Z Z Z (xm Z Z Z ?_)))
    obtain ⟨c66, h⟩ := need_of h
    refine xa (.str (r58.1 ++ behind)) Z (pu_strAdd Z (tm Z) (tm Z) c66) ?_
    obtain ⟨r67, r67e, h⟩ := bind_some h
    refine xc Z (op_call (vs := [.str (r58.1 ++ behind)]) (H := []) Z call14 ⟨(tm Z), trivial⟩ (List.Perm.refl _) (unit.Take.ok r67e) ?_)
    rintro _ _ ⟨rfl, rfl⟩
    refine xm Z Z Z (xa (.agg [.sl .no 1 (r67.1.Cmds.map av_List_List_UInt8)]) Z (pu_extract Z (tm Z) (nb Z) Z) (xa (.i r67.2.1) Z (pu_extract Z (tm Z) (nb Z) Z) (xa (.i r67.2.2) Z (pu_extract Z (tm Z) (nb Z) Z) (xc Z (op_alloc (cs := [.sl .full 1 (([] : List (List (List UInt8))).map av_List_List_UInt8)]) (v := .agg [.sl .full 1 (([] : List (List (List UInt8))).map av_List_List_UInt8)]) Z zeroValue24 Z Z Z ?_)))))
    intro p68
    refine ac0 Z Z (op_store (i := 0) (cs' := [.sl .no 1 (r67.1.Cmds.map av_List_List_UInt8)]) Z sizeOf24 (tm Z) (v := .agg [.sl .no 1 (r67.1.Cmds.map av_List_List_UInt8)]) (tm Z) Z Z Z (nb Z) Z (xm Z Z Z (xm Z Z Z (xe (aw_seq ?_)))))
    obtain ⟨s73, s73e, h74⟩ := bind_some h
    refine aw_meet (ν := Unit) (fun v => [(2, .i at_), (7, .str r58.1), (10, .i r67.2.1), (61, .bool s73)]) (fun v => []) ?_ ?_
    ·have h := s73e
     refine aw_region (xm Z Z Z (xa (.bool (!decide (r67.2.2 = 0))) Z (pu_int (v := .bool (!decide (r67.2.2 = 0))) Z Z (tm Z) (AEv.int _ _) Z) (xm Z Z Z ?_)))
     rcases Bool.eq_false_or_eq_true (!decide (r67.2.2 = 0)) with hb76 | hb76
     ·replace h := ite_f (ndec_t hb76) h
      refine aops_known 46 Z hb76 (xn Z Z Z (xn Z Z Z (xn Z Z Z (xn Z Z Z (xa (.bool true) Z (pu_pick (b := true) Z (tm Z) (fun _ => (AEv.bool _)) (fun h => nomatch h)) (xm Z Z Z (xn Z Z Z (xn Z Z Z (xa (.bool true) Z (pu_pick (b := true) Z (tm Z) (fun _ => (AEv.bool _)) (fun h => nomatch h)) ?_)))))))))
      refine xm Z Z Z (xn Z Z Z (xn Z Z Z (xn Z Z Z (xn Z Z Z (xa (.bool true) Z (pu_pick (b := true) Z (tm Z) (fun _ => (AEv.bool _)) (fun h => nomatch h)) (xe ?_))))))
      obtain rfl := some_of h
      exact ⟨(), Weak.mkL [] (by decide) trivial ⟨tm Z, tm Z, tm Z, tm Z, trivial⟩⟩
     ·replace h := ite_t (ndec_f hb76) h
      refine aops_known 46 Z hb76 (xq Z Z Z Z (xq Z Z Z Z (xp (.i (r58.1.length : Int)) Z Z (pu_strLen Z underlying9 (tm Z)) (xp (.bool (!decide (r67.2.1 = (r58.1.length : Int)))) Z Z (pu_int (v := .bool (!decide (r67.2.1 = (r58.1.length : Int)))) Z Z (tm Z) (tm Z) Z) (xa (.bool (!decide (r67.2.1 = (r58.1.length : Int)))) Z (pu_pick (b := false) Z (tm Z) (fun h => nomatch h) (fun _ => (tm Z))) (xm Z Z Z ?_))))))
      rcases Bool.eq_false_or_eq_true (!decide (r67.2.1 = (r58.1.length : Int))) with hb77 | hb77
      ·replace h := ite_f (ndec_t hb77) h
       refine aops_known 52 Z hb77 (xn Z Z Z (xn Z Z Z (xa (.bool true) Z (pu_pick (b := true) Z (tm Z) (fun _ => (AEv.bool _)) (fun h => nomatch h)) (xm Z Z Z (xn Z Z Z (xn Z Z Z (xn Z Z Z (xn Z Z Z (xa (.bool true) Z (pu_pick (b := true) Z (tm Z) (fun _ => (AEv.bool _)) (fun h => nomatch h)) ?_)))))))))
       refine xe ?_
       obtain rfl := some_of h
       exact ⟨(), Weak.mkL [] (by decide) trivial ⟨tm Z, tm Z, tm Z, tm Z, trivial⟩⟩
      ·replace h := ite_t (ndec_f hb77) h
       refine aops_known 52 Z hb77 (xq Z Z Z Z (xp (.bool (decide (r67.2.1 < 1))) Z Z (pu_int (v := .bool (decide (r67.2.1 < 1))) Z Z (tm Z) (AEv.int _ _) Z) (xa (.bool (decide (r67.2.1 < 1))) Z (pu_pick (b := false) Z (tm Z) (fun h => nomatch h) (fun _ => (tm Z))) (xm Z Z Z ?_))))
       rcases Bool.eq_false_or_eq_true (decide (r67.2.1 < 1)) with hb78 | hb78
       ·replace h := ite_t (dec_t hb78) h
        refine aops_known 56 Z hb78 (xn Z Z Z (xn Z Z Z (xn Z Z Z (xn Z Z Z (xa (.bool true) Z (pu_pick (b := true) Z (tm Z) (fun _ => (AEv.bool _)) (fun h => nomatch h)) (xe ?_))))))
        obtain rfl := some_of h
        exact ⟨(), Weak.mkL [] (by decide) trivial ⟨tm Z, tm Z, tm Z, tm Z, trivial⟩⟩
       ·replace h := ite_f (dec_f hb78) h
        refine aops_known 56 Z hb78 (xg Z Z (op_loadN (i := 1) Z isAgg24 sizeOf24 (tm Z) Z (nb Z) Z (xg Z Z (op_loadN (i := 0) Z isAgg24 sizeOf24 (tm Z) Z (nb Z) Z ?_))))
        obtain ⟨r79, r79e, h⟩ := bind_some h
        refine xg Z Z (op_call (vs := [.agg [.sl .no 1 (u_.Cmds.map av_List_List_UInt8)], .agg [.sl .no 1 (r67.1.Cmds.map av_List_List_UInt8)]]) (H := []) Z call12 ⟨(tm Z), (tm Z), trivial⟩ (List.Perm.refl _) (unit.Same.ok r79e) ?_)
        rintro _ _ ⟨rfl, rfl⟩
        refine xp (.bool (!r79)) Z Z (pu_not Z (tm Z)) (xa (.bool (!r79)) Z (pu_pick (b := false) Z (tm Z) (fun h => nomatch h) (fun _ => (tm Z))) (xe ?_))
        obtain rfl := some_of h
        exact ⟨(), Weak.mkL [] (by decide) trivial ⟨tm Z, tm Z, tm Z, tm Z, trivial⟩⟩
    ·intro _
     have h := h74
     refine aw_cond (b := s73) (tm Z) (fun hb94 => ?_) (fun hb94 => ?_)
     ·replace h := ite_t hb94 h
      refine xr (xa (.bool false) Z (pu_assign Z (AEv.bool _)) (xe (aw_ret ?_)))
      obtain rfl := some_of h
      exact ⟨[.bool false], _, [], ⟨(tm Z), trivial⟩, vr, Weak.mkL [] (by decide) trivial trivial, ⟨Z, Z⟩⟩
     ·replace h := ite_fb hb94 h
      refine aw_skip (xr (xm Z Z Z (xm Z Z Z (xa (.int .u64 (IntKind.wrap .u64 at_)) Z (pu_conv Z underlying3 underlying42 (tm Z)) (xm Z Z Z (xa (.int .u64 (IntKind.wrap .u64 r67.2.1)) Z (pu_conv Z underlying3 underlying42 (tm Z)) ?_))))))
      obtain ⟨c80, h⟩ := need_of h
      refine xa (.int .u64 ((IntKind.wrap .u64 at_).tmod (IntKind.wrap .u64 r67.2.1))) Z (pu_rem Z (tm Z) (tm Z) c80) (xa (.i (IntKind.wrap .i64 ((IntKind.wrap .u64 at_).tmod (IntKind.wrap .u64 r67.2.1)))) Z (pu_conv Z underlying42 underlying3 (tm Z)) ?_)
      obtain ⟨c81, h⟩ := need_of h
      obtain ⟨x82, x82e, h⟩ := letO_of h
      refine xa (.str x82) Z (APure.eq (pu_strSliceM Z underlying9 (tm Z) Z ⟨_, (tm Z)⟩ c81) (congrArg (AV.str) x82e.symm)) ?_
      obtain ⟨r83, r83e, h⟩ := bind_some h
      refine xc Z (op_call (vs := [.str x82]) (H := []) Z call14 ⟨(tm Z), trivial⟩ (List.Perm.refl _) (unit.Take.ok r83e) ?_)
      rintro _ _ ⟨rfl, rfl⟩
      refine xm Z Z Z (xa (.agg [.sl .no 1 (r83.1.Cmds.map av_List_List_UInt8)]) Z (pu_extract Z (tm Z) (nb Z) Z) (xa (.i r83.2.1) Z (pu_extract Z (tm Z) (nb Z) Z) (xa (.i r83.2.2) Z (pu_extract Z (tm Z) (nb Z) Z) (xc Z (op_alloc (cs := [.sl .full 1 (([] : List (List (List UInt8))).map av_List_List_UInt8)]) (v := .agg [.sl .full 1 (([] : List (List (List UInt8))).map av_List_List_UInt8)]) Z zeroValue24 Z Z Z ?_)))))
      intro p84
      refine ac0 Z Z (op_store (i := 0) (cs' := [.sl .no 1 (r83.1.Cmds.map av_List_List_UInt8)]) Z sizeOf24 (tm Z) (v := .agg [.sl .no 1 (r83.1.Cmds.map av_List_List_UInt8)]) (tm Z) Z Z Z (nb Z) Z (xm Z Z Z (xm Z Z Z (xe ?_))))
      obtain ⟨s88, s88e, h89⟩ := bind_some h
      refine aw_meet (ν := Unit) (fun v => [(6, .bool s88)]) (fun v => []) ?_ ?_
      ·have h := s88e
       refine aw_region (xm Z Z Z (xa (.bool (decide (r83.2.2 = 4))) Z (pu_int (v := .bool (decide (r83.2.2 = 4))) Z Z (tm Z) (AEv.int _ _) Z) (xm Z Z Z ?_)))
       rcases Bool.eq_false_or_eq_true (decide (r83.2.2 = 4)) with hb91 | hb91
       ·replace h := ite_t (dec_t hb91) h
        refine aops_known 77 Z hb91 (xq Z Z Z Z (xp (.bool (decide (r83.2.1 = 0))) Z Z (pu_int (v := .bool (decide (r83.2.1 = 0))) Z Z (tm Z) (AEv.int _ _) Z) (xa (.bool (decide (r83.2.1 = 0))) Z (pu_pick (b := true) Z (tm Z) (fun _ => (tm Z)) (fun h => nomatch h)) (xm Z Z Z ?_))))
        rcases Bool.eq_false_or_eq_true (decide (r83.2.1 = 0)) with hb92 | hb92
        ·replace h := ite_t (dec_t hb92) h
         refine aops_known 81 Z hb92 ?_
         obtain ⟨r93, r93e, h⟩ := bind_some h
         refine xg Z Z (op_call (vs := []) (H := []) Z call9 trivial (List.Perm.refl _) (mewslaw15.alive.ok r93e) ?_)
         rintro _ _ ⟨rfl, rfl⟩
         refine xa (.bool r93) Z (pu_pick (b := true) Z (tm Z) (fun _ => (tm Z)) (fun h => nomatch h)) (xm Z Z Z (xe ?_))
         obtain rfl := some_of h
         exact ⟨(), Weak.mkL [] (by decide) trivial ⟨tm Z, trivial⟩⟩
        ·replace h := ite_f (dec_f hb92) h
         refine aops_known 81 Z hb92 (xn Z Z Z (xa (.bool false) Z (pu_pick (b := false) Z (tm Z) (fun h => nomatch h) (fun _ => (AEv.bool _))) (xm Z Z Z (xe ?_))))
         obtain rfl := some_of h
         exact ⟨(), Weak.mkL [] (by decide) trivial ⟨tm Z, trivial⟩⟩
       ·replace h := ite_f (dec_f hb91) h
        refine aops_known 77 Z hb91 (xn Z Z Z (xn Z Z Z (xa (.bool false) Z (pu_pick (b := false) Z (tm Z) (fun h => nomatch h) (fun _ => (AEv.bool _))) (xm Z Z Z (xn Z Z Z (xa (.bool false) Z (pu_pick (b := false) Z (tm Z) (fun h => nomatch h) (fun _ => (AEv.bool _))) (xm Z Z Z (xe ?_))))))))
        obtain rfl := some_of h
        exact ⟨(), Weak.mkL [] (by decide) trivial ⟨tm Z, trivial⟩⟩
      ·intro _
       have h := h89
       refine aw_ret ?_
       obtain rfl := some_of h
       exact ⟨[.bool s88], _, [], ⟨(tm Z), trivial⟩, vr, Weak.mkL [] (by decide) trivial trivial, ⟨Z, Z⟩⟩

theorem mewslaw15.UnitBursts.ok {u_ : api.Unit} {at_ : Int} {mask : Int} {r : Bool} (h : mewslaw15.UnitBursts u_ at_ mask = some r) : Go.Lift.Spec prog 6 [.agg [.sl .no 1 (u_.Cmds.map av_List_List_UInt8)], .i at_, .int .u32 mask] [] (fun v H => v = .bool r ∧ H = []) := by
 unfold mewslaw15.UnitBursts at h
 refine Go.Lift.Spec.of_body (rs := [.tmp 6]) func6 Z Z (nb Z) Z (xr (xc Z (op_box (cs := [.sl .no 1 (u_.Cmds.map av_List_List_UInt8)]) (v := .agg [.sl .no 1 (u_.Cmds.map av_List_List_UInt8)]) Z (tm Z) Z Z ?_)))
 intro p173
 refine xa (.bool false) Z (pu_assign Z (AEv.bool _)) (xe (aw_seq ?_))
 obtain ⟨s176, s176e, h177⟩ := bind_some h
 refine aw_meet (ν := Unit) (fun v => [(1, .i at_), (2, .int .u32 mask), (3, .ptr p173 0), (22, .bool s176)]) (fun v => [(p173, .cells [.sl .no 1 (u_.Cmds.map av_List_List_UInt8)])]) ?_ ?_
 ·have h := s176e
  refine aw_region (xc Z (op_loadN (i := 0) Z isAgg24 sizeOf24 (tm Z) Z (nb Z) Z (xc Z (op_buildSlice (xs := ([u_] : List api.Unit).map api.Unit.av) (aparts := [(0, .agg [.sl .no 1 (u_.Cmds.map av_List_List_UInt8)])]) Z underlying37 sizeOf24 zeroValue24 (by decide) (by decide) ⟨Z, (tm Z), trivial⟩ Z Z Z ?_))))
  obtain ⟨r179, r179e, h⟩ := bind_some h
  refine xc Z (op_call (vs := [.sl .no 1 ([u_].map api.Unit.av)]) (H := []) Z call8 ⟨(AEv.le (tm Z) (AV.Le.forget _ _ _)), trivial⟩ (List.Perm.refl _) (mewslaw15.Far.ok r179e) ?_)
  rintro _ _ ⟨rfl, rfl⟩
  refine xm Z Z Z ?_
  rcases Bool.eq_false_or_eq_true r179 with hb180 | hb180
  ·replace h := ite_t hb180 h
   refine aops_known 19 Z hb180 (xn Z Z Z (xn Z Z Z (xa (.bool true) Z (pu_pick (b := true) Z (tm Z) (fun _ => (AEv.bool _)) (fun h => nomatch h)) (xe ?_))))
   obtain rfl := some_of h
   exact ⟨(), Weak.mkL [0] (by decide) ⟨⟨_, Z, ⟨vr, trivial⟩, Z⟩, trivial⟩ ⟨tm Z, tm Z, tm Z, tm Z, trivial⟩⟩
  ·replace h := ite_fb hb180 h
   refine aops_known 19 Z hb180 (xq Z Z Z Z (xp (.bool (decide (mask = 0))) Z Z (pu_int (v := .bool (decide (mask = 0))) Z Z (tm Z) (AEv.int _ _) Z) (xa (.bool (decide (mask = 0))) Z (pu_pick (b := false) Z (tm Z) (fun h => nomatch h) (fun _ => (tm Z))) (xe ?_))))
   obtain rfl := some_of h
   exact ⟨(), Weak.mkL [0] (by decide) ⟨⟨_, Z, ⟨vr, trivial⟩, Z⟩, trivial⟩ ⟨tm Z, tm Z, tm Z, (AEv.le (tm Z) vr), trivial⟩⟩
 ·intro _
  have h := h177
  refine aw_cond (b := s176) (tm Z) (fun hb344 => ?_) (fun hb344 => ?_)
  ·replace h := ite_t hb344 h
   refine aw_seq (aw_region ?_)
   obtain ⟨r181, r181e, h⟩ := bind_some h
   refine xc Z (op_call (vs := []) (H := []) Z call9 trivial (List.Perm.refl _) (mewslaw15.alive.ok r181e) ?_)
   rintro _ _ ⟨rfl, rfl⟩
   refine xm Z Z Z (xe (aw_ret ?_))
   obtain rfl := some_of h
   exact ⟨[.bool r181], _, [], ⟨(tm Z), trivial⟩, vr, Weak.mkL [] (by decide) trivial trivial, ⟨Z, Z⟩⟩
  ·replace h := ite_fb hb344 h
   refine aw_skip (xr (xc Z (op_loadN (i := 0) Z isAgg24 sizeOf24 (tm Z) Z (nb Z) Z ?_)))
   obtain ⟨r182, r182e, h⟩ := bind_some h
   refine xc Z (op_call (vs := [.agg [.sl .no 1 (u_.Cmds.map av_List_List_UInt8)]]) (H := []) Z call10 ⟨(tm Z), trivial⟩ (List.Perm.refl _) (unit.Put.ok r182e) ?_)
   rintro _ _ ⟨rfl, rfl⟩
   refine xm Z Z Z (xa (.str r182.1) Z (pu_extract Z (tm Z) (nb Z) Z) (xa (.i r182.2) Z (pu_extract Z (tm Z) (nb Z) Z) (xm Z Z Z (xm Z Z Z (xe (aw_seq (xr (xm Z Z Z ?_))))))))
   refine xa (.bool (!decide (r182.2 = 0))) Z (pu_int (v := .bool (!decide (r182.2 = 0))) Z Z (tm Z) (AEv.int _ _) Z) (xe (aw_cond (b := (!decide (r182.2 = 0))) (tm Z) (fun hb343 => ?_) (fun hb343 => ?_)))
   ·replace h := ite_f (ndec_t hb343) h
    refine aw_seq (aw_region ?_)
    obtain ⟨r183, r183e, h⟩ := bind_some h
    refine xc Z (op_call (vs := []) (H := []) Z call9 trivial (List.Perm.refl _) (mewslaw15.alive.ok r183e) ?_)
    rintro _ _ ⟨rfl, rfl⟩
    refine xm Z Z Z (xe (aw_ret ?_))
    obtain rfl := some_of h
    exact ⟨[.bool r183], _, [], ⟨(tm Z), trivial⟩, vr, Weak.mkL [] (by decide) trivial trivial, ⟨Z, Z⟩⟩
   ·replace h := ite_t (ndec_f hb343) h
    refine aw_skip (xr (xm Z Z Z ?_))
    obtain ⟨c184, h⟩ := need_of h
    refine xc Z (op_strBytes Z underlying9 underlying45 underlying5 (tm Z) c184 ?_)
    intro p185
    refine xm Z Z Z (xe (aw_seq (xr (xm Z Z Z (xc Z (op_lenVecM (i := 0) Z underlying45 (tm Z) Z (xa (.bool (decide ((r182.1.length : Int) < 9))) Z (pu_int (v := .bool (decide ((r182.1.length : Int) < 9))) Z Z (tm Z) (AEv.int _ _) Z) (xe (aw_cond (b := decide ((r182.1.length : Int) < 9)) (tm Z) (fun hb342 => ?_) (fun hb342 => ?_))))))))))
    ·replace h := ite_t (dec_t hb342) h
     refine xr (xa (.bool false) Z (pu_assign Z (AEv.bool _)) (xe (aw_ret ?_)))
     obtain rfl := some_of h
     exact ⟨[.bool false], _, [], ⟨(tm Z), trivial⟩, vr, Weak.mkL [] (by decide) trivial trivial, ⟨Z, Z⟩⟩
    ·replace h := ite_f (dec_f hb342) h
     refine aw_skip (xr (xm Z Z Z (xa (.int .u64 (IntKind.wrap .u64 at_)) Z (pu_conv Z underlying3 underlying42 (tm Z)) (xm Z Z Z (xc Z (op_lenVecM (i := 0) Z underlying45 (tm Z) Z (xa (.i (IntKind.wrap .i64 (8 * (r182.1.length : Int)))) Z (pu_int (v := .i (IntKind.wrap .i64 (8 * (r182.1.length : Int)))) Z Z (AEv.int _ _) (tm Z) Z) (xa (.i (IntKind.wrap .i64 ((IntKind.wrap .i64 (8 * (r182.1.length : Int))) - 71))) Z (pu_int (v := .i (IntKind.wrap .i64 ((IntKind.wrap .i64 (8 * (r182.1.length : Int))) - 71))) Z Z (tm Z) (AEv.int _ _) Z) (xa (.int .u64 (IntKind.wrap .u64 (IntKind.wrap .i64 ((IntKind.wrap .i64 (8 * (r182.1.length : Int))) - 71)))) Z (pu_conv Z underlying3 underlying42 (tm Z)) ?_)))))))))
     obtain ⟨c186, h⟩ := need_of h
     obtain ⟨x187, x187e, h⟩ := letO_of h
     refine xa (.int .u64 x187) Z (APure.eq (pu_rem Z (tm Z) (tm Z) c186) (congrArg (AV.int .u64) x187e.symm)) (xa (.i (IntKind.wrap .i64 x187)) Z (pu_conv Z underlying42 underlying3 (tm Z)) (xa (.i (IntKind.wrap .i64 (40 + (IntKind.wrap .i64 x187)))) Z (pu_int (v := .i (IntKind.wrap .i64 (40 + (IntKind.wrap .i64 x187)))) Z Z (AEv.int _ _) (tm Z) Z) (xm Z Z Z (xe ?_))))
     obtain ⟨s258, s258e, h259⟩ := bind_some h
     refine aw_meet (ν := Unit) (fun v => [(9, .vec p185)]) (fun v => [(p185, .vec 1 (s258.map byteAV))]) ?_ ?_
     ·have h := s258e
      refine xr (xa (.i 0) Z (pu_move Z (AEv.int _ _)) (xe (aw_block (aw_while (σ := mewslaw15.UnitBursts.S0) (ν := Unit) (mewslaw15.UnitBursts.body0 mask x187) (fun s305 v => [(2, .int .u32 mask), (9, .vec p185), (10, .i (IntKind.wrap .i64 (40 + (IntKind.wrap .i64 x187)))), (47, .i s305.t47)]) (fun s305 v => [(p185, .vec 1 (s305.v.map byteAV))]) ⟨0, r182.1⟩ () _ h (Weak.mkL [0] (by decide) ⟨⟨_, Z, Z⟩, trivial⟩ ⟨tm Z, tm Z, tm Z, tm Z, trivial⟩) ?_))))
      rintro s305 _ x307 h hx306
      unfold mewslaw15.UnitBursts.body0 at h
      refine xr (xa (.bool (decide (s305.t47 < 32))) Z (pu_int (v := .bool (decide (s305.t47 < 32))) Z Z (tm Z) (AEv.int _ _) Z) (xe (aw_seq (aw_cond (b := decide (s305.t47 < 32)) (tm Z) (fun hb330 => ?_) (fun hb330 => ?_)))))
      ·replace h := ite_t (dec_t hb330) h
       refine aw_skip ?_
       obtain ⟨s318, s318e, h319⟩ := bind_some h
       refine aw_meet (ν := Unit) (fun v => [(2, .int .u32 mask), (9, .vec p185), (10, .i (IntKind.wrap .i64 (40 + (IntKind.wrap .i64 x187)))), (47, .i s305.t47)]) (fun v => [(p185, .vec 1 (s318.map byteAV))]) ?_ ?_
       ·have h := s318e
        refine aw_block (xr (xm Z Z Z (xm Z Z Z (xe (xr (xm Z Z Z (xm Z Z Z ?_)))))))
        refine xa (.i (IntKind.wrap .i64 ((IntKind.wrap .i64 (40 + (IntKind.wrap .i64 x187))) + s305.t47))) Z (pu_int (v := .i (IntKind.wrap .i64 ((IntKind.wrap .i64 (40 + (IntKind.wrap .i64 x187))) + s305.t47))) Z Z (tm Z) (tm Z) Z) (xm Z Z Z (xe (xr (xm Z Z Z (xm Z Z Z ?_)))))
        obtain ⟨c321, h⟩ := need_of h
        refine xa (.int .u32 (mask / 2 ^ min (Int.toNat s305.t47) (IntKind.bits .u32))) Z (pu_shr Z (tm Z) (tm Z) c321) (xa (.int .u32 (Go.bits .and .u32 (mask / 2 ^ min (Int.toNat s305.t47) (IntKind.bits .u32)) 1)) Z (pu_int (v := .int .u32 (Go.bits .and .u32 (mask / 2 ^ min (Int.toNat s305.t47) (IntKind.bits .u32)) 1)) Z Z (tm Z) (AEv.int _ _) Z) (xa (.bool (decide ((Go.bits .and .u32 (mask / 2 ^ min (Int.toNat s305.t47) (IntKind.bits .u32)) 1) = 1))) Z (pu_int (v := .bool (decide ((Go.bits .and .u32 (mask / 2 ^ min (Int.toNat s305.t47) (IntKind.bits .u32)) 1) = 1))) Z Z (tm Z) (AEv.int _ _) Z) (xe (aw_cond (b := decide ((Go.bits .and .u32 (mask / 2 ^ min (Int.toNat s305.t47) (IntKind.bits .u32)) 1) = 1)) (tm Z) (fun hb329 => ?_) (fun hb329 => ?_)))))
        ·replace h := ite_t (dec_t hb329) h
         obtain ⟨c322, h⟩ := need_of h
         obtain ⟨c323, h⟩ := need_of h
         obtain ⟨c324, h⟩ := need_of h
         obtain ⟨x325, x325e, h⟩ := letO_of h
         obtain ⟨c326, h⟩ := need_of h
         obtain ⟨c327, h⟩ := need_of h
         obtain ⟨c328, h⟩ := need_of h
         refine aw_planR (by decide +kernel) [[], [], [], [(0, 0, false)], [(0, 0, false)], [], [], [], [], [(0, 0, false)], [(0, 0, true)]] [[10]] [[[(p185, .vec 1 (s305.v.map byteAV))], [(p185, .vec 1 ((upd s305.v (IntKind.wrap .i64 ((IntKind.wrap .i64 ((IntKind.wrap .i64 (40 + (IntKind.wrap .i64 x187))) + s305.t47)).tdiv 8)) (u8 (Go.bits .xor .u8 ((ix s305.v (IntKind.wrap .i64 ((IntKind.wrap .i64 ((IntKind.wrap .i64 (40 + (IntKind.wrap .i64 x187))) + s305.t47)).tdiv 8))).toNat : Int) x325))).map byteAV))]]] [.vec p185, .i (IntKind.wrap .i64 ((IntKind.wrap .i64 (40 + (IntKind.wrap .i64 x187))) + s305.t47)), .i (IntKind.wrap .i64 ((IntKind.wrap .i64 ((IntKind.wrap .i64 (40 + (IntKind.wrap .i64 x187))) + s305.t47)).tdiv 8)), .eptr p185 (IntKind.wrap .i64 ((IntKind.wrap .i64 ((IntKind.wrap .i64 (40 + (IntKind.wrap .i64 x187))) + s305.t47)).tdiv 8)).toNat 0, .int .u8 ((ix s305.v (IntKind.wrap .i64 ((IntKind.wrap .i64 ((IntKind.wrap .i64 (40 + (IntKind.wrap .i64 x187))) + s305.t47)).tdiv 8))).toNat : Int), .i (IntKind.wrap .i64 ((IntKind.wrap .i64 (40 + (IntKind.wrap .i64 x187))) + s305.t47)), .i ((IntKind.wrap .i64 ((IntKind.wrap .i64 (40 + (IntKind.wrap .i64 x187))) + s305.t47)).tmod 8), .int .u8 x325, .int .u8 (Go.bits .xor .u8 ((ix s305.v (IntKind.wrap .i64 ((IntKind.wrap .i64 ((IntKind.wrap .i64 (40 + (IntKind.wrap .i64 x187))) + s305.t47)).tdiv 8))).toNat : Int) x325), .eptr p185 (IntKind.wrap .i64 ((IntKind.wrap .i64 ((IntKind.wrap .i64 (40 + (IntKind.wrap .i64 x187))) + s305.t47)).tdiv 8)).toNat 0, .un] (by decide +kernel) Z Z ?_ ?_
         ·exact ⟨ym Z Z Z, ym Z Z Z, yp Z (pu_quo Z (tm Z) (AEv.int _ _) (by decide)), stepg_plain Z (op_indexAddrVecM Z underlying45 sizeOf5 (tm Z) (j := 0) Z (tm Z) c322 ⟨Z, Z⟩), stepg_plain Z (op_loadE1M (i := 0) (sz := 1) Z isAgg5 (tm Z) Z c323 (by decide) Z ⟨Z, Z⟩), ym Z Z Z, yp Z (pu_rem Z (tm Z) (AEv.int _ _) (by decide)), yp Z (APure.eq (pu_shl Z (AEv.int _ _) (tm Z) c324) (congrArg (AV.int .u8) x325e.symm)), yp Z (pu_int (v := .int .u8 (Go.bits .xor .u8 ((ix s305.v (IntKind.wrap .i64 ((IntKind.wrap .i64 ((IntKind.wrap .i64 (40 + (IntKind.wrap .i64 x187))) + s305.t47)).tdiv 8))).toNat : Int) x325)) Z Z (tm Z) (tm Z) Z), stepg_plain Z (op_indexAddrVecM Z underlying45 sizeOf5 (tm Z) (j := 0) Z (tm Z) c326 ⟨Z, Z⟩), stepg_plain Z (op_storeEM (i := 0) (sz := 1) (y' := u8 (Go.bits .xor .u8 ((ix s305.v (IntKind.wrap .i64 ((IntKind.wrap .i64 ((IntKind.wrap .i64 (40 + (IntKind.wrap .i64 x187))) + s305.t47)).tdiv 8))).toNat : Int) x325)) Z sizeOf5 (tm Z) (v := .int .u8 (Go.bits .xor .u8 ((ix s305.v (IntKind.wrap .i64 ((IntKind.wrap .i64 ((IntKind.wrap .i64 (40 + (IntKind.wrap .i64 x187))) + s305.t47)).tdiv 8))).toNat : Int) x325)) (tm Z) Z c327 Z Z (by decide) (congrArg AV.cells (byteAV_u8 c328.1 c328.2)) ⟨Z, Z⟩), trivial⟩
         obtain rfl := some_of h
         exact ⟨(), Weak.mkL [0] (by decide) ⟨⟨_, Z, Z⟩, trivial⟩ ⟨tm Z, tm Z, tm Z, tm Z, trivial⟩⟩
        ·replace h := ite_f (dec_f hb329) h
         refine aw_skip ?_
         obtain rfl := some_of h
         exact ⟨(), Weak.mkL [0] (by decide) ⟨⟨_, Z, Z⟩, trivial⟩ ⟨tm Z, tm Z, tm Z, tm Z, trivial⟩⟩
       ·intro _
        have h := h319
        refine aw_region (xa (.i (IntKind.wrap .i64 (s305.t47 + 1))) Z (pu_int (v := .i (IntKind.wrap .i64 (s305.t47 + 1))) Z Z (tm Z) (AEv.int _ _) Z) (xm Z Z Z (xe ?_)))
        obtain rfl := some_of h
        exact ⟨_, (), Z, Weak.mkL [0] (by decide) ⟨⟨_, Z, Z⟩, trivial⟩ ⟨tm Z, tm Z, tm Z, (AEv.le (tm Z) vr), trivial⟩⟩
      ·replace h := ite_f (dec_f hb330) h
       refine aw_exit ?_
       obtain rfl := some_of h
       have h := congrArg some (hx306 _ rfl)
       obtain rfl := some_of h
       exact ⟨(), Weak.mkL [0] (by decide) ⟨⟨_, Z, Z⟩, trivial⟩ ⟨tm Z, trivial⟩⟩
     ·intro _
      have h := h259
      refine xr (xm Z Z Z (aops_publish 70 0 (tm Z) Z (xc Z (op_bytesStr Z underlying45 underlying5 underlying9 (tm Z) ?_))))
      obtain ⟨r331, r331e, h⟩ := bind_some h
      refine xc Z (op_call (vs := [.str s258]) (H := []) Z call14 ⟨(tm Z), trivial⟩ (List.Perm.refl _) (unit.Take.ok r331e) ?_)
      rintro _ _ ⟨rfl, rfl⟩
      refine xm Z Z Z (xa (.agg [.sl .no 1 (r331.1.Cmds.map av_List_List_UInt8)]) Z (pu_extract Z (tm Z) (nb Z) Z) (xa (.i r331.2.1) Z (pu_extract Z (tm Z) (nb Z) Z) (xa (.i r331.2.2) Z (pu_extract Z (tm Z) (nb Z) Z) (xc Z (op_alloc (cs := [.sl .full 1 (([] : List (List (List UInt8))).map av_List_List_UInt8)]) (v := .agg [.sl .full 1 (([] : List (List (List UInt8))).map av_List_List_UInt8)]) Z zeroValue24 Z Z Z ?_)))))
      intro p332
      refine ac0 Z Z (op_store (i := 0) (cs' := [.sl .no 1 (r331.1.Cmds.map av_List_List_UInt8)]) Z sizeOf24 (tm Z) (v := .agg [.sl .no 1 (r331.1.Cmds.map av_List_List_UInt8)]) (tm Z) Z Z Z (nb Z) Z (xm Z Z Z (xm Z Z Z (xe ?_))))
      obtain ⟨s336, s336e, h337⟩ := bind_some h
      refine aw_meet (ν := Unit) (fun v => [(6, .bool s336)]) (fun v => []) ?_ ?_
      ·have h := s336e
       refine aw_region (xm Z Z Z (xa (.bool (decide (r331.2.2 = 14))) Z (pu_int (v := .bool (decide (r331.2.2 = 14))) Z Z (tm Z) (AEv.int _ _) Z) (xm Z Z Z ?_)))
       rcases Bool.eq_false_or_eq_true (decide (r331.2.2 = 14)) with hb339 | hb339
       ·replace h := ite_t (dec_t hb339) h
        refine aops_known 78 Z hb339 (xq Z Z Z Z (xp (.bool (decide (r331.2.1 = 0))) Z Z (pu_int (v := .bool (decide (r331.2.1 = 0))) Z Z (tm Z) (AEv.int _ _) Z) (xa (.bool (decide (r331.2.1 = 0))) Z (pu_pick (b := true) Z (tm Z) (fun _ => (tm Z)) (fun h => nomatch h)) (xm Z Z Z ?_))))
        rcases Bool.eq_false_or_eq_true (decide (r331.2.1 = 0)) with hb340 | hb340
        ·replace h := ite_t (dec_t hb340) h
         refine aops_known 82 Z hb340 ?_
         obtain ⟨r341, r341e, h⟩ := bind_some h
         refine xg Z Z (op_call (vs := []) (H := []) Z call9 trivial (List.Perm.refl _) (mewslaw15.alive.ok r341e) ?_)
         rintro _ _ ⟨rfl, rfl⟩
         refine xa (.bool r341) Z (pu_pick (b := true) Z (tm Z) (fun _ => (tm Z)) (fun h => nomatch h)) (xm Z Z Z (xe ?_))
         obtain rfl := some_of h
         exact ⟨(), Weak.mkL [] (by decide) trivial ⟨tm Z, trivial⟩⟩
        ·replace h := ite_f (dec_f hb340) h
         refine aops_known 82 Z hb340 (xn Z Z Z (xa (.bool false) Z (pu_pick (b := false) Z (tm Z) (fun h => nomatch h) (fun _ => (AEv.bool _))) (xm Z Z Z (xe ?_))))
         obtain rfl := some_of h
         exact ⟨(), Weak.mkL [] (by decide) trivial ⟨tm Z, trivial⟩⟩
       ·replace h := ite_f (dec_f hb339) h
        refine aops_known 78 Z hb339 (xn Z Z Z (xn Z Z Z (xa (.bool false) Z (pu_pick (b := false) Z (tm Z) (fun h => nomatch h) (fun _ => (AEv.bool _))) (xm Z Z Z (xn Z Z Z (xa (.bool false) Z (pu_pick (b := false) Z (tm Z) (fun h => nomatch h) (fun _ => (AEv.bool _))) (xm Z Z Z (xe ?_))))))))
        obtain rfl := some_of h
        exact ⟨(), Weak.mkL [] (by decide) trivial ⟨tm Z, trivial⟩⟩
      ·intro _
       have h := h337
       refine aw_ret ?_
       obtain rfl := some_of h
       exact ⟨[.bool s336], _, [], ⟨(tm Z), trivial⟩, vr, Weak.mkL [] (by decide) trivial trivial, ⟨Z, Z⟩⟩

end Go.Pu
