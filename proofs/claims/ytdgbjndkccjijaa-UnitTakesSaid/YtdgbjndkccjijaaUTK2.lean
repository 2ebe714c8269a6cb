/- Printed by lift.py: the functions come to them. -/
import Derived.Test.YtdgbjndkccjijaaLiftW
import Derived.Test.YtdgbjndkccjijaaUTK1
set_option maxRecDepth 100000
set_option maxHeartbeats 0
namespace Go.Pu
open Go.Lift Go.Proofs.Try Go.RowKit Go.Proofs

theorem parse.Feed.ok {in_ : api.Input} {b : List UInt8} {l : api.Limits} {r : api.Input × (List api.Request) × Int} (h : parse.Feed in_ b l = some r) : Go.Lift.Spec prog 43 [.agg (api.Input.ct .no in_), .str b, .agg [.i l.Args, .i l.Bulk, .i l.Line]] [] (fun v H => ∃ n0, v = .tup [.agg [.str r.1.Rest, .sl .no 1 (r.1.Args.map AV.str), .i r.1.Left, .i r.1.Size, .bool r.1.Body, .i r.1.Need, .i r.1.Dead], .sl (.own n0) 2 (r.2.1.map api.Request.av), .i r.2.2] ∧ H = [(n0, .spare)]) := by
 unfold parse.Feed at h
 refine Go.Lift.Spec.of_body (rs := [.cell 6 62, .tmp 7, .tmp 8]) func43 Z Z (nb Z) Z (xr (xc Z (op_box (cs := (api.Input.ct .no in_)) (v := .agg (api.Input.ct .no in_)) Z (tm Z) Z Z ?_)))
 intro p64
 refine xc Z (op_box (cs := [.i l.Args, .i l.Bulk, .i l.Line]) (v := .agg [.i l.Args, .i l.Bulk, .i l.Line]) Z (tm Z) Z Z ?_)
 intro p65
 refine xc Z (op_alloc (cs := [.str ([] : List UInt8), .sl .full 1 (([] : List (List UInt8)).map AV.str), .i 0, .i 0, .bool false, .i 0, .i 0]) (v := .agg [.str ([] : List UInt8), .sl .full 1 (([] : List (List UInt8)).map AV.str), .i 0, .i 0, .bool false, .i 0, .i 0]) Z zeroValue62 Z Z Z ?_)
 intro p66
 refine xa (.sl .full 2 (([] : List api.Request).map api.Request.av)) Z (pu_assign Z (AEv.nil 2 (by decide))) (xa (.i 0) Z (pu_assign Z (AEv.int _ _)) (xe (aw_seq (xr (xa (.ptr p64 6) Z (fa Z underlying62 Z sizeOf27 Z Z Z) (xc Z (op_load1 (i := 2) Z isAgg27 (tm Z) Z Z (xa (.bool (!decide (in_.Dead = 0))) Z (pu_int (v := .bool (!decide (in_.Dead = 0))) Z Z (tm Z) (AEv.int _ _) Z) (xe ?_)))))))))
 refine aw_cond (b := (!decide (in_.Dead = 0))) (tm Z) (fun hb127 => ?_) (fun hb127 => ?_)
 ·replace h := ite_f (ndec_t hb127) h
  refine aw_seq (aw_planR (by decide +kernel) [[], [(2, 0, false)], [], [], [(2, 0, false)], [(0, 0, true)], [], []] [[5], [], []] [[[(p66, .cells [.str ([] : List UInt8), .sl .full 1 (([] : List (List UInt8)).map AV.str), .i 0, .i 0, .bool false, .i 0, .i 0])], [(p66, .cells [.str ([] : List UInt8), .sl .full 1 (([] : List (List UInt8)).map AV.str), .i 0, .i 0, .bool false, .i 0, .i in_.Dead])]], [[(p65, .cells [.i l.Args, .i l.Bulk, .i l.Line])]], [[(p64, .cells (api.Input.ct .no in_))]]] [.ptr p64 6, .i in_.Dead, .agg [.str ([] : List UInt8), .sl .full 1 (([] : List (List UInt8)).map AV.str), .i 0, .i 0, .bool false, .i 0, .i in_.Dead], .ptr p64 6, .i in_.Dead, .un, .sl .full 2 (([] : List api.Request).map api.Request.av), .i in_.Dead] (by decide +kernel) Z Z ?_ ?_)
  ·exact ⟨yp Z (fa Z underlying62 Z sizeOf27 Z Z Z), stepg_plain Z (op_load1 (i := 0) Z isAgg27 (tm Z) Z Z ⟨Z, Z⟩), yp Z (pu_build (zs := [.str ([] : List UInt8), .sl .full 1 (([] : List (List UInt8)).map AV.str), .i 0, .i 0, .bool false, .i 0, .i 0]) (szs := [1, 1, 1, 1, 1, 1, 1]) (aparts := [(6, .i in_.Dead)]) (cs := [.str ([] : List UInt8), .sl .full 1 (([] : List (List UInt8)).map AV.str), .i 0, .i 0, .bool false, .i 0, .i in_.Dead]) Z underlying62 zeroValue62 Z ⟨sizeOf9, sizeOf49, sizeOf3, sizeOf3, sizeOf4, sizeOf3, sizeOf27, trivial⟩ ⟨Z, (tm Z), trivial⟩ Z), yp Z (fa Z underlying62 Z sizeOf27 Z Z Z), stepg_plain Z (op_load1 (i := 0) Z isAgg27 (tm Z) Z Z ⟨Z, Z⟩), stepg_plain Z (op_store (i := 0) (cs' := [.str ([] : List UInt8), .sl .full 1 (([] : List (List UInt8)).map AV.str), .i 0, .i 0, .bool false, .i 0, .i in_.Dead]) Z sizeOf62 (tm Z) (v := .agg [.str ([] : List UInt8), .sl .full 1 (([] : List (List UInt8)).map AV.str), .i 0, .i 0, .bool false, .i 0, .i in_.Dead]) (tm Z) Z Z Z (nb Z) Z ⟨Z, Z⟩), yp Z (pu_assign Z (AEv.nil 2 (by decide))), ym Z Z Z, trivial⟩
  refine aw_claim 7 (tm Z) fun t67 => (aw_ret ?_)
  obtain rfl := some_of h
  exact ⟨[.agg [.str ([] : List UInt8), .sl .full 1 (([] : List (List UInt8)).map AV.str), .i 0, .i 0, .bool false, .i 0, .i in_.Dead], .sl (.own t67) 2 (([] : List api.Request).map api.Request.av), .i in_.Dead], .tup [.agg [.str ([] : List UInt8), .sl .no 1 (([] : List (List UInt8)).map AV.str), .i 0, .i 0, .bool false, .i 0, .i in_.Dead], .sl (.own t67) 2 (([] : List api.Request).map api.Request.av), .i in_.Dead], [(t67, .spare)], ⟨(CellOk.agg 1 (tm Z) Z isAgg62 sizeOf62 (nb Z) Z), (tm Z), (tm Z), trivial⟩, (AV.Le.tup ⟨(AV.Le.agg ⟨vr, (AV.Le.forget _ _ _), vr, vr, vr, vr, vr, trivial⟩), vr, vr, trivial⟩), Weak.mkL [0] (by decide) ⟨⟨_, Z, Z⟩, trivial⟩ trivial, ⟨t67, Z, Z⟩⟩
 ·replace h := ite_t (ndec_f hb127) h
  refine aw_skip (aw_seq ?_)
  obtain ⟨c68, h⟩ := need_of h
  obtain ⟨r69, r69e, h⟩ := bind_some h
  refine aw_reserve fun p70 => (aw_planR (by decide +kernel) [[(3, 0, false)], [], [(3, 0, false)], [], [], [(2, 0, false)], [], [], [(0, 0, true)], []] [[8], [], [], []] [[[(p70, .resv)], [(p70, .cells (parse.parser.ct .no .full ({ in_ := in_, s := in_.Rest ++ b, l := r69, out := ([] : List api.Request) } : parse.parser)))]], [[(p66, .cells [.str ([] : List UInt8), .sl .full 1 (([] : List (List UInt8)).map AV.str), .i 0, .i 0, .bool false, .i 0, .i 0])]], [[(p65, .cells [.i l.Args, .i l.Bulk, .i l.Line])]], [[(p64, .cells (api.Input.ct .no in_))]]] [.agg (api.Input.ct .no in_), .ptr p64 0, .str in_.Rest, .str b, .str (in_.Rest ++ b), .agg [.i l.Args, .i l.Bulk, .i l.Line], .agg [.i r69.Args, .i r69.Bulk, .i r69.Line], .agg (parse.parser.ct .no .full ({ in_ := in_, s := in_.Rest ++ b, l := r69, out := ([] : List api.Request) } : parse.parser)), .ptr p70 0, .ptr p70 0] (by decide +kernel) Z Z ?_ ?_)
  ·exact ⟨stepg_plain Z (op_loadN (i := 0) Z isAgg62 sizeOf62 (tm Z) Z (nb Z) Z ⟨Z, Z⟩), yp Z (fa Z underlying62 Z sizeOf9 Z Z Z), stepg_plain Z (op_load1 (i := 0) Z isAgg9 (tm Z) Z Z ⟨Z, Z⟩), ym Z Z Z, yp Z (pu_strAdd Z (tm Z) (tm Z) c68), stepg_plain Z (op_loadN (i := 0) Z isAgg67 sizeOf67 (tm Z) Z (nb Z) Z ⟨Z, Z⟩), stepg_plain Z (op_call (vs := [.agg [.i l.Args, .i l.Bulk, .i l.Line]]) (H := []) Z call55 ⟨(tm Z), trivial⟩ (R := []) (List.Perm.refl _) (parse.Limits.ok r69e) (by rintro _ _ ⟨rfl, rfl⟩; exact ⟨Z, Z⟩)), yp Z (pu_build (zs := [.str ([] : List UInt8), .sl .full 1 (([] : List (List UInt8)).map AV.str), .i 0, .i 0, .bool false, .i 0, .i 0, .str ([] : List UInt8), .i 0, .i 0, .i 0, .sl .full 2 (([] : List api.Request).map api.Request.av)]) (szs := [7, 1, 3, 1]) (aparts := [(0, .agg (api.Input.ct .no in_)), (1, .str (in_.Rest ++ b)), (2, .agg [.i r69.Args, .i r69.Bulk, .i r69.Line])]) (cs := [.str in_.Rest, .sl .no 1 (in_.Args.map AV.str), .i in_.Left, .i in_.Size, .bool in_.Body, .i in_.Need, .i in_.Dead, .str (in_.Rest ++ b), .i r69.Args, .i r69.Bulk, .i r69.Line, .sl .full 2 (([] : List api.Request).map api.Request.av)]) Z underlying99 zeroValue99 Z ⟨sizeOf62, sizeOf9, sizeOf67, sizeOf63, trivial⟩ ⟨Z, (tm Z), ⟨Z, (tm Z), ⟨Z, (tm Z), trivial⟩⟩⟩ Z), stepg_plain Z (aop_settleP (op_box (cs := (parse.parser.ct .no .full ({ in_ := in_, s := in_.Rest ++ b, l := r69, out := ([] : List api.Request) } : parse.parser))) (v := .agg (parse.parser.ct .no .full ({ in_ := in_, s := in_.Rest ++ b, l := r69, out := ([] : List api.Request) } : parse.parser))) Z (tm Z) Z Z fun t => ⟨t, Z, Z⟩) ⟨Z, Z⟩), ym Z Z Z, trivial⟩
  refine xr (xm Z Z Z (xm Z Z Z (xa (.ptr p64 1) Z (fa Z underlying62 Z sizeOf49 Z Z Z) (xc Z (op_load1 (i := 3) Z isAgg49 (tm Z) Z Z ?_)))))
  obtain ⟨r71, r71e, h⟩ := bind_some h
  refine xc Z (op_call (vs := [.sl .no 1 (in_.Args.map AV.str)]) (H := []) Z call56 ⟨(tm Z), trivial⟩ (List.Perm.refl _) (slices.Clone_string.ok r71e) ?_)
  rintro _ _ ⟨t72, rfl, rfl⟩
  refine xa (.ptr p70 0) Z (pu_nilCheck Z (tm Z) Z) (xa (.ptr p70 0) Z (fa Z underlying99 Z sizeOf62 Z Z Z) (xa (.ptr p70 1) Z (fa Z underlying62 Z sizeOf49 Z Z Z) (ac0 Z Z (op_store (i := 1) (cs' := (parse.parser.ct (.own t72) .full ({ in_ := { in_ with Args := r71 }, s := in_.Rest ++ b, l := r69, out := ([] : List api.Request) } : parse.parser))) Z sizeOf49 (tm Z) (v := .sl (.own t72) 1 (r71.map AV.str)) (tm Z) Z Z Z (nb Z) Z (xa (.ptr p70 0) Z (pu_nilCheck Z (tm Z) Z) (xa (.ptr p70 0) Z (fa Z underlying99 Z sizeOf62 Z Z Z) (xa (.ptr p70 0) Z (fa Z underlying62 Z sizeOf9 Z Z Z) (ac0 Z Z (op_store (i := 1) (cs' := (parse.parser.ct (.own t72) .full ({ in_ := { in_ with Rest := ([] : List UInt8), Args := r71 }, s := in_.Rest ++ b, l := r69, out := ([] : List api.Request) } : parse.parser))) Z sizeOf9 (tm Z) (v := .str ([] : List UInt8)) (AEv.const Z) Z Z Z (nb Z) Z (xe ?_))))))))))
  obtain ⟨s97, s97e, h100⟩ := bind_some h
  refine aw_meet (ν := Nat × Nat) (fun v => [(6, .ptr p66 0), (9, .ptr p70 0)]) (fun v => [(p66, .cells [.str ([] : List UInt8), .sl .full 1 (([] : List (List UInt8)).map AV.str), .i 0, .i 0, .bool false, .i 0, .i 0]), (p70, .cells [.str s97.1, .sl (.own v.1) 1 (s97.2.1.map AV.str), .i s97.2.2.1, .i s97.2.2.2.1, .bool s97.2.2.2.2.1, .i s97.2.2.2.2.2.1, .i s97.2.2.2.2.2.2.1, .str s97.2.2.2.2.2.2.2.1, .i s97.2.2.2.2.2.2.2.2.1, .i s97.2.2.2.2.2.2.2.2.2.1, .i s97.2.2.2.2.2.2.2.2.2.2.1, .sl (.own v.2) 2 (s97.2.2.2.2.2.2.2.2.2.2.2.map api.Request.av)]), (v.1, .spare), (v.2, .spare)]) ?_ ?_
  ·have h := s97e
   refine aw_block (aw_claimCell 1 11 Z Z fun t125 => (aw_while (σ := parse.Feed.S0) (ν := Nat × Nat) (parse.Feed.body0 in_ l) (fun s115 v => [(6, .ptr p66 0), (9, .ptr p70 0)]) (fun s115 v => [(p66, .cells [.str ([] : List UInt8), .sl .full 1 (([] : List (List UInt8)).map AV.str), .i 0, .i 0, .bool false, .i 0, .i 0]), (p70, .cells [.str s115.c, .sl (.own v.1) 1 (s115.c2.map AV.str), .i s115.c3, .i s115.c4, .bool s115.c5, .i s115.c6, .i s115.c7, .str s115.c8, .i s115.c9, .i s115.c10, .i s115.c11, .sl (.own v.2) 2 (s115.c12.map api.Request.av)]), (v.1, .spare), (v.2, .spare)]) ⟨([] : List UInt8), r71, in_.Left, in_.Size, in_.Body, in_.Need, in_.Dead, in_.Rest ++ b, r69.Args, r69.Bulk, r69.Line, ([] : List api.Request)⟩ (t72, t125) _ h (Weak.mkL [3, 2, 1, 0] (by decide) ⟨⟨_, Z, cr, Z⟩, ⟨_, Z, ⟨vr, vr, vr, vr, vr, vr, vr, vr, vr, vr, vr, vr, trivial⟩, Z⟩, ⟨_, Z, Z⟩, ⟨_, Z, Z⟩, trivial⟩ ⟨tm Z, tm Z, trivial⟩) ?_))
   rintro s115 ⟨n116, n117⟩ x119 h hx118
   unfold parse.Feed.body0 at h
   refine aw_seq (xr (xm Z Z Z ?_))
   obtain ⟨r121, r121e, h⟩ := bind_some h
   refine aops_weak (weak_pick [1, 2, 3, 0] (by decide) Z) (xc Z (op_call (vs := [.ptr p70 0]) (H := [(p70, .cells [.str s115.c, .sl (.own n116) 1 (s115.c2.map AV.str), .i s115.c3, .i s115.c4, .bool s115.c5, .i s115.c6, .i s115.c7, .str s115.c8, .i s115.c9, .i s115.c10, .i s115.c11, .sl (.own n117) 2 (s115.c12.map api.Request.av)]), (n116, .spare), (n117, .spare)]) Z call57 ⟨(tm Z), trivial⟩ (List.Perm.refl _) (parse.parser.step.ok r121e p70 n116 n117) ?_))
   rintro _ _ ⟨t122, t123, rfl, rfl⟩
   refine xe (aw_cond (b := r121.1) (tm Z) (fun hb124 => ?_) (fun hb124 => ?_))
   ·replace h := ite_t hb124 h
    refine aw_skip (aw_block (aw_skip ?_))
    obtain rfl := some_of h
    exact ⟨_, (t122, t123), Z, Weak.mkL [3, 0, 1, 2] (by decide) ⟨⟨_, Z, cr, Z⟩, ⟨_, Z, cr, Z⟩, ⟨_, Z, Z⟩, ⟨_, Z, Z⟩, trivial⟩ ⟨tm Z, tm Z, trivial⟩⟩
   ·replace h := ite_fb hb124 h
    refine aw_exit ?_
    obtain rfl := some_of h
    have h := congrArg some (hx118 _ rfl)
    obtain rfl := some_of h
    exact ⟨(t122, t123), Weak.mkL [3, 0, 1, 2] (by decide) ⟨⟨_, Z, cr, Z⟩, ⟨_, Z, cr, Z⟩, ⟨_, Z, Z⟩, ⟨_, Z, Z⟩, trivial⟩ ⟨tm Z, tm Z, trivial⟩⟩
  ·rintro ⟨n98, n99⟩
   have h := h100
   refine xr (xm Z Z Z (xm Z Z Z (xa (.ptr p70 0) Z (pu_nilCheck Z (tm Z) Z) (xa (.ptr p70 7) Z (fa Z underlying99 Z sizeOf9 Z Z Z) (xc Z (op_load1 (i := 1) Z isAgg9 (tm Z) Z Z ?_))))))
   obtain ⟨r126, r126e, h⟩ := bind_some h
   refine xc Z (op_call (vs := [.str s97.2.2.2.2.2.2.2.1]) (H := []) Z call58 ⟨(tm Z), trivial⟩ (List.Perm.refl _) (strings.Clone.ok r126e) ?_)
   rintro _ _ ⟨rfl, rfl⟩
   refine xa (.ptr p70 0) Z (pu_nilCheck Z (tm Z) Z) (xa (.ptr p70 0) Z (fa Z underlying99 Z sizeOf62 Z Z Z) (xa (.ptr p70 0) Z (fa Z underlying62 Z sizeOf9 Z Z Z) (ac0 Z Z (op_store (i := 1) (cs' := [.str r126, .sl (.own n98) 1 (s97.2.1.map AV.str), .i s97.2.2.1, .i s97.2.2.2.1, .bool s97.2.2.2.2.1, .i s97.2.2.2.2.2.1, .i s97.2.2.2.2.2.2.1, .str s97.2.2.2.2.2.2.2.1, .i s97.2.2.2.2.2.2.2.2.1, .i s97.2.2.2.2.2.2.2.2.2.1, .i s97.2.2.2.2.2.2.2.2.2.2.1, .sl (.own n99) 2 (s97.2.2.2.2.2.2.2.2.2.2.2.map api.Request.av)]) Z sizeOf9 (tm Z) (v := .str r126) (tm Z) Z Z Z (nb Z) Z (xe (aw_seq (aw_planR (by decide +kernel) [[], [], [], [(1, 0, false)], [], [], [], [(1, 0, false)], [], [], [], [], [(1, 0, false)], [(0, 0, true)], [], []] [[13], [], [], []] [[[(p66, .cells [.str ([] : List UInt8), .sl .full 1 (([] : List (List UInt8)).map AV.str), .i 0, .i 0, .bool false, .i 0, .i 0])], [(p66, .cells [.str r126, .sl (.own n98) 1 (s97.2.1.map AV.str), .i s97.2.2.1, .i s97.2.2.2.1, .bool s97.2.2.2.2.1, .i s97.2.2.2.2.2.1, .i s97.2.2.2.2.2.2.1])]], [[(p70, .cells [.str r126, .sl (.own n98) 1 (s97.2.1.map AV.str), .i s97.2.2.1, .i s97.2.2.2.1, .bool s97.2.2.2.2.1, .i s97.2.2.2.2.2.1, .i s97.2.2.2.2.2.2.1, .str s97.2.2.2.2.2.2.2.1, .i s97.2.2.2.2.2.2.2.2.1, .i s97.2.2.2.2.2.2.2.2.2.1, .i s97.2.2.2.2.2.2.2.2.2.2.1, .sl (.own n99) 2 (s97.2.2.2.2.2.2.2.2.2.2.2.map api.Request.av)])]], [[(n98, .spare)]], [[(n99, .spare)]]] [.ptr p70 0, .ptr p70 0, .ptr p70 0, .agg [.str r126, .sl (.own n98) 1 (s97.2.1.map AV.str), .i s97.2.2.1, .i s97.2.2.2.1, .bool s97.2.2.2.2.1, .i s97.2.2.2.2.2.1, .i s97.2.2.2.2.2.2.1], .ptr p70 0, .ptr p70 0, .ptr p70 11, .sl (.own n99) 2 (s97.2.2.2.2.2.2.2.2.2.2.2.map api.Request.av), .ptr p70 0, .ptr p70 0, .ptr p70 0, .ptr p70 6, .i s97.2.2.2.2.2.2.1, .un, .sl (.own n99) 2 (s97.2.2.2.2.2.2.2.2.2.2.2.map api.Request.av), .i s97.2.2.2.2.2.2.1] (by decide +kernel) Z Z ?_ ?_)))))))
   ·exact ⟨ym Z Z Z, yp Z (pu_nilCheck Z (tm Z) Z), yp Z (fa Z underlying99 Z sizeOf62 Z Z Z), stepg_plain Z (op_loadN (i := 0) Z isAgg62 sizeOf62 (tm Z) Z (nb Z) Z ⟨Z, Z⟩), ym Z Z Z, yp Z (pu_nilCheck Z (tm Z) Z), yp Z (fa Z underlying99 Z sizeOf63 Z Z Z), stepg_plain Z (op_load1 (i := 0) Z isAgg63 (tm Z) Z Z ⟨Z, Z⟩), ym Z Z Z, yp Z (pu_nilCheck Z (tm Z) Z), yp Z (fa Z underlying99 Z sizeOf62 Z Z Z), yp Z (fa Z underlying62 Z sizeOf27 Z Z Z), stepg_plain Z (op_load1 (i := 0) Z isAgg27 (tm Z) Z Z ⟨Z, Z⟩), stepg_plain Z (op_store (i := 0) (cs' := [.str r126, .sl (.own n98) 1 (s97.2.1.map AV.str), .i s97.2.2.1, .i s97.2.2.2.1, .bool s97.2.2.2.2.1, .i s97.2.2.2.2.2.1, .i s97.2.2.2.2.2.2.1]) Z sizeOf62 (tm Z) (v := .agg [.str r126, .sl (.own n98) 1 (s97.2.1.map AV.str), .i s97.2.2.1, .i s97.2.2.2.1, .bool s97.2.2.2.2.1, .i s97.2.2.2.2.2.1, .i s97.2.2.2.2.2.2.1]) (tm Z) Z Z Z (nb Z) Z ⟨Z, Z⟩), ym Z Z Z, ym Z Z Z, trivial⟩
   refine aw_ret ?_
   obtain rfl := some_of h
   exact ⟨[.agg [.str r126, .sl (.own n98) 1 (s97.2.1.map AV.str), .i s97.2.2.1, .i s97.2.2.2.1, .bool s97.2.2.2.2.1, .i s97.2.2.2.2.2.1, .i s97.2.2.2.2.2.2.1], .sl (.own n99) 2 (s97.2.2.2.2.2.2.2.2.2.2.2.map api.Request.av), .i s97.2.2.2.2.2.2.1], .tup [.agg [.str r126, .sl .no 1 (s97.2.1.map AV.str), .i s97.2.2.1, .i s97.2.2.2.1, .bool s97.2.2.2.2.1, .i s97.2.2.2.2.2.1, .i s97.2.2.2.2.2.2.1], .sl (.own n99) 2 (s97.2.2.2.2.2.2.2.2.2.2.2.map api.Request.av), .i s97.2.2.2.2.2.2.1], [(n99, .spare)], ⟨(CellOk.agg 0 (tm Z) Z isAgg62 sizeOf62 (nb Z) Z), (tm Z), (tm Z), trivial⟩, (AV.Le.tup ⟨(AV.Le.agg ⟨vr, (AV.Le.forget _ _ _), vr, vr, vr, vr, vr, trivial⟩), vr, vr, trivial⟩), Weak.mkL [3] (by decide) ⟨⟨_, Z, Z⟩, trivial⟩ trivial, ⟨n99, Z, Z⟩⟩

theorem parse.Idle.ok {in_ : api.Input} {r : Bool} (h : parse.Idle in_ = some r) : Go.Lift.Spec prog 44 [.agg (api.Input.ct .no in_)] [] (fun v H => v = .bool r ∧ H = []) := by
 unfold parse.Idle at h
 refine Go.Lift.Spec.of_body (rs := [.tmp 2]) func44 Z Z (nb Z) Z (xr (xc Z (op_box (cs := (api.Input.ct .no in_)) (v := .agg (api.Input.ct .no in_)) Z (tm Z) Z Z ?_)))
 intro p9
 refine xa (.bool false) Z (pu_assign Z (AEv.bool _)) (xe ?_)
 obtain ⟨s12, s12e, h13⟩ := letO_of h
 refine aw_meet (ν := Unit) (fun v => [(2, .bool s12)]) (fun v => []) ?_ ?_
 ·have h := s12e.symm
  refine aw_region (xa (.ptr p9 0) Z (fa Z underlying62 Z sizeOf9 Z Z Z) (xc Z (op_load1 (i := 0) Z isAgg9 (tm Z) Z Z (xa (.bool (decide (in_.Rest = ([] : List UInt8)))) Z (pu_str (v := .bool (decide (in_.Rest = ([] : List UInt8)))) Z Z (tm Z) (AEv.const Z) Z) (xm Z Z Z ?_)))))
  rcases Bool.eq_false_or_eq_true (decide (in_.Rest = ([] : List UInt8))) with hb15 | hb15
  ·replace h := ite_t (dec_t hb15) h
   refine aops_known 6 Z hb15 (xp (.ptr p9 3) Z Z (fa Z underlying62 Z sizeOf3 Z Z Z) (xg Z Z (op_load1 (i := 0) Z isAgg3 (tm Z) Z Z (xp (.bool (decide (in_.Size = 0))) Z Z (pu_int (v := .bool (decide (in_.Size = 0))) Z Z (tm Z) (AEv.int _ _) Z) (xa (.bool (decide (in_.Size = 0))) Z (pu_pick (b := true) Z (tm Z) (fun _ => (tm Z)) (fun h => nomatch h)) (xm Z Z Z ?_))))))
   rcases Bool.eq_false_or_eq_true (decide (in_.Size = 0)) with hb16 | hb16
   ·replace h := ite_t (dec_t hb16) h
    refine aops_known 11 Z hb16 (xp (.ptr p9 6) Z Z (fa Z underlying62 Z sizeOf27 Z Z Z) (xg Z Z (op_load1 (i := 0) Z isAgg27 (tm Z) Z Z (xp (.bool (decide (in_.Dead = 0))) Z Z (pu_int (v := .bool (decide (in_.Dead = 0))) Z Z (tm Z) (AEv.int _ _) Z) (xa (.bool (decide (in_.Dead = 0))) Z (pu_pick (b := true) Z (tm Z) (fun _ => (tm Z)) (fun h => nomatch h)) (xm Z Z Z (xe ?_)))))))
    subst h
    exact ⟨(), Weak.mkL [] (by decide) trivial ⟨(AEv.le (tm Z) vr), trivial⟩⟩
   ·replace h := ite_f (dec_f hb16) h
    refine aops_known 11 Z hb16 (xn Z Z Z (xn Z Z Z (xn Z Z Z (xa (.bool false) Z (pu_pick (b := false) Z (tm Z) (fun h => nomatch h) (fun _ => (AEv.bool _))) (xm Z Z Z (xe ?_))))))
    subst h
    exact ⟨(), Weak.mkL [] (by decide) trivial ⟨tm Z, trivial⟩⟩
  ·replace h := ite_f (dec_f hb15) h
   refine aops_known 6 Z hb15 (xn Z Z Z (xn Z Z Z (xn Z Z Z (xa (.bool false) Z (pu_pick (b := false) Z (tm Z) (fun h => nomatch h) (fun _ => (AEv.bool _))) (xm Z Z Z (xn Z Z Z (xn Z Z Z (xn Z Z Z (xa (.bool false) Z (pu_pick (b := false) Z (tm Z) (fun h => nomatch h) (fun _ => (AEv.bool _))) ?_)))))))))
   refine xm Z Z Z (xe ?_)
   subst h
   exact ⟨(), Weak.mkL [] (by decide) trivial ⟨tm Z, trivial⟩⟩
 ·intro _
  have h := h13
  refine aw_ret ?_
  obtain rfl := some_of h
  exact ⟨[.bool s12], _, [], ⟨(tm Z), trivial⟩, vr, Weak.mkL [] (by decide) trivial trivial, ⟨Z, Z⟩⟩

theorem unit.read.ok {s_ : List UInt8} {r : api.Unit × Bool} (h : unit.read s_ = some r) : Go.Lift.Spec prog 30 [.str s_] [] (fun v H => v = .tup [.agg [.sl .no 1 (r.1.Cmds.map av_List_List_UInt8)], .bool r.2] ∧ H = []) := by
 unfold unit.read at h
 refine Go.Lift.Spec.of_body (rs := [.cell 2 24, .tmp 3]) func30 Z Z (nb Z) Z (xr (xc Z (op_alloc (cs := [.sl .full 1 (([] : List (List (List UInt8))).map av_List_List_UInt8)]) (v := .agg [.sl .full 1 (([] : List (List (List UInt8))).map av_List_List_UInt8)]) Z zeroValue24 Z Z Z ?_)))
 intro p75
 refine xa (.bool false) Z (pu_assign Z (AEv.bool _)) (xe (xr (xa (.agg [.str ([] : List UInt8), .sl .full 1 (([] : List (List UInt8)).map AV.str), .i 0, .i 0, .bool false, .i 0, .i 0]) Z (pu_build (zs := [.str ([] : List UInt8), .sl .full 1 (([] : List (List UInt8)).map AV.str), .i 0, .i 0, .bool false, .i 0, .i 0]) (szs := [1, 1, 1, 1, 1, 1, 1]) (aparts := []) (cs := [.str ([] : List UInt8), .sl .full 1 (([] : List (List UInt8)).map AV.str), .i 0, .i 0, .bool false, .i 0, .i 0]) Z underlying62 zeroValue62 Z ⟨sizeOf9, sizeOf49, sizeOf3, sizeOf3, sizeOf4, sizeOf3, sizeOf27, trivial⟩ trivial Z) (xm Z Z Z (xa (.agg [.i 65536, .i 1048576, .i 1]) Z (pu_build (zs := [.i 0, .i 0, .i 0]) (szs := [1, 1, 1]) (aparts := [(0, .i 65536), (1, .i 1048576), (2, .i 1)]) (cs := [.i 65536, .i 1048576, .i 1]) Z underlying67 zeroValue67 Z ⟨sizeOf3, sizeOf3, sizeOf3, trivial⟩ ⟨Z, (AEv.int _ _), ⟨Z, (AEv.int _ _), ⟨Z, (AEv.int _ _), trivial⟩⟩⟩ Z) ?_)))))
 obtain ⟨r76, r76e, h⟩ := bind_some h
 refine xc Z (op_call (vs := [.agg [.str ([] : List UInt8), .sl .no 1 (([] : List (List UInt8)).map AV.str), .i 0, .i 0, .bool false, .i 0, .i 0], .str s_, .agg [.i 65536, .i 1048576, .i 1]]) (H := []) Z call43 ⟨(AEv.le (tm Z) (AV.Le.agg ⟨vr, (AV.Le.forget _ _ _), vr, vr, vr, vr, vr, trivial⟩)), (tm Z), (tm Z), trivial⟩ (List.Perm.refl _) (parse.Feed.ok r76e) ?_)
 rintro _ _ ⟨t77, rfl, rfl⟩
 refine xm Z Z Z (xa (.agg (api.Input.ct .no r76.1)) Z (pu_extract Z (tm Z) (nb Z) Z) (xa (.sl (.own t77) 2 (r76.2.1.map api.Request.av)) Z (pu_extract Z (tm Z) (nb Z) Z) (xa (.i r76.2.2) Z (pu_extract Z (tm Z) (nb Z) Z) (xc Z (op_alloc (cs := [.str ([] : List UInt8), .sl .full 1 (([] : List (List UInt8)).map AV.str), .i 0, .i 0, .bool false, .i 0, .i 0]) (v := .agg [.str ([] : List UInt8), .sl .full 1 (([] : List (List UInt8)).map AV.str), .i 0, .i 0, .bool false, .i 0, .i 0]) Z zeroValue62 Z Z Z ?_)))))
 intro p78
 refine ac0 Z Z (op_store (i := 0) (cs' := (api.Input.ct .no r76.1)) Z sizeOf62 (tm Z) (v := .agg (api.Input.ct .no r76.1)) (tm Z) Z Z Z (nb Z) Z (xm Z Z Z (xm Z Z Z (xe (xr (xc Z (op_alloc (cs := [.sl .full 1 (([] : List (List (List UInt8))).map av_List_List_UInt8)]) (v := .agg [.sl .full 1 (([] : List (List (List UInt8))).map av_List_List_UInt8)]) Z zeroValue24 Z Z Z ?_)))))))
 intro p79
 refine xe ?_
 obtain ⟨s104, s104e, h106⟩ := bind_some h
 refine aw_meet (ν := Nat) (fun v => [(0, .str s_), (2, .ptr p75 0), (4, .ptr p78 0), (7, .ptr p79 0)]) (fun v => [(p75, .cells [.sl .full 1 (([] : List (List (List UInt8))).map av_List_List_UInt8)]), (p78, .cells (api.Input.ct .no r76.1)), (p79, .cells [.sl (.own v) 1 (s104.map av_List_List_UInt8)]), (v, .spare)]) ?_ ?_
 ·have h := s104e
  refine xr (xm Z Z Z (xa (.i (r76.2.1.length : Int)) Z (pu_lenM Z underlying63 (tm Z)) (xa (.i 0) Z (pu_move Z (AEv.int _ _)) (xe (aw_block (aw_claimCell 0 0 Z Z fun t131 => (aw_while (σ := unit.read.S0) (ν := Nat) (unit.read.body0 r76) (fun s121 v => [(0, .str s_), (2, .ptr p75 0), (4, .ptr p78 0), (7, .ptr p79 0), (20, .sl (.own t77) 2 (r76.2.1.map api.Request.av)), (21, .i (r76.2.1.length : Int)), (22, .i s121.t22)]) (fun s121 v => [(p75, .cells [.sl .full 1 (([] : List (List (List UInt8))).map av_List_List_UInt8)]), (p78, .cells (api.Input.ct .no r76.1)), (p79, .cells [.sl (.own v) 1 (s121.c.map av_List_List_UInt8)]), (t77, .spare), (v, .spare)]) ⟨0, ([] : List (List (List UInt8)))⟩ t131 _ h (Weak.mkL [4, 2, 1, 3, 0] (by decide) ⟨⟨_, Z, ⟨vr, trivial⟩, Z⟩, ⟨_, Z, cr, Z⟩, ⟨_, Z, ⟨vr, trivial⟩, Z⟩, ⟨_, Z, Z⟩, ⟨_, Z, Z⟩, trivial⟩ ⟨tm Z, tm Z, tm Z, tm Z, tm Z, tm Z, tm Z, trivial⟩) ?_)))))))
  rintro s121 n122 x124 h hx123
  unfold unit.read.body0 at h
  refine xr (xa (.bool (decide (s121.t22 < (r76.2.1.length : Int)))) Z (pu_int (v := .bool (decide (s121.t22 < (r76.2.1.length : Int)))) Z Z (tm Z) (tm Z) Z) (xe (aw_seq (aw_cond (b := decide (s121.t22 < (r76.2.1.length : Int))) (tm Z) (fun hb130 => ?_) (fun hb130 => ?_)))))
  ·replace h := ite_t (dec_t hb130) h
   refine aw_skip (aw_seq (aw_block (aw_seq (aw_region ?_))))
   obtain ⟨c126, h⟩ := need_of h
   refine xa (.vptr [.sl .no 1 ((ix r76.2.1 s121.t22).Args.map AV.str), .i (ix r76.2.1 s121.t22).Size]) Z (pu_indexAddrM Z underlying63 sizeOf69 (tm Z) (tm Z) c126 Z) (xc Z (op_loadVN Z isAgg69 sizeOf69 (tm Z) (nb Z) Z (xc Z (op_alloc (cs := [.sl .full 1 (([] : List (List UInt8)).map AV.str), .i 0]) (v := .agg [.sl .full 1 (([] : List (List UInt8)).map AV.str), .i 0]) Z zeroValue69 Z Z Z ?_))))
   intro p127
   refine ac0 Z Z (op_store (i := 0) (cs' := [.sl .no 1 ((ix r76.2.1 s121.t22).Args.map AV.str), .i (ix r76.2.1 s121.t22).Size]) Z sizeOf69 (tm Z) (v := .agg [.sl .no 1 ((ix r76.2.1 s121.t22).Args.map AV.str), .i (ix r76.2.1 s121.t22).Size]) (tm Z) Z Z Z (nb Z) Z (xe (aw_region (xa (.ptr p79 0) Z (fa Z underlying24 Z sizeOf22 Z Z Z) (xc Z (op_load1 (i := 3) Z isAgg22 (tm Z) Z Z (xa (.ptr p127 0) Z (fa Z underlying69 Z sizeOf49 Z Z Z) (xc Z (op_load1 (i := 0) Z isAgg49 (tm Z) Z Z (xc Z (op_buildSlice (xs := ([(ix r76.2.1 s121.t22).Args] : List (List (List UInt8))).map av_List_List_UInt8) (aparts := [(0, .sl .no 1 ((ix r76.2.1 s121.t22).Args.map AV.str))]) Z underlying22 sizeOf49 zeroValue49 (by decide) (by decide) ⟨Z, (tm Z), trivial⟩ Z Z Z ?_)))))))))))
   obtain ⟨c128, h⟩ := need_of h
   refine xc Z (op_appendOM (q := 5) Z underlying22 underlying22 (.inl Z) typeInfo49 Z Z Z (by decide) (tm Z) Z (given_sl (tm Z)) c128 ?_)
   intro t129
   refine xa (.ptr p79 0) Z (fa Z underlying24 Z sizeOf22 Z Z Z) (ac0 Z Z (op_store (i := 3) (cs' := [.sl (.own t129) 1 ((s121.c ++ [(ix r76.2.1 s121.t22).Args]).map av_List_List_UInt8)]) Z sizeOf22 (tm Z) (v := .sl (.own t129) 1 ((s121.c ++ [(ix r76.2.1 s121.t22).Args]).map av_List_List_UInt8)) (tm Z) Z Z Z (nb Z) Z (xe (aw_region (xa (.i (IntKind.wrap .i64 (s121.t22 + 1))) Z (pu_int (v := .i (IntKind.wrap .i64 (s121.t22 + 1))) Z Z (tm Z) (AEv.int _ _) Z) (xm Z Z Z (xe ?_)))))))
   obtain rfl := some_of h
   exact ⟨_, t129, Z, Weak.mkL [1, 2, 3, 4, 5] (by decide) ⟨⟨_, Z, ⟨vr, trivial⟩, Z⟩, ⟨_, Z, cr, Z⟩, ⟨_, Z, ⟨vr, trivial⟩, Z⟩, ⟨_, Z, Z⟩, ⟨_, Z, Z⟩, trivial⟩ ⟨tm Z, tm Z, tm Z, tm Z, tm Z, tm Z, (AEv.le (tm Z) vr), trivial⟩⟩
  ·replace h := ite_f (dec_f hb130) h
   refine aw_exit ?_
   obtain rfl := some_of h
   have h := congrArg some (hx123 _ rfl)
   obtain rfl := some_of h
   exact ⟨n122, Weak.mkL [0, 1, 2, 4] (by decide) ⟨⟨_, Z, ⟨vr, trivial⟩, Z⟩, ⟨_, Z, cr, Z⟩, ⟨_, Z, ⟨vr, trivial⟩, Z⟩, ⟨_, Z, Z⟩, trivial⟩ ⟨tm Z, tm Z, tm Z, tm Z, trivial⟩⟩
 ·intro n105
  have h := h106
  refine aw_seq ?_
  obtain ⟨s135, s135e, h136⟩ := bind_some h
  refine aw_meet (ν := Unit) (fun v => [(0, .str s_), (2, .ptr p75 0), (7, .ptr p79 0), (41, .bool s135)]) (fun v => [(p75, .cells [.sl .full 1 (([] : List (List (List UInt8))).map av_List_List_UInt8)]), (p79, .cells [.sl (.own n105) 1 (s104.map av_List_List_UInt8)]), (n105, .spare)]) ?_ ?_
  ·have h := s135e
   refine aw_region (xc Z (op_loadN (i := 1) Z isAgg62 sizeOf62 (tm Z) Z (nb Z) Z ?_))
   obtain ⟨r138, r138e, h⟩ := bind_some h
   refine xc Z (op_call (vs := [.agg (api.Input.ct .no r76.1)]) (H := []) Z call44 ⟨(tm Z), trivial⟩ (List.Perm.refl _) (parse.Idle.ok r138e) ?_)
   rintro _ _ ⟨rfl, rfl⟩
   refine xa (.bool (!r138)) Z (pu_not Z (tm Z)) (xm Z Z Z ?_)
   rcases Bool.eq_false_or_eq_true (!r138) with hb139 | hb139
   ·replace h := ite_t hb139 h
    refine aops_known 37 Z hb139 (xn Z Z Z (xn Z Z Z (xn Z Z Z (xa (.bool true) Z (pu_pick (b := true) Z (tm Z) (fun _ => (AEv.bool _)) (fun h => nomatch h)) (xe ?_)))))
    obtain rfl := some_of h
    exact ⟨(), Weak.mkL [0, 2, 3] (by decide) ⟨⟨_, Z, ⟨vr, trivial⟩, Z⟩, ⟨_, Z, ⟨vr, trivial⟩, Z⟩, ⟨_, Z, Z⟩, trivial⟩ ⟨tm Z, tm Z, tm Z, tm Z, trivial⟩⟩
   ·replace h := ite_fb hb139 h
    refine aops_known 37 Z hb139 (xg Z Z (op_loadN (i := 2) Z isAgg24 sizeOf24 (tm Z) Z (nb Z) Z ?_))
    obtain ⟨r140, r140e, h⟩ := bind_some h
    refine xg Z Z (op_call (vs := [.agg [.sl .no 1 (s104.map av_List_List_UInt8)]]) (H := []) Z call20 ⟨(AEv.le (tm Z) (AV.Le.agg ⟨(AV.Le.forget _ _ _), trivial⟩)), trivial⟩ (List.Perm.refl _) (unit.may.ok r140e) ?_)
    rintro _ _ ⟨rfl, rfl⟩
    refine xp (.bool (!r140)) Z Z (pu_not Z (tm Z)) (xa (.bool (!r140)) Z (pu_pick (b := false) Z (tm Z) (fun h => nomatch h) (fun _ => (tm Z))) (xe ?_))
    obtain rfl := some_of h
    exact ⟨(), Weak.mkL [0, 2, 3] (by decide) ⟨⟨_, Z, ⟨vr, trivial⟩, Z⟩, ⟨_, Z, ⟨vr, trivial⟩, Z⟩, ⟨_, Z, Z⟩, trivial⟩ ⟨tm Z, tm Z, tm Z, tm Z, trivial⟩⟩
  ·intro _
   have h := h136
   refine aw_cond (b := s135) (tm Z) (fun hb148 => ?_) (fun hb148 => ?_)
   ·replace h := ite_t hb148 h
    refine xr (xa (.agg [.sl .full 1 (([] : List (List (List UInt8))).map av_List_List_UInt8)]) Z (pu_build (zs := [.sl .full 1 (([] : List (List (List UInt8))).map av_List_List_UInt8)]) (szs := [1]) (aparts := []) (cs := [.sl .full 1 (([] : List (List (List UInt8))).map av_List_List_UInt8)]) Z underlying24 zeroValue24 Z ⟨sizeOf22, trivial⟩ trivial Z) (ac0 Z Z (op_store (i := 0) (cs' := [.sl .full 1 (([] : List (List (List UInt8))).map av_List_List_UInt8)]) Z sizeOf24 (tm Z) (v := .agg [.sl .full 1 (([] : List (List (List UInt8))).map av_List_List_UInt8)]) (tm Z) Z Z Z (nb Z) Z (xa (.bool false) Z (pu_assign Z (AEv.bool _)) (xe (aw_ret ?_))))))
    obtain rfl := some_of h
    exact ⟨[.agg [.sl .full 1 (([] : List (List (List UInt8))).map av_List_List_UInt8)], .bool false], .tup [.agg [.sl .no 1 (([] : List (List (List UInt8))).map av_List_List_UInt8)], .bool false], [], ⟨(CellOk.agg 0 (tm Z) Z isAgg24 sizeOf24 (nb Z) Z), (tm Z), trivial⟩, (AV.Le.tup ⟨(AV.Le.agg ⟨(AV.Le.forget _ _ _), trivial⟩), vr, trivial⟩), Weak.mkL [] (by decide) trivial trivial, ⟨Z, Z⟩⟩
   ·replace h := ite_fb hb148 h
    refine aw_skip (xr (xc Z (op_loadN (i := 1) Z isAgg24 sizeOf24 (tm Z) Z (nb Z) Z ?_)))
    obtain ⟨r141, r141e, h⟩ := bind_some h
    refine xc Z (op_call (vs := [.agg [.sl .no 1 (s104.map av_List_List_UInt8)]]) (H := []) Z call21 ⟨(AEv.le (tm Z) (AV.Le.agg ⟨(AV.Le.forget _ _ _), trivial⟩)), trivial⟩ (List.Perm.refl _) (unit.load.ok r141e) ?_)
    rintro _ _ ⟨rfl, rfl⟩
    refine xm Z Z Z (xa (.str r141.1) Z (pu_extract Z (tm Z) (nb Z) Z) (xa (.bool r141.2) Z (pu_extract Z (tm Z) (nb Z) Z) (xm Z Z Z (xm Z Z Z (xe (aw_seq ?_))))))
    obtain ⟨s143, s143e, h144⟩ := letO_of h
    refine aw_meet (ν := Unit) (fun v => [(2, .ptr p75 0), (7, .ptr p79 0), (54, .bool s143)]) (fun v => [(p75, .cells [.sl .full 1 (([] : List (List (List UInt8))).map av_List_List_UInt8)]), (p79, .cells [.sl (.own n105) 1 (s104.map av_List_List_UInt8)]), (n105, .spare)]) ?_ ?_
    ·have h := s143e.symm
     refine aw_region (xm Z Z Z (xa (.bool (!r141.2)) Z (pu_not Z (tm Z)) (xm Z Z Z ?_)))
     rcases Bool.eq_false_or_eq_true (!r141.2) with hb146 | hb146
     ·replace h := ite_t hb146 h
      refine aops_known 50 Z hb146 (xn Z Z Z (xn Z Z Z (xn Z Z Z (xa (.bool true) Z (pu_pick (b := true) Z (tm Z) (fun _ => (AEv.bool _)) (fun h => nomatch h)) (xe ?_)))))
      subst h
      exact ⟨(), Weak.mkL [0, 1, 2] (by decide) ⟨⟨_, Z, ⟨vr, trivial⟩, Z⟩, ⟨_, Z, ⟨vr, trivial⟩, Z⟩, ⟨_, Z, Z⟩, trivial⟩ ⟨tm Z, tm Z, tm Z, trivial⟩⟩
     ·replace h := ite_fb hb146 h
      refine aops_known 50 Z hb146 (xq Z Z Z Z (xq Z Z Z Z (xp (.bool (!decide (r141.1 = s_))) Z Z (pu_str (v := .bool (!decide (r141.1 = s_))) Z Z (tm Z) (tm Z) Z) (xa (.bool (!decide (r141.1 = s_))) Z (pu_pick (b := false) Z (tm Z) (fun h => nomatch h) (fun _ => (tm Z))) (xe ?_)))))
      subst h
      exact ⟨(), Weak.mkL [0, 1, 2] (by decide) ⟨⟨_, Z, ⟨vr, trivial⟩, Z⟩, ⟨_, Z, ⟨vr, trivial⟩, Z⟩, ⟨_, Z, Z⟩, trivial⟩ ⟨tm Z, tm Z, tm Z, trivial⟩⟩
    ·intro _
     have h := h144
     refine aw_cond (b := s143) (tm Z) (fun hb147 => ?_) (fun hb147 => ?_)
     ·replace h := ite_t hb147 h
      refine xr (xa (.agg [.sl .full 1 (([] : List (List (List UInt8))).map av_List_List_UInt8)]) Z (pu_build (zs := [.sl .full 1 (([] : List (List (List UInt8))).map av_List_List_UInt8)]) (szs := [1]) (aparts := []) (cs := [.sl .full 1 (([] : List (List (List UInt8))).map av_List_List_UInt8)]) Z underlying24 zeroValue24 Z ⟨sizeOf22, trivial⟩ trivial Z) (ac0 Z Z (op_store (i := 0) (cs' := [.sl .full 1 (([] : List (List (List UInt8))).map av_List_List_UInt8)]) Z sizeOf24 (tm Z) (v := .agg [.sl .full 1 (([] : List (List (List UInt8))).map av_List_List_UInt8)]) (tm Z) Z Z Z (nb Z) Z (xa (.bool false) Z (pu_assign Z (AEv.bool _)) (xe (aw_ret ?_))))))
      obtain rfl := some_of h
      exact ⟨[.agg [.sl .full 1 (([] : List (List (List UInt8))).map av_List_List_UInt8)], .bool false], .tup [.agg [.sl .no 1 (([] : List (List (List UInt8))).map av_List_List_UInt8)], .bool false], [], ⟨(CellOk.agg 0 (tm Z) Z isAgg24 sizeOf24 (nb Z) Z), (tm Z), trivial⟩, (AV.Le.tup ⟨(AV.Le.agg ⟨(AV.Le.forget _ _ _), trivial⟩), vr, trivial⟩), Weak.mkL [] (by decide) trivial trivial, ⟨Z, Z⟩⟩
     ·replace h := ite_fb hb147 h
      refine aw_skip (xr (xc Z (op_loadN (i := 1) Z isAgg24 sizeOf24 (tm Z) Z (nb Z) Z (ac0 Z Z (op_store (i := 0) (cs' := [.sl (.own n105) 1 (s104.map av_List_List_UInt8)]) Z sizeOf24 (tm Z) (v := .agg [.sl (.own n105) 1 (s104.map av_List_List_UInt8)]) (tm Z) Z Z Z (nb Z) Z (xa (.bool true) Z (pu_assign Z (AEv.bool _)) (xe (aw_ret ?_))))))))
      obtain rfl := some_of h
      exact ⟨[.agg [.sl (.own n105) 1 (s104.map av_List_List_UInt8)], .bool true], .tup [.agg [.sl .no 1 (s104.map av_List_List_UInt8)], .bool true], [], ⟨(CellOk.agg 0 (tm Z) Z isAgg24 sizeOf24 (nb Z) Z), (tm Z), trivial⟩, (AV.Le.tup ⟨(AV.Le.agg ⟨(AV.Le.forget _ _ _), trivial⟩), vr, trivial⟩), Weak.mkL [] (by decide) trivial trivial, ⟨Z, Z⟩⟩

theorem unit.Take.ok {s_ : List UInt8} {r : api.Unit × Int × Int} (h : unit.Take s_ = some r) : Go.Lift.Spec prog 14 [.str s_] [] (fun v H => v = .tup [.agg [.sl .no 1 (r.1.Cmds.map av_List_List_UInt8)], .i r.2.1, .i r.2.2] ∧ H = []) := by
 unfold unit.Take at h
 refine Go.Lift.Spec.of_body (rs := [.cell 2 24, .tmp 3, .tmp 4]) func14 Z Z (nb Z) Z (xr (xc Z (op_alloc (cs := [.sl .full 1 (([] : List (List (List UInt8))).map av_List_List_UInt8)]) (v := .agg [.sl .full 1 (([] : List (List (List UInt8))).map av_List_List_UInt8)]) Z zeroValue24 Z Z Z ?_)))
 intro p22
 refine xa (.i 0) Z (pu_assign Z (AEv.int _ _)) (xa (.i 0) Z (pu_assign Z (AEv.int _ _)) (xe (aw_seq (aw_block (xr (xm Z Z Z (xa (.bool (decide (s_ = ([] : List UInt8)))) Z (pu_str (v := .bool (decide (s_ = ([] : List UInt8)))) Z Z (tm Z) (AEv.const Z) Z) (xm Z Z Z ?_))))))))
 refine xe (aw_cond (b := decide (s_ = ([] : List UInt8))) (tm Z) (fun hb42 => ?_) (fun hb42 => ?_))
 ·replace h := ite_t (dec_t hb42) h
  refine xr (xa (.agg [.sl .full 1 (([] : List (List (List UInt8))).map av_List_List_UInt8)]) Z (pu_build (zs := [.sl .full 1 (([] : List (List (List UInt8))).map av_List_List_UInt8)]) (szs := [1]) (aparts := []) (cs := [.sl .full 1 (([] : List (List (List UInt8))).map av_List_List_UInt8)]) Z underlying24 zeroValue24 Z ⟨sizeOf22, trivial⟩ trivial Z) (ac0 Z Z (op_store (i := 0) (cs' := [.sl .full 1 (([] : List (List (List UInt8))).map av_List_List_UInt8)]) Z sizeOf24 (tm Z) (v := .agg [.sl .full 1 (([] : List (List (List UInt8))).map av_List_List_UInt8)]) (tm Z) Z Z Z (nb Z) Z (xa (.i 0) Z (pu_assign Z (AEv.int _ _)) (xa (.i 4) Z (pu_assign Z (AEv.int _ _)) (xe (aw_ret ?_)))))))
  obtain rfl := some_of h
  exact ⟨[.agg [.sl .full 1 (([] : List (List (List UInt8))).map av_List_List_UInt8)], .i 0, .i 4], .tup [.agg [.sl .no 1 (([] : List (List (List UInt8))).map av_List_List_UInt8)], .i 0, .i 4], [], ⟨(CellOk.agg 0 (tm Z) Z isAgg24 sizeOf24 (nb Z) Z), (tm Z), (tm Z), trivial⟩, (AV.Le.tup ⟨(AV.Le.agg ⟨(AV.Le.forget _ _ _), trivial⟩), vr, vr, trivial⟩), Weak.mkL [] (by decide) trivial trivial, ⟨Z, Z⟩⟩
 ·replace h := ite_f (dec_f hb42) h
  refine xr (xm Z Z Z ?_)
  obtain ⟨c23, h⟩ := need_of h
  refine xa (.int .u8 (bix s_ 0)) Z (pu_strIdxM Z underlying9 (tm Z) (AEv.int _ _) c23) (xa (.bool (!decide ((bix s_ 0) = 85))) Z (pu_int (v := .bool (!decide ((bix s_ 0) = 85))) Z Z (tm Z) (AEv.int _ _) Z) (xm Z Z Z (xe (aw_cond (b := (!decide ((bix s_ 0) = 85))) (tm Z) (fun hb41 => ?_) (fun hb41 => ?_)))))
  ·replace h := ite_f (ndec_t hb41) h
   refine xr (xa (.agg [.sl .full 1 (([] : List (List (List UInt8))).map av_List_List_UInt8)]) Z (pu_build (zs := [.sl .full 1 (([] : List (List (List UInt8))).map av_List_List_UInt8)]) (szs := [1]) (aparts := []) (cs := [.sl .full 1 (([] : List (List (List UInt8))).map av_List_List_UInt8)]) Z underlying24 zeroValue24 Z ⟨sizeOf22, trivial⟩ trivial Z) (ac0 Z Z (op_store (i := 0) (cs' := [.sl .full 1 (([] : List (List (List UInt8))).map av_List_List_UInt8)]) Z sizeOf24 (tm Z) (v := .agg [.sl .full 1 (([] : List (List (List UInt8))).map av_List_List_UInt8)]) (tm Z) Z Z Z (nb Z) Z (xa (.i 0) Z (pu_assign Z (AEv.int _ _)) (xa (.i 5) Z (pu_assign Z (AEv.int _ _)) (xe (aw_ret ?_)))))))
   obtain rfl := some_of h
   exact ⟨[.agg [.sl .full 1 (([] : List (List (List UInt8))).map av_List_List_UInt8)], .i 0, .i 5], .tup [.agg [.sl .no 1 (([] : List (List (List UInt8))).map av_List_List_UInt8)], .i 0, .i 5], [], ⟨(CellOk.agg 0 (tm Z) Z isAgg24 sizeOf24 (nb Z) Z), (tm Z), (tm Z), trivial⟩, (AV.Le.tup ⟨(AV.Le.agg ⟨(AV.Le.forget _ _ _), trivial⟩), vr, vr, trivial⟩), Weak.mkL [] (by decide) trivial trivial, ⟨Z, Z⟩⟩
  ·replace h := ite_t (ndec_f hb41) h
   refine xr (xm Z Z Z (xa (.i (s_.length : Int)) Z (pu_strLen Z underlying9 (tm Z)) (xa (.bool (decide ((s_.length : Int) < 5))) Z (pu_int (v := .bool (decide ((s_.length : Int) < 5))) Z Z (tm Z) (AEv.int _ _) Z) (xm Z Z Z (xe (aw_cond (b := decide ((s_.length : Int) < 5)) (tm Z) (fun hb40 => ?_) (fun hb40 => ?_)))))))
   ·replace h := ite_t (dec_t hb40) h
    refine xr (xa (.agg [.sl .full 1 (([] : List (List (List UInt8))).map av_List_List_UInt8)]) Z (pu_build (zs := [.sl .full 1 (([] : List (List (List UInt8))).map av_List_List_UInt8)]) (szs := [1]) (aparts := []) (cs := [.sl .full 1 (([] : List (List (List UInt8))).map av_List_List_UInt8)]) Z underlying24 zeroValue24 Z ⟨sizeOf22, trivial⟩ trivial Z) (ac0 Z Z (op_store (i := 0) (cs' := [.sl .full 1 (([] : List (List (List UInt8))).map av_List_List_UInt8)]) Z sizeOf24 (tm Z) (v := .agg [.sl .full 1 (([] : List (List (List UInt8))).map av_List_List_UInt8)]) (tm Z) Z Z Z (nb Z) Z (xa (.i 0) Z (pu_assign Z (AEv.int _ _)) (xa (.i 4) Z (pu_assign Z (AEv.int _ _)) (xe (aw_ret ?_)))))))
    obtain rfl := some_of h
    exact ⟨[.agg [.sl .full 1 (([] : List (List (List UInt8))).map av_List_List_UInt8)], .i 0, .i 4], .tup [.agg [.sl .no 1 (([] : List (List (List UInt8))).map av_List_List_UInt8)], .i 0, .i 4], [], ⟨(CellOk.agg 0 (tm Z) Z isAgg24 sizeOf24 (nb Z) Z), (tm Z), (tm Z), trivial⟩, (AV.Le.tup ⟨(AV.Le.agg ⟨(AV.Le.forget _ _ _), trivial⟩), vr, vr, trivial⟩), Weak.mkL [] (by decide) trivial trivial, ⟨Z, Z⟩⟩
   ·replace h := ite_f (dec_f hb40) h
    refine aw_skip (aw_seq ?_)
    obtain ⟨c24, h⟩ := need_of h
    obtain ⟨c25, h⟩ := need_of h
    obtain ⟨x26, x26e, h⟩ := letO_of h
    obtain ⟨c27, h⟩ := need_of h
    obtain ⟨x28, x28e, h⟩ := letO_of h
    obtain ⟨c29, h⟩ := need_of h
    obtain ⟨x30, x30e, h⟩ := letO_of h
    refine aw_planR (by decide +kernel) [[], [], [], [], [], [], [], [], [], [], [], [], [], [], [], [], [], [], []] [[]] [[[(p22, .cells [.sl .full 1 (([] : List (List (List UInt8))).map av_List_List_UInt8)])]]] [.str s_, .int .u8 (bix s_ 1), .i (IntKind.wrap .i64 (bix s_ 1)), .str s_, .int .u8 (bix s_ 2), .i (IntKind.wrap .i64 (bix s_ 2)), .i (IntKind.wrap .i64 ((IntKind.wrap .i64 (bix s_ 2)) * 2 ^ min (Int.toNat 8) (IntKind.bits .i64))), .i x26, .str s_, .int .u8 (bix s_ 3), .i (IntKind.wrap .i64 (bix s_ 3)), .i (IntKind.wrap .i64 ((IntKind.wrap .i64 (bix s_ 3)) * 2 ^ min (Int.toNat 16) (IntKind.bits .i64))), .i x28, .str s_, .int .u8 (bix s_ 4), .i (IntKind.wrap .i64 (bix s_ 4)), .i (IntKind.wrap .i64 ((IntKind.wrap .i64 (bix s_ 4)) * 2 ^ min (Int.toNat 24) (IntKind.bits .i64))), .i x30, .i x30] (by decide +kernel) Z Z ?_ ?_
    ·exact ⟨ym Z Z Z, yp Z (pu_strIdxM Z underlying9 (tm Z) (AEv.int _ _) c24), yp Z (pu_conv Z underlying5 underlying3 (tm Z)), ym Z Z Z, yp Z (pu_strIdxM Z underlying9 (tm Z) (AEv.int _ _) c25), yp Z (pu_conv Z underlying5 underlying3 (tm Z)), yp Z (pu_shl Z (tm Z) (AEv.int _ _) (by decide)), yp Z (APure.eq (pu_int (v := .i (Go.bits .or .i64 (IntKind.wrap .i64 (bix s_ 1)) (IntKind.wrap .i64 ((IntKind.wrap .i64 (bix s_ 2)) * 2 ^ min (Int.toNat 8) (IntKind.bits .i64))))) Z Z (tm Z) (tm Z) Z) (congrArg (AV.int .i64) x26e.symm)), ym Z Z Z, yp Z (pu_strIdxM Z underlying9 (tm Z) (AEv.int _ _) c27), yp Z (pu_conv Z underlying5 underlying3 (tm Z)), yp Z (pu_shl Z (tm Z) (AEv.int _ _) (by decide)), yp Z (APure.eq (pu_int (v := .i (Go.bits .or .i64 x26 (IntKind.wrap .i64 ((IntKind.wrap .i64 (bix s_ 3)) * 2 ^ min (Int.toNat 16) (IntKind.bits .i64))))) Z Z (tm Z) (tm Z) Z) (congrArg (AV.int .i64) x28e.symm)), ym Z Z Z, yp Z (pu_strIdxM Z underlying9 (tm Z) (AEv.int _ _) c29), yp Z (pu_conv Z underlying5 underlying3 (tm Z)), yp Z (pu_shl Z (tm Z) (AEv.int _ _) (by decide)), yp Z (APure.eq (pu_int (v := .i (Go.bits .or .i64 x28 (IntKind.wrap .i64 ((IntKind.wrap .i64 (bix s_ 4)) * 2 ^ min (Int.toNat 24) (IntKind.bits .i64))))) Z Z (tm Z) (tm Z) Z) (congrArg (AV.int .i64) x30e.symm)), ym Z Z Z, trivial⟩
    refine aw_seq (aw_block (xr (xm Z Z Z (xa (.bool (decide (4194304 < x30))) Z (pu_int (v := .bool (decide (4194304 < x30))) Z Z (tm Z) (AEv.int _ _) Z) (xm Z Z Z (xe (aw_cond (b := decide (4194304 < x30)) (tm Z) (fun hb39 => ?_) (fun hb39 => ?_))))))))
    ·replace h := ite_t (dec_t hb39) h
     refine xr (xa (.agg [.sl .full 1 (([] : List (List (List UInt8))).map av_List_List_UInt8)]) Z (pu_build (zs := [.sl .full 1 (([] : List (List (List UInt8))).map av_List_List_UInt8)]) (szs := [1]) (aparts := []) (cs := [.sl .full 1 (([] : List (List (List UInt8))).map av_List_List_UInt8)]) Z underlying24 zeroValue24 Z ⟨sizeOf22, trivial⟩ trivial Z) (ac0 Z Z (op_store (i := 0) (cs' := [.sl .full 1 (([] : List (List (List UInt8))).map av_List_List_UInt8)]) Z sizeOf24 (tm Z) (v := .agg [.sl .full 1 (([] : List (List (List UInt8))).map av_List_List_UInt8)]) (tm Z) Z Z Z (nb Z) Z (xa (.i 0) Z (pu_assign Z (AEv.int _ _)) (xa (.i 6) Z (pu_assign Z (AEv.int _ _)) (xe (aw_ret ?_)))))))
     obtain rfl := some_of h
     exact ⟨[.agg [.sl .full 1 (([] : List (List (List UInt8))).map av_List_List_UInt8)], .i 0, .i 6], .tup [.agg [.sl .no 1 (([] : List (List (List UInt8))).map av_List_List_UInt8)], .i 0, .i 6], [], ⟨(CellOk.agg 0 (tm Z) Z isAgg24 sizeOf24 (nb Z) Z), (tm Z), (tm Z), trivial⟩, (AV.Le.tup ⟨(AV.Le.agg ⟨(AV.Le.forget _ _ _), trivial⟩), vr, vr, trivial⟩), Weak.mkL [] (by decide) trivial trivial, ⟨Z, Z⟩⟩
    ·replace h := ite_f (dec_f hb39) h
     refine xr (xm Z Z Z (xa (.i (s_.length : Int)) Z (pu_strLen Z underlying9 (tm Z)) (xm Z Z Z (xa (.i (IntKind.wrap .i64 (x30 + 9))) Z (pu_int (v := .i (IntKind.wrap .i64 (x30 + 9))) Z Z (tm Z) (AEv.int _ _) Z) (xa (.bool (decide ((s_.length : Int) < (IntKind.wrap .i64 (x30 + 9))))) Z (pu_int (v := .bool (decide ((s_.length : Int) < (IntKind.wrap .i64 (x30 + 9))))) Z Z (tm Z) (tm Z) Z) (xm Z Z Z (xe (aw_cond (b := decide ((s_.length : Int) < (IntKind.wrap .i64 (x30 + 9)))) (tm Z) (fun hb38 => ?_) (fun hb38 => ?_)))))))))
     ·replace h := ite_t (dec_t hb38) h
      refine xr (xa (.agg [.sl .full 1 (([] : List (List (List UInt8))).map av_List_List_UInt8)]) Z (pu_build (zs := [.sl .full 1 (([] : List (List (List UInt8))).map av_List_List_UInt8)]) (szs := [1]) (aparts := []) (cs := [.sl .full 1 (([] : List (List (List UInt8))).map av_List_List_UInt8)]) Z underlying24 zeroValue24 Z ⟨sizeOf22, trivial⟩ trivial Z) (ac0 Z Z (op_store (i := 0) (cs' := [.sl .full 1 (([] : List (List (List UInt8))).map av_List_List_UInt8)]) Z sizeOf24 (tm Z) (v := .agg [.sl .full 1 (([] : List (List (List UInt8))).map av_List_List_UInt8)]) (tm Z) Z Z Z (nb Z) Z (xa (.i 0) Z (pu_assign Z (AEv.int _ _)) (xa (.i 4) Z (pu_assign Z (AEv.int _ _)) (xe (aw_ret ?_)))))))
      obtain rfl := some_of h
      exact ⟨[.agg [.sl .full 1 (([] : List (List (List UInt8))).map av_List_List_UInt8)], .i 0, .i 4], .tup [.agg [.sl .no 1 (([] : List (List (List UInt8))).map av_List_List_UInt8)], .i 0, .i 4], [], ⟨(CellOk.agg 0 (tm Z) Z isAgg24 sizeOf24 (nb Z) Z), (tm Z), (tm Z), trivial⟩, (AV.Le.tup ⟨(AV.Le.agg ⟨(AV.Le.forget _ _ _), trivial⟩), vr, vr, trivial⟩), Weak.mkL [] (by decide) trivial trivial, ⟨Z, Z⟩⟩
     ·replace h := ite_f (dec_f hb38) h
      refine xr (xm Z Z Z (xm Z Z Z (xa (.i (IntKind.wrap .i64 (x30 + 9))) Z (pu_int (v := .i (IntKind.wrap .i64 (x30 + 9))) Z Z (tm Z) (AEv.int _ _) Z) ?_)))
      obtain ⟨c31, h⟩ := need_of h
      refine xa (.str (sub s_ 0 (IntKind.wrap .i64 (x30 + 9)))) Z (pu_strSliceM Z underlying9 (tm Z) Z ⟨_, (tm Z)⟩ c31) ?_
      obtain ⟨r32, r32e, h⟩ := bind_some h
      refine xc Z (op_call (vs := [.str (sub s_ 0 (IntKind.wrap .i64 (x30 + 9)))]) (H := []) Z call29 ⟨(tm Z), trivial⟩ (List.Perm.refl _) (crc.Fits.ok r32e) ?_)
      rintro _ _ ⟨rfl, rfl⟩
      refine xa (.bool (!r32)) Z (pu_not Z (tm Z)) (xm Z Z Z (xe (aw_cond (b := (!r32)) (tm Z) (fun hb37 => ?_) (fun hb37 => ?_))))
      ·replace h := ite_t hb37 h
       refine xr (xa (.agg [.sl .full 1 (([] : List (List (List UInt8))).map av_List_List_UInt8)]) Z (pu_build (zs := [.sl .full 1 (([] : List (List (List UInt8))).map av_List_List_UInt8)]) (szs := [1]) (aparts := []) (cs := [.sl .full 1 (([] : List (List (List UInt8))).map av_List_List_UInt8)]) Z underlying24 zeroValue24 Z ⟨sizeOf22, trivial⟩ trivial Z) (ac0 Z Z (op_store (i := 0) (cs' := [.sl .full 1 (([] : List (List (List UInt8))).map av_List_List_UInt8)]) Z sizeOf24 (tm Z) (v := .agg [.sl .full 1 (([] : List (List (List UInt8))).map av_List_List_UInt8)]) (tm Z) Z Z Z (nb Z) Z (xa (.i 0) Z (pu_assign Z (AEv.int _ _)) (xa (.i 14) Z (pu_assign Z (AEv.int _ _)) (xe (aw_ret ?_)))))))
       obtain rfl := some_of h
       exact ⟨[.agg [.sl .full 1 (([] : List (List (List UInt8))).map av_List_List_UInt8)], .i 0, .i 14], .tup [.agg [.sl .no 1 (([] : List (List (List UInt8))).map av_List_List_UInt8)], .i 0, .i 14], [], ⟨(CellOk.agg 0 (tm Z) Z isAgg24 sizeOf24 (nb Z) Z), (tm Z), (tm Z), trivial⟩, (AV.Le.tup ⟨(AV.Le.agg ⟨(AV.Le.forget _ _ _), trivial⟩), vr, vr, trivial⟩), Weak.mkL [] (by decide) trivial trivial, ⟨Z, Z⟩⟩
      ·replace h := ite_fb hb37 h
       refine aw_skip (xr (xm Z Z Z (xm Z Z Z (xa (.i (IntKind.wrap .i64 (5 + x30))) Z (pu_int (v := .i (IntKind.wrap .i64 (5 + x30))) Z Z (AEv.int _ _) (tm Z) Z) ?_))))
       obtain ⟨c33, h⟩ := need_of h
       refine xa (.str (sub s_ 5 (IntKind.wrap .i64 (5 + x30)))) Z (pu_strSliceM Z underlying9 (tm Z) ⟨_, (AEv.int _ _)⟩ ⟨_, (tm Z)⟩ c33) ?_
       obtain ⟨r34, r34e, h⟩ := bind_some h
       refine xc Z (op_call (vs := [.str (sub s_ 5 (IntKind.wrap .i64 (5 + x30)))]) (H := []) Z call30 ⟨(tm Z), trivial⟩ (List.Perm.refl _) (unit.read.ok r34e) ?_)
       rintro _ _ ⟨rfl, rfl⟩
       refine xm Z Z Z (xa (.agg [.sl .no 1 (r34.1.Cmds.map av_List_List_UInt8)]) Z (pu_extract Z (tm Z) (nb Z) Z) (xa (.bool r34.2) Z (pu_extract Z (tm Z) (nb Z) Z) (xc Z (op_alloc (cs := [.sl .full 1 (([] : List (List (List UInt8))).map av_List_List_UInt8)]) (v := .agg [.sl .full 1 (([] : List (List (List UInt8))).map av_List_List_UInt8)]) Z zeroValue24 Z Z Z ?_))))
       intro p35
       refine ac0 Z Z (op_store (i := 0) (cs' := [.sl .no 1 (r34.1.Cmds.map av_List_List_UInt8)]) Z sizeOf24 (tm Z) (v := .agg [.sl .no 1 (r34.1.Cmds.map av_List_List_UInt8)]) (tm Z) Z Z Z (nb Z) Z (xm Z Z Z (xe (aw_seq (xr (xm Z Z Z (xa (.bool (!r34.2)) Z (pu_not Z (tm Z)) (xe (aw_cond (b := (!r34.2)) (tm Z) (fun hb36 => ?_) (fun hb36 => ?_))))))))))
       ·replace h := ite_t hb36 h
        refine xr (xa (.agg [.sl .full 1 (([] : List (List (List UInt8))).map av_List_List_UInt8)]) Z (pu_build (zs := [.sl .full 1 (([] : List (List (List UInt8))).map av_List_List_UInt8)]) (szs := [1]) (aparts := []) (cs := [.sl .full 1 (([] : List (List (List UInt8))).map av_List_List_UInt8)]) Z underlying24 zeroValue24 Z ⟨sizeOf22, trivial⟩ trivial Z) (ac0 Z Z (op_store (i := 1) (cs' := [.sl .full 1 (([] : List (List (List UInt8))).map av_List_List_UInt8)]) Z sizeOf24 (tm Z) (v := .agg [.sl .full 1 (([] : List (List (List UInt8))).map av_List_List_UInt8)]) (tm Z) Z Z Z (nb Z) Z (xa (.i 0) Z (pu_assign Z (AEv.int _ _)) (xa (.i 5) Z (pu_assign Z (AEv.int _ _)) (xe (aw_ret ?_)))))))
        obtain rfl := some_of h
        exact ⟨[.agg [.sl .full 1 (([] : List (List (List UInt8))).map av_List_List_UInt8)], .i 0, .i 5], .tup [.agg [.sl .no 1 (([] : List (List (List UInt8))).map av_List_List_UInt8)], .i 0, .i 5], [], ⟨(CellOk.agg 1 (tm Z) Z isAgg24 sizeOf24 (nb Z) Z), (tm Z), (tm Z), trivial⟩, (AV.Le.tup ⟨(AV.Le.agg ⟨(AV.Le.forget _ _ _), trivial⟩), vr, vr, trivial⟩), Weak.mkL [] (by decide) trivial trivial, ⟨Z, Z⟩⟩
       ·replace h := ite_fb hb36 h
        refine aw_skip (xr (xc Z (op_loadN (i := 0) Z isAgg24 sizeOf24 (tm Z) Z (nb Z) Z (xm Z Z Z (xa (.i (IntKind.wrap .i64 (x30 + 9))) Z (pu_int (v := .i (IntKind.wrap .i64 (x30 + 9))) Z Z (tm Z) (AEv.int _ _) Z) (ac0 Z Z (op_store (i := 1) (cs' := [.sl .no 1 (r34.1.Cmds.map av_List_List_UInt8)]) Z sizeOf24 (tm Z) (v := .agg [.sl .no 1 (r34.1.Cmds.map av_List_List_UInt8)]) (tm Z) Z Z Z (nb Z) Z (xm Z Z Z (xa (.i 0) Z (pu_assign Z (AEv.int _ _)) (xe ?_))))))))))
        refine aw_ret ?_
        obtain rfl := some_of h
        exact ⟨[.agg [.sl .no 1 (r34.1.Cmds.map av_List_List_UInt8)], .i (IntKind.wrap .i64 (x30 + 9)), .i 0], .tup [.agg [.sl .no 1 (r34.1.Cmds.map av_List_List_UInt8)], .i (IntKind.wrap .i64 (x30 + 9)), .i 0], [], ⟨(CellOk.agg 1 (tm Z) Z isAgg24 sizeOf24 (nb Z) Z), (tm Z), (tm Z), trivial⟩, (AV.Le.tup cr), Weak.mkL [] (by decide) trivial trivial, ⟨Z, Z⟩⟩

theorem unit.All.ok {s_ : List UInt8} {r : (List api.Unit) × Int} (h : unit.All s_ = some r) : Go.Lift.Spec prog 16 [.str s_] [] (fun v H => ∃ n0, v = .tup [.sl (.own n0) 1 (r.1.map api.Unit.av), .i r.2] ∧ H = [(n0, .spare)]) := by
 unfold unit.All at h
 refine Go.Lift.Spec.of_body (rs := [.tmp 2, .tmp 3]) func16 Z Z (nb Z) Z (xr (xa (.sl .full 1 (([] : List api.Unit).map api.Unit.av)) Z (pu_assign Z (AEv.nil 1 (by decide))) (xa (.i 0) Z (pu_assign Z (AEv.int _ _)) (xe (xr (xa (.sl .full 1 (([] : List api.Unit).map api.Unit.av)) Z (pu_assign Z (AEv.nil 1 (by decide))) (xe ?_)))))))
 refine xr (xa (.i 0) Z (pu_assign Z (AEv.int _ _)) (xe (aw_block (aw_claim 4 (tm Z) fun t54 => (aw_while (σ := unit.All.S0) (ν := Nat) (unit.All.body0 s_) (fun s43 v => [(0, .str s_), (4, .sl (.own v) 1 (s43.l.map api.Unit.av)), (5, .i s43.at_)]) (fun s43 v => [(v, .spare)]) ⟨([] : List api.Unit), 0⟩ t54 _ h (Weak.mkL [0] (by decide) ⟨⟨_, Z, Z⟩, trivial⟩ ⟨tm Z, tm Z, tm Z, trivial⟩) ?_)))))
 rintro s43 n44 x46 h hx45
 unfold unit.All.body0 at h
 refine aw_block (xr (xm Z Z Z (xm Z Z Z ?_)))
 obtain ⟨c48, h⟩ := need_of h
 refine xa (.str (sub s_ s43.at_ (s_.length : Int))) Z (pu_strSliceM Z underlying9 (tm Z) ⟨_, (tm Z)⟩ Z c48) ?_
 obtain ⟨r49, r49e, h⟩ := bind_some h
 refine xc Z (op_call (vs := [.str (sub s_ s43.at_ (s_.length : Int))]) (H := []) Z call14 ⟨(tm Z), trivial⟩ (List.Perm.refl _) (unit.Take.ok r49e) ?_)
 rintro _ _ ⟨rfl, rfl⟩
 refine xm Z Z Z (xa (.agg [.sl .no 1 (r49.1.Cmds.map av_List_List_UInt8)]) Z (pu_extract Z (tm Z) (nb Z) Z) (xa (.i r49.2.1) Z (pu_extract Z (tm Z) (nb Z) Z) (xa (.i r49.2.2) Z (pu_extract Z (tm Z) (nb Z) Z) (xc Z (op_alloc (cs := [.sl .full 1 (([] : List (List (List UInt8))).map av_List_List_UInt8)]) (v := .agg [.sl .full 1 (([] : List (List (List UInt8))).map av_List_List_UInt8)]) Z zeroValue24 Z Z Z ?_)))))
 intro p50
 refine ac0 Z Z (op_store (i := 0) (cs' := [.sl .no 1 (r49.1.Cmds.map av_List_List_UInt8)]) Z sizeOf24 (tm Z) (v := .agg [.sl .no 1 (r49.1.Cmds.map av_List_List_UInt8)]) (tm Z) Z Z Z (nb Z) Z (xm Z Z Z (xm Z Z Z (xe (aw_seq (xr (xm Z Z Z (xa (.bool (!decide (r49.2.2 = 0))) Z (pu_int (v := .bool (!decide (r49.2.2 = 0))) Z Z (tm Z) (AEv.int _ _) Z) (xe ?_)))))))))
 refine aw_cond (b := (!decide (r49.2.2 = 0))) (tm Z) (fun hb53 => ?_) (fun hb53 => ?_)
 ·replace h := ite_f (ndec_t hb53) h
  refine xr (xm Z Z Z (xm Z Z Z (xm Z Z Z (xm Z Z Z (xe (aw_ret ?_))))))
  obtain rfl := some_of h
  have h := congrArg some (hx45 _ rfl)
  obtain rfl := some_of h
  exact ⟨[.sl (.own n44) 1 (s43.l.map api.Unit.av), .i s43.at_], _, [(n44, .spare)], ⟨(tm Z), (tm Z), trivial⟩, vr, Weak.mkL [1] (by decide) ⟨⟨_, Z, Z⟩, trivial⟩ trivial, ⟨n44, Z, Z⟩⟩
 ·replace h := ite_t (ndec_f hb53) h
  refine aw_skip (xr (xm Z Z Z (xc Z (op_loadN (i := 0) Z isAgg24 sizeOf24 (tm Z) Z (nb Z) Z (xc Z (op_buildSlice (xs := ([r49.1] : List api.Unit).map api.Unit.av) (aparts := [(0, .agg [.sl .no 1 (r49.1.Cmds.map av_List_List_UInt8)])]) Z underlying37 sizeOf24 zeroValue24 (by decide) (by decide) ⟨Z, (tm Z), trivial⟩ Z Z Z ?_))))))
  obtain ⟨c51, h⟩ := need_of h
  refine xc Z (op_appendOM (q := 1) Z underlying37 underlying37 (.inl Z) typeInfo24 Z Z Z (by decide) (tm Z) Z (given_sl (tm Z)) c51 ?_)
  intro t52
  refine xm Z Z Z (xe (aw_region (xm Z Z Z (xm Z Z Z (xa (.i (IntKind.wrap .i64 (s43.at_ + r49.2.1))) Z (pu_int (v := .i (IntKind.wrap .i64 (s43.at_ + r49.2.1))) Z Z (tm Z) (tm Z) Z) (xm Z Z Z (xe ?_)))))))
  obtain rfl := some_of h
  exact ⟨_, t52, Z, Weak.mkL [1] (by decide) ⟨⟨_, Z, Z⟩, trivial⟩ ⟨tm Z, (AEv.le (tm Z) vr), (AEv.le (tm Z) vr), trivial⟩⟩

theorem slices.Equal_string.ok {s1_ : List (List UInt8)} {s2_ : List (List UInt8)} {r : Bool} (h : slices.Equal_string s1_ s2_ = some r) : Go.Lift.Spec prog 28 [.sl .no 1 (s1_.map AV.str), .sl .no 1 (s2_.map AV.str)] [] (fun v H => v = .bool r ∧ H = []) := by
 unfold slices.Equal_string at h
 refine Go.Lift.Spec.of_body (rs := [.tmp 4]) func28 Z Z (nb Z) Z (xr (xa (.bool false) Z (pu_assign Z (AEv.bool _)) (xe (aw_seq (xr (xm Z Z Z (xa (.i (s1_.length : Int)) Z (pu_lenM Z underlying49 (tm Z)) ?_)))))))
 refine xm Z Z Z (xa (.i (s2_.length : Int)) Z (pu_lenM Z underlying49 (tm Z)) (xa (.bool (!decide ((s1_.length : Int) = (s2_.length : Int)))) Z (pu_int (v := .bool (!decide ((s1_.length : Int) = (s2_.length : Int)))) Z Z (tm Z) (tm Z) Z) (xe (aw_cond (b := (!decide ((s1_.length : Int) = (s2_.length : Int)))) (tm Z) (fun hb82 => ?_) (fun hb82 => ?_)))))
 ·replace h := ite_f (ndec_t hb82) h
  refine xr (xa (.bool false) Z (pu_assign Z (AEv.bool _)) (xe (aw_ret ?_)))
  obtain rfl := some_of h
  exact ⟨[.bool false], _, [], ⟨(tm Z), trivial⟩, vr, Weak.mkL [] (by decide) trivial trivial, ⟨Z, Z⟩⟩
 ·replace h := ite_t (ndec_f hb82) h
  refine aw_skip ?_
  obtain ⟨s81, s81e, h61⟩ := bind_some h
  refine aw_join (σ := Unit) (ν := Unit) (fun u v => []) (fun u v => []) (fun u => s81 = .inl u) ?_ ?_
  ·intro s60
   intro _
   rintro rfl
   have h := onSum_inl h61
   refine xr (xa (.bool true) Z (pu_assign Z (AEv.bool _)) (xe (aw_ret ?_)))
   obtain rfl := some_of h
   exact ⟨[.bool true], _, [], ⟨(tm Z), trivial⟩, vr, Weak.mkL [] (by decide) trivial trivial, ⟨Z, Z⟩⟩
  ·have h := s81e
   refine xr (xm Z Z Z (xa (.i (s1_.length : Int)) Z (pu_lenM Z underlying49 (tm Z)) (xa (.i 0) Z (pu_move Z (AEv.int _ _)) (xe (aw_block (aw_while (σ := slices.Equal_string.S0) (ν := Unit) (slices.Equal_string.body0 s1_ s2_) (fun s73 v => [(0, .sl .no 1 (s1_.map AV.str)), (1, .sl .no 1 (s2_.map AV.str)), (12, .i (s1_.length : Int)), (13, .i s73.t13)]) (fun s73 v => []) ⟨0⟩ () _ h (Weak.mkL [] (by decide) trivial ⟨tm Z, tm Z, tm Z, tm Z, trivial⟩) ?_))))))
   rintro s73 _ x75 h hx74
   unfold slices.Equal_string.body0 at h
   refine xr (xa (.bool (decide (s73.t13 < (s1_.length : Int)))) Z (pu_int (v := .bool (decide (s73.t13 < (s1_.length : Int)))) Z Z (tm Z) (tm Z) Z) (xe (aw_seq (aw_cond (b := decide (s73.t13 < (s1_.length : Int))) (tm Z) (fun hb80 => ?_) (fun hb80 => ?_)))))
   ·replace h := ite_t (dec_t hb80) h
    refine aw_skip (aw_seq (aw_block (xr (xm Z Z Z (xm Z Z Z (xe (aw_seq ?_)))))))
    obtain ⟨c77, h⟩ := need_of h
    obtain ⟨c78, h⟩ := need_of h
    refine aw_planR (by decide +kernel) [[], [], [], [], [], [], [], [], []] [] [] [.sl .no 1 (s1_.map AV.str), .i s73.t13, .vptr [.str (ix s1_ s73.t13)], .str (ix s1_ s73.t13), .sl .no 1 (s2_.map AV.str), .i s73.t13, .vptr [.str (ix s2_ s73.t13)], .str (ix s2_ s73.t13), .bool (!decide ((ix s1_ s73.t13) = (ix s2_ s73.t13)))] (by decide +kernel) Z Z ?_ ?_
    ·exact ⟨ym Z Z Z, ym Z Z Z, yp Z (pu_indexAddrM Z underlying49 sizeOf9 (tm Z) (tm Z) c77 Z), stepg_plain Z (op_loadV1 Z isAgg9 (tm Z) Z ⟨Z, Z⟩), ym Z Z Z, ym Z Z Z, yp Z (pu_indexAddrM Z underlying49 sizeOf9 (tm Z) (tm Z) c78 Z), stepg_plain Z (op_loadV1 Z isAgg9 (tm Z) Z ⟨Z, Z⟩), yp Z (pu_str (v := .bool (!decide ((ix s1_ s73.t13) = (ix s2_ s73.t13)))) Z Z (tm Z) (tm Z) Z), trivial⟩
    refine aw_cond (b := (!decide ((ix s1_ s73.t13) = (ix s2_ s73.t13)))) (tm Z) (fun hb79 => ?_) (fun hb79 => ?_)
    ·replace h := ite_f (ndec_t hb79) h
     refine xr (xa (.bool false) Z (pu_assign Z (AEv.bool _)) (xe (aw_ret ?_)))
     obtain rfl := some_of h
     have h := congrArg some (hx74 _ rfl)
     obtain rfl := some_of h
     have h := onSum_inr h61
     obtain rfl := some_of h
     exact ⟨[.bool false], _, [], ⟨(tm Z), trivial⟩, vr, Weak.mkL [] (by decide) trivial trivial, ⟨Z, Z⟩⟩
    ·replace h := ite_t (ndec_f hb79) h
     refine aw_skip (aw_region (xa (.i (IntKind.wrap .i64 (s73.t13 + 1))) Z (pu_int (v := .i (IntKind.wrap .i64 (s73.t13 + 1))) Z Z (tm Z) (AEv.int _ _) Z) (xm Z Z Z (xe ?_))))
     obtain rfl := some_of h
     exact ⟨_, (), Z, Weak.mkL [] (by decide) trivial ⟨tm Z, tm Z, tm Z, (AEv.le (tm Z) vr), trivial⟩⟩
   ·replace h := ite_f (dec_f hb80) h
    refine aw_exit ?_
    obtain rfl := some_of h
    have h := congrArg some (hx74 _ rfl)
    exact ⟨(), (), (some_of h).symm, Weak.mkL [] (by decide) trivial trivial⟩

theorem slices.EqualFunc_strings_slices_Equal_string.ok {s1_ : List (List (List UInt8))} {s2_ : List (List (List UInt8))} {r : Bool} (h : slices.EqualFunc_strings_slices_Equal_string s1_ s2_ = some r) : Go.Lift.Spec prog 27 [.sl .no 1 (s1_.map av_List_List_UInt8), .sl .no 1 (s2_.map av_List_List_UInt8), .fn 28 []] [] (fun v H => v = .bool r ∧ H = []) := by
 unfold slices.EqualFunc_strings_slices_Equal_string at h
 refine Go.Lift.Spec.of_body (rs := [.tmp 6]) func27 Z Z (nb Z) Z (xr (xa (.bool false) Z (pu_assign Z (AEv.bool _)) (xe (aw_seq (xr (xm Z Z Z (xa (.i (s1_.length : Int)) Z (pu_lenM Z underlying22 (tm Z)) ?_)))))))
 refine xm Z Z Z (xa (.i (s2_.length : Int)) Z (pu_lenM Z underlying22 (tm Z)) (xa (.bool (!decide ((s1_.length : Int) = (s2_.length : Int)))) Z (pu_int (v := .bool (!decide ((s1_.length : Int) = (s2_.length : Int)))) Z Z (tm Z) (tm Z) Z) (xe (aw_cond (b := (!decide ((s1_.length : Int) = (s2_.length : Int)))) (tm Z) (fun hb94 => ?_) (fun hb94 => ?_)))))
 ·replace h := ite_f (ndec_t hb94) h
  refine xr (xa (.bool false) Z (pu_assign Z (AEv.bool _)) (xe (aw_ret ?_)))
  obtain rfl := some_of h
  exact ⟨[.bool false], _, [], ⟨(tm Z), trivial⟩, vr, Weak.mkL [] (by decide) trivial trivial, ⟨Z, Z⟩⟩
 ·replace h := ite_t (ndec_f hb94) h
  refine aw_skip ?_
  obtain ⟨s93, s93e, h70⟩ := bind_some h
  refine aw_join (σ := Unit) (ν := Unit) (fun u v => []) (fun u v => []) (fun u => s93 = .inl u) ?_ ?_
  ·intro s69
   intro _
   rintro rfl
   have h := onSum_inl h70
   refine xr (xa (.bool true) Z (pu_assign Z (AEv.bool _)) (xe (aw_ret ?_)))
   obtain rfl := some_of h
   exact ⟨[.bool true], _, [], ⟨(tm Z), trivial⟩, vr, Weak.mkL [] (by decide) trivial trivial, ⟨Z, Z⟩⟩
  ·have h := s93e
   refine xr (xm Z Z Z (xa (.i (s1_.length : Int)) Z (pu_lenM Z underlying22 (tm Z)) (xa (.i 0) Z (pu_move Z (AEv.int _ _)) (xe (aw_block (aw_while (σ := slices.EqualFunc_strings_slices_Equal_string.S0) (ν := Unit) (slices.EqualFunc_strings_slices_Equal_string.body0 s1_ s2_) (fun s84 v => [(1, .sl .no 1 (s2_.map av_List_List_UInt8)), (2, .fn 28 []), (15, .sl .no 1 (s1_.map av_List_List_UInt8)), (16, .i (s1_.length : Int)), (17, .i s84.t17)]) (fun s84 v => []) ⟨0⟩ () _ h (Weak.mkL [] (by decide) trivial ⟨tm Z, tm Z, tm Z, tm Z, tm Z, trivial⟩) ?_))))))
   rintro s84 _ x86 h hx85
   unfold slices.EqualFunc_strings_slices_Equal_string.body0 at h
   refine xr (xa (.bool (decide (s84.t17 < (s1_.length : Int)))) Z (pu_int (v := .bool (decide (s84.t17 < (s1_.length : Int)))) Z Z (tm Z) (tm Z) Z) (xe (aw_seq (aw_cond (b := decide (s84.t17 < (s1_.length : Int))) (tm Z) (fun hb92 => ?_) (fun hb92 => ?_)))))
   ·replace h := ite_t (dec_t hb92) h
    refine aw_skip (aw_seq (aw_block (xr (xm Z Z Z ?_))))
    obtain ⟨c88, h⟩ := need_of h
    refine xa (.vptr [.sl .no 1 ((ix s1_ s84.t17).map AV.str)]) Z (pu_indexAddrM Z underlying22 sizeOf49 (tm Z) (tm Z) c88 Z) (xc Z (op_loadV1 Z isAgg49 (tm Z) Z (xm Z Z Z (xm Z Z Z (xe (xr (xm Z Z Z (xm Z Z Z ?_))))))))
    obtain ⟨c89, h⟩ := need_of h
    refine xa (.vptr [.sl .no 1 ((ix s2_ s84.t17).map AV.str)]) Z (pu_indexAddrM Z underlying22 sizeOf49 (tm Z) (tm Z) c89 Z) (xc Z (op_loadV1 Z isAgg49 (tm Z) Z (xm Z Z Z (xe (xr (xm Z Z Z (xm Z Z Z (xm Z Z Z ?_))))))))
    obtain ⟨r90, r90e, h⟩ := bind_some h
    refine xc Z (op_callV (vs := [.sl .no 1 ((ix s1_ s84.t17).map AV.str), .sl .no 1 ((ix s2_ s84.t17).map AV.str)]) (H := []) Z (tm Z) call28 ⟨(tm Z), (tm Z), trivial⟩ (List.Perm.refl _) (slices.Equal_string.ok r90e) ?_)
    rintro _ _ ⟨rfl, rfl⟩
    refine xa (.bool (!r90)) Z (pu_not Z (tm Z)) (xe (aw_cond (b := (!r90)) (tm Z) (fun hb91 => ?_) (fun hb91 => ?_)))
    ·replace h := ite_t hb91 h
     refine xr (xa (.bool false) Z (pu_assign Z (AEv.bool _)) (xe (aw_ret ?_)))
     obtain rfl := some_of h
     have h := congrArg some (hx85 _ rfl)
     obtain rfl := some_of h
     have h := onSum_inr h70
     obtain rfl := some_of h
     exact ⟨[.bool false], _, [], ⟨(tm Z), trivial⟩, vr, Weak.mkL [] (by decide) trivial trivial, ⟨Z, Z⟩⟩
    ·replace h := ite_fb hb91 h
     refine aw_skip (aw_region (xa (.i (IntKind.wrap .i64 (s84.t17 + 1))) Z (pu_int (v := .i (IntKind.wrap .i64 (s84.t17 + 1))) Z Z (tm Z) (AEv.int _ _) Z) (xm Z Z Z (xe ?_))))
     obtain rfl := some_of h
     exact ⟨_, (), Z, Weak.mkL [] (by decide) trivial ⟨tm Z, tm Z, tm Z, tm Z, (AEv.le (tm Z) vr), trivial⟩⟩
   ·replace h := ite_f (dec_f hb92) h
    refine aw_exit ?_
    obtain rfl := some_of h
    have h := congrArg some (hx85 _ rfl)
    exact ⟨(), (), (some_of h).symm, Weak.mkL [] (by decide) trivial trivial⟩

theorem unit.Same.ok {a : api.Unit} {b : api.Unit} {r : Bool} (h : unit.Same a b = some r) : Go.Lift.Spec prog 12 [.agg [.sl .no 1 (a.Cmds.map av_List_List_UInt8)], .agg [.sl .no 1 (b.Cmds.map av_List_List_UInt8)]] [] (fun v H => v = .bool r ∧ H = []) := by
 unfold unit.Same at h
 refine Go.Lift.Spec.of_body (rs := [.tmp 4]) func12 Z Z (nb Z) Z (xr (xc Z (op_box (cs := [.sl .no 1 (a.Cmds.map av_List_List_UInt8)]) (v := .agg [.sl .no 1 (a.Cmds.map av_List_List_UInt8)]) Z (tm Z) Z Z ?_)))
 intro p4
 refine xc Z (op_box (cs := [.sl .no 1 (b.Cmds.map av_List_List_UInt8)]) (v := .agg [.sl .no 1 (b.Cmds.map av_List_List_UInt8)]) Z (tm Z) Z Z ?_)
 intro p5
 refine xa (.bool false) Z (pu_assign Z (AEv.bool _)) (xe (xr (xa (.ptr p4 0) Z (fa Z underlying24 Z sizeOf22 Z Z Z) (xc Z (op_load1 (i := 1) Z isAgg22 (tm Z) Z Z (xa (.ptr p5 0) Z (fa Z underlying24 Z sizeOf22 Z Z Z) (xc Z (op_load1 (i := 0) Z isAgg22 (tm Z) Z Z ?_))))))))
 obtain ⟨r6, r6e, h⟩ := bind_some h
 refine xc Z (op_call (vs := [.sl .no 1 (a.Cmds.map av_List_List_UInt8), .sl .no 1 (b.Cmds.map av_List_List_UInt8), .fn 28 []]) (H := []) Z call27 ⟨(tm Z), (tm Z), (AEv.func _), trivial⟩ (List.Perm.refl _) (slices.EqualFunc_strings_slices_Equal_string.ok r6e) ?_)
 rintro _ _ ⟨rfl, rfl⟩
 refine xm Z Z Z (xe (aw_ret ?_))
 obtain rfl := some_of h
 exact ⟨[.bool r6], _, [], ⟨(tm Z), trivial⟩, vr, Weak.mkL [] (by decide) trivial trivial, ⟨Z, Z⟩⟩

theorem mewslaw15.alive.ok  {r : Bool} (h : mewslaw15.alive = some r) : Go.Lift.Spec prog 9 [] [] (fun v H => v = .bool r ∧ H = []) := by
 unfold mewslaw15.alive at h
 refine Go.Lift.Spec.of_body (rs := [.tmp 0]) func9 Z Z (nb Z) Z (xr (xa (.bool false) Z (pu_assign Z (AEv.bool _)) (xe (xr (xc Z (op_buildSlice (xs := ([[80, 73, 78, 71]] : List (List UInt8)).map AV.str) (aparts := [(0, .str [80, 73, 78, 71])]) Z underlying49 sizeOf9 zeroValue9 (by decide) (by decide) ⟨Z, (AEv.const Z), trivial⟩ Z Z Z (xc Z (op_buildSlice (xs := ([[[80, 73, 78, 71]]] : List (List (List UInt8))).map av_List_List_UInt8) (aparts := [(0, .sl .no 1 ([[80, 73, 78, 71]].map AV.str))]) Z underlying22 sizeOf49 zeroValue49 (by decide) (by decide) ⟨Z, (AEv.le (tm Z) (AV.Le.forget _ _ _)), trivial⟩ Z Z Z (xa (.agg [.sl .full 1 ([[[80, 73, 78, 71]]].map av_List_List_UInt8)]) Z (pu_build (zs := [.sl .full 1 (([] : List (List (List UInt8))).map av_List_List_UInt8)]) (szs := [1]) (aparts := [(0, .sl .full 1 ([[[80, 73, 78, 71]]].map av_List_List_UInt8))]) (cs := [.sl .full 1 ([[[80, 73, 78, 71]]].map av_List_List_UInt8)]) Z underlying24 zeroValue24 Z ⟨sizeOf22, trivial⟩ ⟨Z, (tm Z), trivial⟩ Z) ?_)))))))))
 refine xc Z (op_alloc (cs := [.sl .full 1 (([] : List (List (List UInt8))).map av_List_List_UInt8)]) (v := .agg [.sl .full 1 (([] : List (List (List UInt8))).map av_List_List_UInt8)]) Z zeroValue24 Z Z Z ?_)
 intro p27
 refine ac0 Z Z (op_store (i := 0) (cs' := [.sl .full 1 ([[[80, 73, 78, 71]]].map av_List_List_UInt8)]) Z sizeOf24 (tm Z) (v := .agg [.sl .full 1 ([[[80, 73, 78, 71]]].map av_List_List_UInt8)]) (tm Z) Z Z Z (nb Z) Z (xe (xr (xc Z (op_loadN (i := 0) Z isAgg24 sizeOf24 (tm Z) Z (nb Z) Z ?_)))))
 obtain ⟨r28, r28e, h⟩ := bind_some h
 refine xc Z (op_call (vs := [.agg [.sl .no 1 ([[[80, 73, 78, 71]]].map av_List_List_UInt8)]]) (H := []) Z call10 ⟨(AEv.le (tm Z) (AV.Le.agg ⟨(AV.Le.forget _ _ _), trivial⟩)), trivial⟩ (List.Perm.refl _) (unit.Put.ok r28e) ?_)
 rintro _ _ ⟨rfl, rfl⟩
 refine xm Z Z Z (xa (.str r28.1) Z (pu_extract Z (tm Z) (nb Z) Z) (xa (.i r28.2) Z (pu_extract Z (tm Z) (nb Z) Z) (xm Z Z Z (xm Z Z Z (xe (xr (xm Z Z Z ?_)))))))
 obtain ⟨c29, h⟩ := need_of h
 refine xa (.str (r28.1 ++ [120])) Z (pu_strAdd Z (tm Z) (AEv.const Z) c29) ?_
 obtain ⟨r30, r30e, h⟩ := bind_some h
 refine xc Z (op_call (vs := [.str (r28.1 ++ [120])]) (H := []) Z call14 ⟨(tm Z), trivial⟩ (List.Perm.refl _) (unit.Take.ok r30e) ?_)
 rintro _ _ ⟨rfl, rfl⟩
 refine xm Z Z Z (xa (.agg [.sl .no 1 (r30.1.Cmds.map av_List_List_UInt8)]) Z (pu_extract Z (tm Z) (nb Z) Z) (xa (.i r30.2.1) Z (pu_extract Z (tm Z) (nb Z) Z) (xa (.i r30.2.2) Z (pu_extract Z (tm Z) (nb Z) Z) (xc Z (op_alloc (cs := [.sl .full 1 (([] : List (List (List UInt8))).map av_List_List_UInt8)]) (v := .agg [.sl .full 1 (([] : List (List (List UInt8))).map av_List_List_UInt8)]) Z zeroValue24 Z Z Z ?_)))))
 intro p31
 refine ac0 Z Z (op_store (i := 0) (cs' := [.sl .no 1 (r30.1.Cmds.map av_List_List_UInt8)]) Z sizeOf24 (tm Z) (v := .agg [.sl .no 1 (r30.1.Cmds.map av_List_List_UInt8)]) (tm Z) Z Z Z (nb Z) Z (xm Z Z Z (xm Z Z Z (xe (xr (xm Z Z Z (xm Z Z Z ?_)))))))
 obtain ⟨c32, h⟩ := need_of h
 refine xa (.str (r28.1 ++ r28.1)) Z (pu_strAdd Z (tm Z) (tm Z) c32) ?_
 obtain ⟨c33, h⟩ := need_of h
 refine xa (.str ((r28.1 ++ r28.1) ++ [120])) Z (pu_strAdd Z (tm Z) (AEv.const Z) c33) ?_
 obtain ⟨r34, r34e, h⟩ := bind_some h
 refine xc Z (op_call (vs := [.str ((r28.1 ++ r28.1) ++ [120])]) (H := []) Z call16 ⟨(tm Z), trivial⟩ (List.Perm.refl _) (unit.All.ok r34e) ?_)
 rintro _ _ ⟨t35, rfl, rfl⟩
 refine xm Z Z Z (xa (.sl (.own t35) 1 (r34.1.map api.Unit.av)) Z (pu_extract Z (tm Z) (nb Z) Z) (xa (.i r34.2) Z (pu_extract Z (tm Z) (nb Z) Z) (xm Z Z Z (xm Z Z Z (xe ?_)))))
 obtain ⟨s43, s43e, h44⟩ := bind_some h
 refine aw_meet (ν := Unit) (fun v => [(0, .bool s43)]) (fun v => []) ?_ ?_
 ·have h := s43e
  refine aw_region (xm Z Z Z (xa (.i (r28.1.length : Int)) Z (pu_strLen Z underlying9 (tm Z)) (xa (.bool (decide ((r28.1.length : Int) = 23))) Z (pu_int (v := .bool (decide ((r28.1.length : Int) = 23))) Z Z (tm Z) (AEv.int _ _) Z) (xm Z Z Z ?_))))
  rcases Bool.eq_false_or_eq_true (decide ((r28.1.length : Int) = 23)) with hb46 | hb46
  ·replace h := ite_t (dec_t hb46) h
   refine aops_known 35 Z hb46 (xq Z Z Z Z (xp (.bool (decide (r28.2 = 0))) Z Z (pu_int (v := .bool (decide (r28.2 = 0))) Z Z (tm Z) (AEv.int _ _) Z) (xa (.bool (decide (r28.2 = 0))) Z (pu_pick (b := true) Z (tm Z) (fun _ => (tm Z)) (fun h => nomatch h)) (xm Z Z Z ?_))))
   rcases Bool.eq_false_or_eq_true (decide (r28.2 = 0)) with hb47 | hb47
   ·replace h := ite_t (dec_t hb47) h
    refine aops_known 39 Z hb47 (xq Z Z Z Z (xp (.bool (decide (r30.2.2 = 0))) Z Z (pu_int (v := .bool (decide (r30.2.2 = 0))) Z Z (tm Z) (AEv.int _ _) Z) (xa (.bool (decide (r30.2.2 = 0))) Z (pu_pick (b := true) Z (tm Z) (fun _ => (tm Z)) (fun h => nomatch h)) (xm Z Z Z ?_))))
    rcases Bool.eq_false_or_eq_true (decide (r30.2.2 = 0)) with hb48 | hb48
    ·replace h := ite_t (dec_t hb48) h
     refine aops_known 43 Z hb48 (xq Z Z Z Z (xp (.bool (decide (r30.2.1 = 23))) Z Z (pu_int (v := .bool (decide (r30.2.1 = 23))) Z Z (tm Z) (AEv.int _ _) Z) (xa (.bool (decide (r30.2.1 = 23))) Z (pu_pick (b := true) Z (tm Z) (fun _ => (tm Z)) (fun h => nomatch h)) (xm Z Z Z ?_))))
     rcases Bool.eq_false_or_eq_true (decide (r30.2.1 = 23)) with hb49 | hb49
     ·replace h := ite_t (dec_t hb49) h
      refine aops_known 47 Z hb49 (xg Z Z (op_loadN (i := 2) Z isAgg24 sizeOf24 (tm Z) Z (nb Z) Z (xg Z Z (op_loadN (i := 1) Z isAgg24 sizeOf24 (tm Z) Z (nb Z) Z ?_))))
      obtain ⟨r50, r50e, h⟩ := bind_some h
      refine xg Z Z (op_call (vs := [.agg [.sl .no 1 ([[[80, 73, 78, 71]]].map av_List_List_UInt8)], .agg [.sl .no 1 (r30.1.Cmds.map av_List_List_UInt8)]]) (H := []) Z call12 ⟨(AEv.le (tm Z) (AV.Le.agg ⟨(AV.Le.forget _ _ _), trivial⟩)), (tm Z), trivial⟩ (List.Perm.refl _) (unit.Same.ok r50e) ?_)
      rintro _ _ ⟨rfl, rfl⟩
      refine xa (.bool r50) Z (pu_pick (b := true) Z (tm Z) (fun _ => (tm Z)) (fun h => nomatch h)) (xm Z Z Z ?_)
      rcases Bool.eq_false_or_eq_true r50 with hb51 | hb51
      ·replace h := ite_t hb51 h
       refine aops_known 52 Z hb51 (xq Z Z Z Z (xp (.i (r34.1.length : Int)) Z Z (pu_lenM Z underlying37 (tm Z)) (xp (.bool (decide ((r34.1.length : Int) = 2))) Z Z (pu_int (v := .bool (decide ((r34.1.length : Int) = 2))) Z Z (tm Z) (AEv.int _ _) Z) (xa (.bool (decide ((r34.1.length : Int) = 2))) Z (pu_pick (b := true) Z (tm Z) (fun _ => (tm Z)) (fun h => nomatch h)) (xm Z Z Z ?_)))))
       rcases Bool.eq_false_or_eq_true (decide ((r34.1.length : Int) = 2)) with hb52 | hb52
       ·replace h := ite_t (dec_t hb52) h
        refine aops_known 57 Z hb52 (xq Z Z Z Z (xp (.bool (decide (r34.2 = 46))) Z Z (pu_int (v := .bool (decide (r34.2 = 46))) Z Z (tm Z) (AEv.int _ _) Z) (xa (.bool (decide (r34.2 = 46))) Z (pu_pick (b := true) Z (tm Z) (fun _ => (tm Z)) (fun h => nomatch h)) (xm Z Z Z (xe ?_)))))
        obtain rfl := some_of h
        exact ⟨(), Weak.mkL [] (by decide) trivial ⟨(AEv.le (tm Z) vr), trivial⟩⟩
       ·replace h := ite_f (dec_f hb52) h
        refine aops_known 57 Z hb52 (xn Z Z Z (xn Z Z Z (xa (.bool false) Z (pu_pick (b := false) Z (tm Z) (fun h => nomatch h) (fun _ => (AEv.bool _))) (xm Z Z Z (xe ?_)))))
        obtain rfl := some_of h
        exact ⟨(), Weak.mkL [] (by decide) trivial ⟨tm Z, trivial⟩⟩
      ·replace h := ite_fb hb51 h
       refine aops_known 52 Z hb51 (xn Z Z Z (xn Z Z Z (xn Z Z Z (xa (.bool false) Z (pu_pick (b := false) Z (tm Z) (fun h => nomatch h) (fun _ => (AEv.bool _))) (xm Z Z Z (xn Z Z Z (xn Z Z Z (xa (.bool false) Z (pu_pick (b := false) Z (tm Z) (fun h => nomatch h) (fun _ => (AEv.bool _))) (xm Z Z Z ?_)))))))))
       refine xe ?_
       obtain rfl := some_of h
       exact ⟨(), Weak.mkL [] (by decide) trivial ⟨tm Z, trivial⟩⟩
     ·replace h := ite_f (dec_f hb49) h
      refine aops_known 47 Z hb49 (xn Z Z Z (xn Z Z Z (xn Z Z Z (xa (.bool false) Z (pu_pick (b := false) Z (tm Z) (fun h => nomatch h) (fun _ => (AEv.bool _))) (xm Z Z Z (xn Z Z Z (xn Z Z Z (xn Z Z Z (xa (.bool false) Z (pu_pick (b := false) Z (tm Z) (fun h => nomatch h) (fun _ => (AEv.bool _))) ?_)))))))))
      refine xm Z Z Z (xn Z Z Z (xn Z Z Z (xa (.bool false) Z (pu_pick (b := false) Z (tm Z) (fun h => nomatch h) (fun _ => (AEv.bool _))) (xm Z Z Z (xe ?_)))))
      obtain rfl := some_of h
      exact ⟨(), Weak.mkL [] (by decide) trivial ⟨tm Z, trivial⟩⟩
    ·replace h := ite_f (dec_f hb48) h
     refine aops_known 43 Z hb48 (xn Z Z Z (xn Z Z Z (xa (.bool false) Z (pu_pick (b := false) Z (tm Z) (fun h => nomatch h) (fun _ => (AEv.bool _))) (xm Z Z Z (xn Z Z Z (xn Z Z Z (xn Z Z Z (xa (.bool false) Z (pu_pick (b := false) Z (tm Z) (fun h => nomatch h) (fun _ => (AEv.bool _))) (xm Z Z Z ?_)))))))))
     refine xn Z Z Z (xn Z Z Z (xn Z Z Z (xa (.bool false) Z (pu_pick (b := false) Z (tm Z) (fun h => nomatch h) (fun _ => (AEv.bool _))) (xm Z Z Z (xn Z Z Z (xn Z Z Z (xa (.bool false) Z (pu_pick (b := false) Z (tm Z) (fun h => nomatch h) (fun _ => (AEv.bool _))) (xm Z Z Z (xe ?_)))))))))
     obtain rfl := some_of h
     exact ⟨(), Weak.mkL [] (by decide) trivial ⟨tm Z, trivial⟩⟩
   ·replace h := ite_f (dec_f hb47) h
    refine aops_known 39 Z hb47 (xn Z Z Z (xn Z Z Z (xa (.bool false) Z (pu_pick (b := false) Z (tm Z) (fun h => nomatch h) (fun _ => (AEv.bool _))) (xm Z Z Z (xn Z Z Z (xn Z Z Z (xa (.bool false) Z (pu_pick (b := false) Z (tm Z) (fun h => nomatch h) (fun _ => (AEv.bool _))) (xm Z Z Z (xn Z Z Z ?_)))))))))
    refine xn Z Z Z (xn Z Z Z (xa (.bool false) Z (pu_pick (b := false) Z (tm Z) (fun h => nomatch h) (fun _ => (AEv.bool _))) (xm Z Z Z (xn Z Z Z (xn Z Z Z (xn Z Z Z (xa (.bool false) Z (pu_pick (b := false) Z (tm Z) (fun h => nomatch h) (fun _ => (AEv.bool _))) (xm Z Z Z (xn Z Z Z ?_)))))))))
    refine xn Z Z Z (xa (.bool false) Z (pu_pick (b := false) Z (tm Z) (fun h => nomatch h) (fun _ => (AEv.bool _))) (xm Z Z Z (xe ?_)))
    obtain rfl := some_of h
    exact ⟨(), Weak.mkL [] (by decide) trivial ⟨tm Z, trivial⟩⟩
  ·replace h := ite_f (dec_f hb46) h
   refine aops_known 35 Z hb46 (xn Z Z Z (xn Z Z Z (xa (.bool false) Z (pu_pick (b := false) Z (tm Z) (fun h => nomatch h) (fun _ => (AEv.bool _))) (xm Z Z Z (xn Z Z Z (xn Z Z Z (xa (.bool false) Z (pu_pick (b := false) Z (tm Z) (fun h => nomatch h) (fun _ => (AEv.bool _))) (xm Z Z Z (xn Z Z Z ?_)))))))))
   refine xn Z Z Z (xa (.bool false) Z (pu_pick (b := false) Z (tm Z) (fun h => nomatch h) (fun _ => (AEv.bool _))) (xm Z Z Z (xn Z Z Z (xn Z Z Z (xn Z Z Z (xa (.bool false) Z (pu_pick (b := false) Z (tm Z) (fun h => nomatch h) (fun _ => (AEv.bool _))) (xm Z Z Z (xn Z Z Z (xn Z Z Z ?_)))))))))
   refine xn Z Z Z (xa (.bool false) Z (pu_pick (b := false) Z (tm Z) (fun h => nomatch h) (fun _ => (AEv.bool _))) (xm Z Z Z (xn Z Z Z (xn Z Z Z (xa (.bool false) Z (pu_pick (b := false) Z (tm Z) (fun h => nomatch h) (fun _ => (AEv.bool _))) (xm Z Z Z (xe ?_)))))))
   obtain rfl := some_of h
   exact ⟨(), Weak.mkL [] (by decide) trivial ⟨tm Z, trivial⟩⟩
 ·intro _
  have h := h44
  refine aw_ret ?_
  obtain rfl := some_of h
  exact ⟨[.bool s43], _, [], ⟨(tm Z), trivial⟩, vr, Weak.mkL [] (by decide) trivial trivial, ⟨Z, Z⟩⟩

theorem mewsref15.May.ok {u_ : api.Unit} {r : Bool} (h : mewsref15.May u_ = some r) : Go.Lift.Spec prog 24 [.agg [.sl .no 1 (u_.Cmds.map av_List_List_UInt8)]] [] (fun v H => v = .bool r ∧ H = []) := by
 unfold mewsref15.May at h
 refine Go.Lift.Spec.of_body (rs := [.tmp 2]) func24 Z Z (nb Z) Z (xr (xc Z (op_box (cs := [.sl .no 1 (u_.Cmds.map av_List_List_UInt8)]) (v := .agg [.sl .no 1 (u_.Cmds.map av_List_List_UInt8)]) Z (tm Z) Z Z ?_)))
 intro p318
 refine xa (.bool false) Z (pu_assign Z (AEv.bool _)) (xe (aw_seq ?_))
 obtain ⟨s320, s320e, h321⟩ := letO_of h
 refine aw_meet (ν := Unit) (fun v => [(1, .ptr p318 0), (15, .bool s320)]) (fun v => [(p318, .cells [.sl .no 1 (u_.Cmds.map av_List_List_UInt8)])]) ?_ ?_
 ·have h := s320e.symm
  refine aw_region (xa (.ptr p318 0) Z (fa Z underlying24 Z sizeOf22 Z Z Z) (xc Z (op_load1 (i := 0) Z isAgg22 (tm Z) Z Z (xa (.i (u_.Cmds.length : Int)) Z (pu_lenM Z underlying22 (tm Z)) (xa (.bool (decide ((u_.Cmds.length : Int) < 1))) Z (pu_int (v := .bool (decide ((u_.Cmds.length : Int) < 1))) Z Z (tm Z) (AEv.int _ _) Z) (xm Z Z Z ?_))))))
  rcases Bool.eq_false_or_eq_true (decide ((u_.Cmds.length : Int) < 1)) with hb323 | hb323
  ·replace h := ite_t (dec_t hb323) h
   refine aops_known 10 Z hb323 (xn Z Z Z (xn Z Z Z (xn Z Z Z (xn Z Z Z (xa (.bool true) Z (pu_pick (b := true) Z (tm Z) (fun _ => (AEv.bool _)) (fun h => nomatch h)) (xe ?_))))))
   subst h
   exact ⟨(), Weak.mkL [0] (by decide) ⟨⟨_, Z, ⟨vr, trivial⟩, Z⟩, trivial⟩ ⟨tm Z, tm Z, trivial⟩⟩
  ·replace h := ite_f (dec_f hb323) h
   refine aops_known 10 Z hb323 (xp (.ptr p318 0) Z Z (fa Z underlying24 Z sizeOf22 Z Z Z) (xg Z Z (op_load1 (i := 0) Z isAgg22 (tm Z) Z Z (xp (.i (u_.Cmds.length : Int)) Z Z (pu_lenM Z underlying22 (tm Z)) (xp (.bool (decide (4096 < (u_.Cmds.length : Int)))) Z Z (pu_int (v := .bool (decide (4096 < (u_.Cmds.length : Int)))) Z Z (tm Z) (AEv.int _ _) Z) (xa (.bool (decide (4096 < (u_.Cmds.length : Int)))) Z (pu_pick (b := false) Z (tm Z) (fun h => nomatch h) (fun _ => (tm Z))) (xe ?_)))))))
   subst h
   exact ⟨(), Weak.mkL [0] (by decide) ⟨⟨_, Z, ⟨vr, trivial⟩, Z⟩, trivial⟩ ⟨tm Z, (AEv.le (tm Z) vr), trivial⟩⟩
 ·intro _
  have h := h321
  refine aw_cond (b := s320) (tm Z) (fun hb634 => ?_) (fun hb634 => ?_)
  ·replace h := ite_t hb634 h
   refine xr (xa (.bool false) Z (pu_assign Z (AEv.bool _)) (xe (aw_ret ?_)))
   obtain rfl := some_of h
   exact ⟨[.bool false], _, [], ⟨(tm Z), trivial⟩, vr, Weak.mkL [] (by decide) trivial trivial, ⟨Z, Z⟩⟩
  ·replace h := ite_fb hb634 h
   refine aw_skip ?_
   obtain ⟨s633, s633e, h478⟩ := bind_some h
   refine aw_join (σ := Unit) (ν := Unit) (fun u v => []) (fun u v => []) (fun u => s633 = .inl u) ?_ ?_
   ·intro s477
    intro _
    rintro rfl
    have h := onSum_inl h478
    refine xr (xa (.bool true) Z (pu_assign Z (AEv.bool _)) (xe (aw_ret ?_)))
    obtain rfl := some_of h
    exact ⟨[.bool true], _, [], ⟨(tm Z), trivial⟩, vr, Weak.mkL [] (by decide) trivial trivial, ⟨Z, Z⟩⟩
   ·have h := s633e
    refine xr (xa (.i 0) Z (pu_assign Z (AEv.int _ _)) (xe (aw_block (aw_while (σ := mewsref15.May.S0) (ν := Unit) (mewsref15.May.body0 u_) (fun s580 v => [(1, .ptr p318 0), (3, .i s580.i)]) (fun s580 v => [(p318, .cells [.sl .no 1 (u_.Cmds.map av_List_List_UInt8)])]) ⟨0⟩ () _ h (Weak.mkL [0] (by decide) ⟨⟨_, Z, ⟨vr, trivial⟩, Z⟩, trivial⟩ ⟨tm Z, tm Z, trivial⟩) ?_))))
    rintro s580 _ x582 h hx581
    unfold mewsref15.May.body0 at h
    refine aw_seq (xr (xm Z Z Z (xa (.ptr p318 0) Z (fa Z underlying24 Z sizeOf22 Z Z Z) (xc Z (op_load1 (i := 0) Z isAgg22 (tm Z) Z Z (xa (.i (u_.Cmds.length : Int)) Z (pu_lenM Z underlying22 (tm Z)) (xa (.bool (decide (s580.i < (u_.Cmds.length : Int)))) Z (pu_int (v := .bool (decide (s580.i < (u_.Cmds.length : Int)))) Z Z (tm Z) (tm Z) Z) (xe (aw_cond (b := decide (s580.i < (u_.Cmds.length : Int))) (tm Z) (fun hb632 => ?_) (fun hb632 => ?_))))))))))
    ·replace h := ite_t (dec_t hb632) h
     refine aw_skip ?_
     obtain ⟨s631, s631e, h607⟩ := bind_some h
     refine aw_join (σ := Unit) (ν := Unit) (fun u v => [(1, .ptr p318 0), (3, .i s580.i)]) (fun u v => [(p318, .cells [.sl .no 1 (u_.Cmds.map av_List_List_UInt8)])]) (fun u => s631 = .inl u) ?_ ?_
     ·intro s606
      intro _
      rintro rfl
      have h := onSum_inl h607
      refine aw_region (xm Z Z Z (xa (.i (IntKind.wrap .i64 (s580.i + 1))) Z (pu_int (v := .i (IntKind.wrap .i64 (s580.i + 1))) Z Z (tm Z) (AEv.int _ _) Z) (xm Z Z Z (xe ?_))))
      obtain rfl := some_of h
      exact ⟨_, (), Z, Weak.mkL [0] (by decide) ⟨⟨_, Z, ⟨vr, trivial⟩, Z⟩, trivial⟩ ⟨tm Z, (AEv.le (tm Z) vr), trivial⟩⟩
     ·have h := s631e
      refine aw_block (xr (xa (.ptr p318 0) Z (fa Z underlying24 Z sizeOf22 Z Z Z) (xc Z (op_load1 (i := 0) Z isAgg22 (tm Z) Z Z (xm Z Z Z ?_)))))
      obtain ⟨c609, h⟩ := need_of h
      refine xa (.vptr [.sl .no 1 ((ix u_.Cmds s580.i).map AV.str)]) Z (pu_indexAddrM Z underlying22 sizeOf49 (tm Z) (tm Z) c609 Z) (xc Z (op_loadV1 Z isAgg49 (tm Z) Z (xm Z Z Z (xe (aw_seq ?_)))))
      obtain ⟨s611, s611e, h612⟩ := letO_of h
      refine aw_meet (ν := Unit) (fun v => [(1, .ptr p318 0), (3, .i s580.i), (4, .sl .no 1 ((ix u_.Cmds s580.i).map AV.str)), (35, .bool s611)]) (fun v => [(p318, .cells [.sl .no 1 (u_.Cmds.map av_List_List_UInt8)])]) ?_ ?_
      ·have h := s611e.symm
       refine aw_region (xm Z Z Z (xa (.i ((ix u_.Cmds s580.i).length : Int)) Z (pu_lenM Z underlying49 (tm Z)) (xa (.bool (decide (((ix u_.Cmds s580.i).length : Int) < 1))) Z (pu_int (v := .bool (decide (((ix u_.Cmds s580.i).length : Int) < 1))) Z Z (tm Z) (AEv.int _ _) Z) (xm Z Z Z ?_))))
       rcases Bool.eq_false_or_eq_true (decide (((ix u_.Cmds s580.i).length : Int) < 1)) with hb614 | hb614
       ·replace h := ite_t (dec_t hb614) h
        refine aops_known 31 Z hb614 (xn Z Z Z (xn Z Z Z (xn Z Z Z (xa (.bool true) Z (pu_pick (b := true) Z (tm Z) (fun _ => (AEv.bool _)) (fun h => nomatch h)) (xe ?_)))))
        subst h
        exact ⟨(), Weak.mkL [0] (by decide) ⟨⟨_, Z, ⟨vr, trivial⟩, Z⟩, trivial⟩ ⟨tm Z, tm Z, tm Z, tm Z, trivial⟩⟩
       ·replace h := ite_f (dec_f hb614) h
        refine aops_known 31 Z hb614 (xq Z Z Z Z (xp (.i ((ix u_.Cmds s580.i).length : Int)) Z Z (pu_lenM Z underlying49 (tm Z)) (xp (.bool (decide (65536 < ((ix u_.Cmds s580.i).length : Int)))) Z Z (pu_int (v := .bool (decide (65536 < ((ix u_.Cmds s580.i).length : Int)))) Z Z (tm Z) (AEv.int _ _) Z) (xa (.bool (decide (65536 < ((ix u_.Cmds s580.i).length : Int)))) Z (pu_pick (b := false) Z (tm Z) (fun h => nomatch h) (fun _ => (tm Z))) (xe ?_)))))
        subst h
        exact ⟨(), Weak.mkL [0] (by decide) ⟨⟨_, Z, ⟨vr, trivial⟩, Z⟩, trivial⟩ ⟨tm Z, tm Z, tm Z, (AEv.le (tm Z) vr), trivial⟩⟩
      ·intro _
       have h := h612
       refine aw_cond (b := s611) (tm Z) (fun hb630 => ?_) (fun hb630 => ?_)
       ·replace h := ite_t hb630 h
        refine xr (xa (.bool false) Z (pu_assign Z (AEv.bool _)) (xe (aw_ret ?_)))
        obtain rfl := some_of h
        have h := onSum_inr h607
        obtain rfl := some_of h
        have h := congrArg some (hx581 _ rfl)
        obtain rfl := some_of h
        have h := onSum_inr h478
        obtain rfl := some_of h
        exact ⟨[.bool false], _, [], ⟨(tm Z), trivial⟩, vr, Weak.mkL [] (by decide) trivial trivial, ⟨Z, Z⟩⟩
       ·replace h := ite_fb hb630 h
        refine aw_skip (xr (xa (.i 0) Z (pu_assign Z (AEv.int _ _)) (xe (aw_block (aw_while (σ := mewsref15.May.S2) (ν := Unit) (mewsref15.May.body2 u_ s580) (fun s623 v => [(1, .ptr p318 0), (3, .i s580.i), (4, .sl .no 1 ((ix u_.Cmds s580.i).map AV.str)), (5, .i s623.k)]) (fun s623 v => [(p318, .cells [.sl .no 1 (u_.Cmds.map av_List_List_UInt8)])]) ⟨0⟩ () _ h (Weak.mkL [0] (by decide) ⟨⟨_, Z, ⟨vr, trivial⟩, Z⟩, trivial⟩ ⟨tm Z, tm Z, tm Z, tm Z, trivial⟩) ?_)))))
        rintro s623 _ x625 h hx624
        unfold mewsref15.May.body2 at h
        refine aw_seq (xr (xm Z Z Z (xm Z Z Z (xa (.i ((ix u_.Cmds s580.i).length : Int)) Z (pu_lenM Z underlying49 (tm Z)) (xa (.bool (decide (s623.k < ((ix u_.Cmds s580.i).length : Int)))) Z (pu_int (v := .bool (decide (s623.k < ((ix u_.Cmds s580.i).length : Int)))) Z Z (tm Z) (tm Z) Z) (xe (aw_cond (b := decide (s623.k < ((ix u_.Cmds s580.i).length : Int))) (tm Z) (fun hb629 => ?_) (fun hb629 => ?_))))))))
        ·replace h := ite_t (dec_t hb629) h
         refine aw_skip (aw_seq (aw_block (xr (xm Z Z Z (xm Z Z Z ?_)))))
         obtain ⟨c627, h⟩ := need_of h
         refine xa (.vptr [.str (ix (ix u_.Cmds s580.i) s623.k)]) Z (pu_indexAddrM Z underlying49 sizeOf9 (tm Z) (tm Z) c627 Z) (xc Z (op_loadV1 Z isAgg9 (tm Z) Z (xa (.i ((ix (ix u_.Cmds s580.i) s623.k).length : Int)) Z (pu_strLen Z underlying9 (tm Z)) (xa (.bool (decide (1048576 < ((ix (ix u_.Cmds s580.i) s623.k).length : Int)))) Z (pu_int (v := .bool (decide (1048576 < ((ix (ix u_.Cmds s580.i) s623.k).length : Int)))) Z Z (tm Z) (AEv.int _ _) Z) (xe (aw_cond (b := decide (1048576 < ((ix (ix u_.Cmds s580.i) s623.k).length : Int))) (tm Z) (fun hb628 => ?_) (fun hb628 => ?_)))))))
         ·replace h := ite_t (dec_t hb628) h
          refine xr (xa (.bool false) Z (pu_assign Z (AEv.bool _)) (xe (aw_ret ?_)))
          obtain rfl := some_of h
          have h := congrArg some (hx624 _ rfl)
          obtain rfl := some_of h
          have h := onSum_inr h607
          obtain rfl := some_of h
          have h := congrArg some (hx581 _ rfl)
          obtain rfl := some_of h
          have h := onSum_inr h478
          obtain rfl := some_of h
          exact ⟨[.bool false], _, [], ⟨(tm Z), trivial⟩, vr, Weak.mkL [] (by decide) trivial trivial, ⟨Z, Z⟩⟩
         ·replace h := ite_f (dec_f hb628) h
          refine aw_skip (aw_region (xm Z Z Z (xa (.i (IntKind.wrap .i64 (s623.k + 1))) Z (pu_int (v := .i (IntKind.wrap .i64 (s623.k + 1))) Z Z (tm Z) (AEv.int _ _) Z) (xm Z Z Z (xe ?_)))))
          obtain rfl := some_of h
          exact ⟨_, (), Z, Weak.mkL [0] (by decide) ⟨⟨_, Z, ⟨vr, trivial⟩, Z⟩, trivial⟩ ⟨tm Z, tm Z, tm Z, (AEv.le (tm Z) vr), trivial⟩⟩
        ·replace h := ite_f (dec_f hb629) h
         refine aw_exit ?_
         obtain rfl := some_of h
         have h := congrArg some (hx624 _ rfl)
         exact ⟨(), (), (some_of h).symm, Weak.mkL [0] (by decide) ⟨⟨_, Z, ⟨vr, trivial⟩, Z⟩, trivial⟩ ⟨tm Z, tm Z, trivial⟩⟩
    ·replace h := ite_f (dec_f hb632) h
     refine aw_exit ?_
     obtain rfl := some_of h
     have h := congrArg some (hx581 _ rfl)
     exact ⟨(), (), (some_of h).symm, Weak.mkL [] (by decide) trivial trivial⟩

theorem mewsref01.digits.rec.ok (kk : Nat) : ∀ {n_ : Int} {r : List UInt8} (h : mewsref01.digits.rec kk n_ = some r), Go.Lift.Spec prog 65 [.i n_] [] (fun v H => v = .str r ∧ H = []) := by
 induction kk with
 | zero => intro n_ r h; exact nomatch h
 | succ kk ih =>
  intro n_ r h
  rw [mewsref01.digits.rec.eq_2] at h
  refine Go.Lift.Spec.of_body (rs := [.tmp 2]) func65 Z Z (nb Z) Z (xr (xa (.str ([] : List UInt8)) Z (pu_assign Z (AEv.const Z)) (xe (xr (xa (.str [48, 49, 50, 51, 52, 53, 54, 55, 56, 57]) Z (pu_assign Z (AEv.const Z)) (xe (aw_seq ?_)))))))
  refine aw_region (xm Z Z Z (xa (.i (n_.tmod 10)) Z (pu_rem Z (tm Z) (AEv.int _ _) (by decide)) (xa (.i (IntKind.wrap .i64 (0 - (n_.tmod 10)))) Z (pu_neg Z (tm Z)) (xm Z Z Z (xe (aw_seq (xr (xm Z Z Z ?_))))))))
  refine xa (.bool (decide ((-10) < n_))) Z (pu_int (v := .bool (decide ((-10) < n_))) Z Z (tm Z) (AEv.int _ _) Z) (xe (aw_cond (b := decide ((-10) < n_)) (tm Z) (fun hb14 => ?_) (fun hb14 => ?_)))
  ·replace h := ite_t (dec_t hb14) h
   refine xr (xm Z Z Z (xm Z Z Z (xm Z Z Z (xa (.i (IntKind.wrap .i64 ((IntKind.wrap .i64 (0 - (n_.tmod 10))) + 1))) Z (pu_int (v := .i (IntKind.wrap .i64 ((IntKind.wrap .i64 (0 - (n_.tmod 10))) + 1))) Z Z (tm Z) (AEv.int _ _) Z) ?_))))
   obtain ⟨c8, h⟩ := need_of h
   obtain ⟨x9, x9e, h⟩ := letO_of h
   refine xa (.str x9) Z (APure.eq (pu_strSliceM Z underlying9 (tm Z) ⟨_, (tm Z)⟩ ⟨_, (tm Z)⟩ c8) (congrArg (AV.str) x9e.symm)) (xm Z Z Z (xe (aw_ret ?_)))
   obtain rfl := some_of h
   exact ⟨[.str x9], _, [], ⟨(tm Z), trivial⟩, vr, Weak.mkL [] (by decide) trivial trivial, ⟨Z, Z⟩⟩
  ·replace h := ite_f (dec_f hb14) h
   refine aw_skip (aw_seq ?_)
   obtain ⟨r10, r10e, h⟩ := bind_some h
   obtain ⟨c11, h⟩ := need_of h
   obtain ⟨x12, x12e, h⟩ := letO_of h
   obtain ⟨c13, h⟩ := need_of h
   refine aw_planR (by decide +kernel) [[], [], [], [], [], [], [], [], [], []] [] [] [.i n_, .i (IntKind.wrap .i64 (n_.tdiv 10)), .str r10, .str [48, 49, 50, 51, 52, 53, 54, 55, 56, 57], .i (IntKind.wrap .i64 (0 - (n_.tmod 10))), .i (IntKind.wrap .i64 (0 - (n_.tmod 10))), .i (IntKind.wrap .i64 ((IntKind.wrap .i64 (0 - (n_.tmod 10))) + 1)), .str x12, .str (r10 ++ x12), .str (r10 ++ x12)] (by decide +kernel) Z Z ?_ ?_
   ·exact ⟨ym Z Z Z, yp Z (pu_quo Z (tm Z) (AEv.int _ _) (by decide)), stepg_plain Z (op_call (vs := [.i (IntKind.wrap .i64 (n_.tdiv 10))]) (H := []) Z call65 ⟨(tm Z), trivial⟩ (R := []) (List.Perm.refl _) (ih r10e) (by rintro _ _ ⟨rfl, rfl⟩; exact ⟨Z, Z⟩)), ym Z Z Z, ym Z Z Z, ym Z Z Z, yp Z (pu_int (v := .i (IntKind.wrap .i64 ((IntKind.wrap .i64 (0 - (n_.tmod 10))) + 1))) Z Z (tm Z) (AEv.int _ _) Z), yp Z (APure.eq (pu_strSliceM Z underlying9 (tm Z) ⟨_, (tm Z)⟩ ⟨_, (tm Z)⟩ c11) (congrArg (AV.str) x12e.symm)), yp Z (pu_strAdd Z (tm Z) (tm Z) c13), ym Z Z Z, trivial⟩
   refine aw_ret ?_
   obtain rfl := some_of h
   exact ⟨[.str (r10 ++ x12)], _, [], ⟨(tm Z), trivial⟩, vr, Weak.mkL [] (by decide) trivial trivial, ⟨Z, Z⟩⟩

theorem mewsref01.digits.ok {n_ : Int} {r : List UInt8} (h : mewsref01.digits n_ = some r) : Go.Lift.Spec prog 65 [.i n_] [] (fun v H => v = .str r ∧ H = []) := by
 obtain ⟨kk, hk⟩ := fixO_some h
 exact mewsref01.digits.rec.ok kk hk

theorem mewsref01.Text.ok {n_ : Int} {r : List UInt8} (h : mewsref01.Text n_ = some r) : Go.Lift.Spec prog 53 [.i n_] [] (fun v H => v = .str r ∧ H = []) := by
 unfold mewsref01.Text at h
 refine Go.Lift.Spec.of_body (rs := [.tmp 2]) func53 Z Z (nb Z) Z (xr (xa (.str ([] : List UInt8)) Z (pu_assign Z (AEv.const Z)) (xe (aw_seq (xr (xm Z Z Z (xa (.bool (decide (n_ < 0))) Z (pu_int (v := .bool (decide (n_ < 0))) Z Z (tm Z) (AEv.int _ _) Z) ?_)))))))
 refine xe (aw_cond (b := decide (n_ < 0)) (tm Z) (fun hb8 => ?_) (fun hb8 => ?_))
 ·replace h := ite_t (dec_t hb8) h
  refine xr (xm Z Z Z ?_)
  obtain ⟨r5, r5e, h⟩ := bind_some h
  refine xc Z (op_call (vs := [.i n_]) (H := []) Z call65 ⟨(tm Z), trivial⟩ (List.Perm.refl _) (mewsref01.digits.ok r5e) ?_)
  rintro _ _ ⟨rfl, rfl⟩
  obtain ⟨c6, h⟩ := need_of h
  refine xa (.str ([45] ++ r5)) Z (pu_strAdd Z (AEv.const Z) (tm Z) c6) (xm Z Z Z (xe (aw_ret ?_)))
  obtain rfl := some_of h
  exact ⟨[.str ([45] ++ r5)], _, [], ⟨(tm Z), trivial⟩, vr, Weak.mkL [] (by decide) trivial trivial, ⟨Z, Z⟩⟩
 ·replace h := ite_f (dec_f hb8) h
  refine aw_skip (xr (xm Z Z Z (xa (.i (IntKind.wrap .i64 (0 - n_))) Z (pu_neg Z (tm Z)) ?_)))
  obtain ⟨r7, r7e, h⟩ := bind_some h
  refine xc Z (op_call (vs := [.i (IntKind.wrap .i64 (0 - n_))]) (H := []) Z call65 ⟨(tm Z), trivial⟩ (List.Perm.refl _) (mewsref01.digits.ok r7e) ?_)
  rintro _ _ ⟨rfl, rfl⟩
  refine xm Z Z Z (xe (aw_ret ?_))
  obtain rfl := some_of h
  exact ⟨[.str r7], _, [], ⟨(tm Z), trivial⟩, vr, Weak.mkL [] (by decide) trivial trivial, ⟨Z, Z⟩⟩

theorem mewsref05.Put.ok {args : List (List UInt8)} {r : List UInt8} (h : mewsref05.Put args = some r) : Go.Lift.Spec prog 41 [.sl .no 1 (args.map AV.str)] [] (fun v H => v = .str r ∧ H = []) := by
 unfold mewsref05.Put at h
 refine Go.Lift.Spec.of_body (rs := [.tmp 2]) func41 Z Z (nb Z) Z (xr (xa (.str ([] : List UInt8)) Z (pu_assign Z (AEv.const Z)) (xe (xr (xm Z Z Z (xa (.i (args.length : Int)) Z (pu_lenM Z underlying49 (tm Z)) ?_))))))
 obtain ⟨r81, r81e, h⟩ := bind_some h
 refine xc Z (op_call (vs := [.i (args.length : Int)]) (H := []) Z call53 ⟨(tm Z), trivial⟩ (List.Perm.refl _) (mewsref01.Text.ok r81e) ?_)
 rintro _ _ ⟨rfl, rfl⟩
 obtain ⟨c82, h⟩ := need_of h
 refine xa (.str ([42] ++ r81)) Z (pu_strAdd Z (AEv.const Z) (tm Z) c82) ?_
 obtain ⟨c83, h⟩ := need_of h
 refine xa (.str (([42] ++ r81) ++ [13, 10])) Z (pu_strAdd Z (tm Z) (AEv.const Z) c83) (xm Z Z Z (xe ?_))
 obtain ⟨s121, s121e, h122⟩ := bind_some h
 refine aw_meet (ν := Unit) (fun v => [(3, .str s121)]) (fun v => []) ?_ ?_
 ·have h := s121e
  refine xr (xa (.i 0) Z (pu_assign Z (AEv.int _ _)) (xe (aw_block (aw_while (σ := mewsref05.Put.S0) (ν := Unit) (mewsref05.Put.body0 args) (fun s147 v => [(0, .sl .no 1 (args.map AV.str)), (3, .str s147.s), (4, .i s147.i)]) (fun s147 v => []) ⟨([42] ++ r81) ++ [13, 10], 0⟩ () _ h (Weak.mkL [] (by decide) trivial ⟨tm Z, (AEv.le (tm Z) vr), tm Z, trivial⟩) ?_))))
  rintro s147 _ x149 h hx148
  unfold mewsref05.Put.body0 at h
  refine aw_seq (xr (xm Z Z Z (xm Z Z Z (xa (.i (args.length : Int)) Z (pu_lenM Z underlying49 (tm Z)) (xa (.bool (decide (s147.i < (args.length : Int)))) Z (pu_int (v := .bool (decide (s147.i < (args.length : Int)))) Z Z (tm Z) (tm Z) Z) (xe (aw_cond (b := decide (s147.i < (args.length : Int))) (tm Z) (fun hb160 => ?_) (fun hb160 => ?_))))))))
  ·replace h := ite_t (dec_t hb160) h
   refine aw_skip (aw_seq (aw_block ?_))
   obtain ⟨c151, h⟩ := need_of h
   obtain ⟨r152, r152e, h⟩ := bind_some h
   obtain ⟨c153, h⟩ := need_of h
   obtain ⟨c154, h⟩ := need_of h
   obtain ⟨c155, h⟩ := need_of h
   obtain ⟨c156, h⟩ := need_of h
   obtain ⟨x157, x157e, h⟩ := letO_of h
   obtain ⟨c158, h⟩ := need_of h
   obtain ⟨c159, h⟩ := need_of h
   refine aw_planR (by decide +kernel) [[], [], [], [], [], [], [], [], [], [], [], [], [], [], [], [], []] [] [] [.str s147.s, .sl .no 1 (args.map AV.str), .i s147.i, .vptr [.str (ix args s147.i)], .str (ix args s147.i), .i ((ix args s147.i).length : Int), .str r152, .str ([36] ++ r152), .str (([36] ++ r152) ++ [13, 10]), .sl .no 1 (args.map AV.str), .i s147.i, .vptr [.str (ix args s147.i)], .str (ix args s147.i), .str x157, .str (x157 ++ [13, 10]), .str (s147.s ++ (x157 ++ [13, 10])), .str (s147.s ++ (x157 ++ [13, 10]))] (by decide +kernel) Z Z ?_ ?_
   ·exact ⟨ym Z Z Z, ym Z Z Z, ym Z Z Z, yp Z (pu_indexAddrM Z underlying49 sizeOf9 (tm Z) (tm Z) c151 Z), stepg_plain Z (op_loadV1 Z isAgg9 (tm Z) Z ⟨Z, Z⟩), yp Z (pu_strLen Z underlying9 (tm Z)), stepg_plain Z (op_call (vs := [.i ((ix args s147.i).length : Int)]) (H := []) Z call53 ⟨(tm Z), trivial⟩ (R := []) (List.Perm.refl _) (mewsref01.Text.ok r152e) (by rintro _ _ ⟨rfl, rfl⟩; exact ⟨Z, Z⟩)), yp Z (pu_strAdd Z (AEv.const Z) (tm Z) c153), yp Z (pu_strAdd Z (tm Z) (AEv.const Z) c154), ym Z Z Z, ym Z Z Z, yp Z (pu_indexAddrM Z underlying49 sizeOf9 (tm Z) (tm Z) c155 Z), stepg_plain Z (op_loadV1 Z isAgg9 (tm Z) Z ⟨Z, Z⟩), yp Z (APure.eq (pu_strAdd Z (tm Z) (tm Z) c156) (congrArg (AV.str) x157e.symm)), yp Z (pu_strAdd Z (tm Z) (AEv.const Z) c158), yp Z (pu_strAdd Z (tm Z) (tm Z) c159), ym Z Z Z, trivial⟩
   refine aw_region (xm Z Z Z (xa (.i (IntKind.wrap .i64 (s147.i + 1))) Z (pu_int (v := .i (IntKind.wrap .i64 (s147.i + 1))) Z Z (tm Z) (AEv.int _ _) Z) (xm Z Z Z (xe ?_))))
   obtain rfl := some_of h
   exact ⟨_, (), Z, Weak.mkL [] (by decide) trivial ⟨tm Z, (AEv.le (tm Z) vr), (AEv.le (tm Z) vr), trivial⟩⟩
  ·replace h := ite_f (dec_f hb160) h
   refine aw_exit ?_
   obtain rfl := some_of h
   have h := congrArg some (hx148 _ rfl)
   obtain rfl := some_of h
   exact ⟨(), Weak.mkL [] (by decide) trivial ⟨tm Z, trivial⟩⟩
 ·intro _
  have h := h122
  refine xr (xm Z Z Z (xm Z Z Z (xe (aw_ret ?_))))
  obtain rfl := some_of h
  exact ⟨[.str s121], _, [], ⟨(tm Z), trivial⟩, vr, Weak.mkL [] (by decide) trivial trivial, ⟨Z, Z⟩⟩

theorem mewsref15.load.ok {u_ : api.Unit} {r : List UInt8} (h : mewsref15.load u_ = some r) : Go.Lift.Spec prog 25 [.agg [.sl .no 1 (u_.Cmds.map av_List_List_UInt8)]] [] (fun v H => v = .str r ∧ H = []) := by
 unfold mewsref15.load at h
 refine Go.Lift.Spec.of_body (rs := [.tmp 2]) func25 Z Z (nb Z) Z (xr (xc Z (op_box (cs := [.sl .no 1 (u_.Cmds.map av_List_List_UInt8)]) (v := .agg [.sl .no 1 (u_.Cmds.map av_List_List_UInt8)]) Z (tm Z) Z Z ?_)))
 intro p71
 refine xa (.str ([] : List UInt8)) Z (pu_assign Z (AEv.const Z)) (xe (xr (xa (.str ([] : List UInt8)) Z (pu_assign Z (AEv.const Z)) (xe ?_))))
 obtain ⟨s105, s105e, h106⟩ := bind_some h
 refine aw_meet (ν := Unit) (fun v => [(3, .str s105)]) (fun v => []) ?_ ?_
 ·have h := s105e
  refine xr (xa (.i 0) Z (pu_assign Z (AEv.int _ _)) (xe (aw_block (aw_while (σ := mewsref15.load.S0) (ν := Unit) (mewsref15.load.body0 u_) (fun s128 v => [(1, .ptr p71 0), (3, .str s128.s), (4, .i s128.i)]) (fun s128 v => [(p71, .cells [.sl .no 1 (u_.Cmds.map av_List_List_UInt8)])]) ⟨([] : List UInt8), 0⟩ () _ h (Weak.mkL [0] (by decide) ⟨⟨_, Z, ⟨vr, trivial⟩, Z⟩, trivial⟩ ⟨tm Z, tm Z, tm Z, trivial⟩) ?_))))
  rintro s128 _ x130 h hx129
  unfold mewsref15.load.body0 at h
  refine aw_seq ?_
  obtain ⟨s133, s133e, h134⟩ := letO_of h
  refine aw_meet (ν := Unit) (fun v => [(1, .ptr p71 0), (3, .str s128.s), (4, .i s128.i), (14, .bool s133)]) (fun v => [(p71, .cells [.sl .no 1 (u_.Cmds.map av_List_List_UInt8)])]) ?_ ?_
  ·have h := s133e.symm
   refine aw_region (xm Z Z Z (xa (.ptr p71 0) Z (fa Z underlying24 Z sizeOf22 Z Z Z) (xc Z (op_load1 (i := 0) Z isAgg22 (tm Z) Z Z (xa (.i (u_.Cmds.length : Int)) Z (pu_lenM Z underlying22 (tm Z)) (xa (.bool (decide (s128.i < (u_.Cmds.length : Int)))) Z (pu_int (v := .bool (decide (s128.i < (u_.Cmds.length : Int)))) Z Z (tm Z) (tm Z) Z) (xm Z Z Z ?_)))))))
   rcases Bool.eq_false_or_eq_true (decide (s128.i < (u_.Cmds.length : Int))) with hb136 | hb136
   ·replace h := ite_t (dec_t hb136) h
    refine aops_known 10 Z hb136 (xq Z Z Z Z (xp (.i (s128.s.length : Int)) Z Z (pu_strLen Z underlying9 (tm Z)) (xp (.bool (decide ((s128.s.length : Int) ≤ 4194304))) Z Z (pu_int (v := .bool (decide ((s128.s.length : Int) ≤ 4194304))) Z Z (tm Z) (AEv.int _ _) Z) (xa (.bool (decide ((s128.s.length : Int) ≤ 4194304))) Z (pu_pick (b := true) Z (tm Z) (fun _ => (tm Z)) (fun h => nomatch h)) (xe ?_)))))
    subst h
    exact ⟨(), Weak.mkL [0] (by decide) ⟨⟨_, Z, ⟨vr, trivial⟩, Z⟩, trivial⟩ ⟨tm Z, tm Z, tm Z, (AEv.le (tm Z) vr), trivial⟩⟩
   ·replace h := ite_f (dec_f hb136) h
    refine aops_known 10 Z hb136 (xn Z Z Z (xn Z Z Z (xn Z Z Z (xa (.bool false) Z (pu_pick (b := false) Z (tm Z) (fun h => nomatch h) (fun _ => (AEv.bool _))) (xe ?_)))))
    subst h
    exact ⟨(), Weak.mkL [0] (by decide) ⟨⟨_, Z, ⟨vr, trivial⟩, Z⟩, trivial⟩ ⟨tm Z, tm Z, tm Z, tm Z, trivial⟩⟩
  ·intro _
   have h := h134
   refine aw_cond (b := s133) (tm Z) (fun hb140 => ?_) (fun hb140 => ?_)
   ·replace h := ite_t hb140 h
    refine aw_skip (aw_seq (aw_block (aw_region (xm Z Z Z (xa (.ptr p71 0) Z (fa Z underlying24 Z sizeOf22 Z Z Z) (xc Z (op_load1 (i := 0) Z isAgg22 (tm Z) Z Z (xm Z Z Z ?_))))))))
    obtain ⟨c137, h⟩ := need_of h
    refine xa (.vptr [.sl .no 1 ((ix u_.Cmds s128.i).map AV.str)]) Z (pu_indexAddrM Z underlying22 sizeOf49 (tm Z) (tm Z) c137 Z) (xc Z (op_loadV1 Z isAgg49 (tm Z) Z ?_))
    obtain ⟨r138, r138e, h⟩ := bind_some h
    refine xc Z (op_call (vs := [.sl .no 1 ((ix u_.Cmds s128.i).map AV.str)]) (H := []) Z call41 ⟨(tm Z), trivial⟩ (List.Perm.refl _) (mewsref05.Put.ok r138e) ?_)
    rintro _ _ ⟨rfl, rfl⟩
    obtain ⟨c139, h⟩ := need_of h
    refine xa (.str (s128.s ++ r138)) Z (pu_strAdd Z (tm Z) (tm Z) c139) (xm Z Z Z (xe (aw_region (xm Z Z Z (xa (.i (IntKind.wrap .i64 (s128.i + 1))) Z (pu_int (v := .i (IntKind.wrap .i64 (s128.i + 1))) Z Z (tm Z) (AEv.int _ _) Z) (xm Z Z Z (xe ?_)))))))
    obtain rfl := some_of h
    exact ⟨_, (), Z, Weak.mkL [0] (by decide) ⟨⟨_, Z, ⟨vr, trivial⟩, Z⟩, trivial⟩ ⟨tm Z, (AEv.le (tm Z) vr), (AEv.le (tm Z) vr), trivial⟩⟩
   ·replace h := ite_fb hb140 h
    refine aw_exit ?_
    obtain rfl := some_of h
    have h := congrArg some (hx129 _ rfl)
    obtain rfl := some_of h
    exact ⟨(), Weak.mkL [] (by decide) trivial ⟨tm Z, trivial⟩⟩
 ·intro _
  have h := h106
  refine xr (xm Z Z Z (xm Z Z Z (xe (aw_ret ?_))))
  obtain rfl := some_of h
  exact ⟨[.str s105], _, [], ⟨(tm Z), trivial⟩, vr, Weak.mkL [] (by decide) trivial trivial, ⟨Z, Z⟩⟩

theorem mewsref14.Byte.ok {n_ : Int} {b : Int} {r : Int} (h : mewsref14.Byte n_ b = some r) : Go.Lift.Spec prog 66 [.int .u32 n_, .int .u8 b] [] (fun v H => v = .int .u32 r ∧ H = []) := by
 unfold mewsref14.Byte at h
 refine Go.Lift.Spec.of_body (rs := [.tmp 4]) func66 Z Z (nb Z) Z (xr (xa (.int .u32 0) Z (pu_assign Z (AEv.int _ _)) (xe (xr (xm Z Z Z (xm Z Z Z (xa (.int .u32 (IntKind.wrap .u32 b)) Z (pu_conv Z underlying5 underlying44 (tm Z)) ?_)))))))
 refine xa (.int .u32 (Go.bits .xor .u32 n_ (IntKind.wrap .u32 b))) Z (pu_int (v := .int .u32 (Go.bits .xor .u32 n_ (IntKind.wrap .u32 b))) Z Z (tm Z) (tm Z) Z) (xm Z Z Z (xe ?_))
 obtain ⟨s76, s76e, h77⟩ := bind_some h
 refine aw_meet (ν := Unit) (fun v => [(0, .int .u32 s76)]) (fun v => []) ?_ ?_
 ·have h := s76e
  refine xr (xa (.i 0) Z (pu_assign Z (AEv.int _ _)) (xe (aw_block (aw_while (σ := mewsref14.Byte.S0) (ν := Unit) mewsref14.Byte.body0 (fun s93 v => [(0, .int .u32 s93.n), (5, .i s93.i)]) (fun s93 v => []) ⟨Go.bits .xor .u32 n_ (IntKind.wrap .u32 b), 0⟩ () _ h (Weak.mkL [] (by decide) trivial ⟨(AEv.le (tm Z) vr), tm Z, trivial⟩) ?_))))
  rintro s93 _ x95 h hx94
  unfold mewsref14.Byte.body0 at h
  refine aw_seq (xr (xm Z Z Z (xa (.bool (decide (s93.i < 8))) Z (pu_int (v := .bool (decide (s93.i < 8))) Z Z (tm Z) (AEv.int _ _) Z) (xe (aw_cond (b := decide (s93.i < 8)) (tm Z) (fun hb102 => ?_) (fun hb102 => ?_))))))
  ·replace h := ite_t (dec_t hb102) h
   refine aw_skip ?_
   obtain ⟨s98, s98e, h99⟩ := letO_of h
   refine aw_meet (ν := Unit) (fun v => [(0, .int .u32 s98), (5, .i s93.i)]) (fun v => []) ?_ ?_
   ·have h := s98e.symm
    refine aw_block (xr (xm Z Z Z (xa (.int .u32 (s93.n.tmod 2)) Z (pu_rem Z (tm Z) (AEv.int _ _) (by decide)) (xa (.bool (decide ((s93.n.tmod 2) = 1))) Z (pu_int (v := .bool (decide ((s93.n.tmod 2) = 1))) Z Z (tm Z) (AEv.int _ _) Z) (xm Z Z Z (xe (aw_seq (aw_region ?_))))))))
    refine xm Z Z Z (xa (.int .u32 (IntKind.wrap .u32 (s93.n.tdiv 2))) Z (pu_quo Z (tm Z) (AEv.int _ _) (by decide)) (xm Z Z Z (xe (xr (xm Z Z Z (xe (aw_cond (b := decide ((s93.n.tmod 2) = 1)) (tm Z) (fun hb101 => ?_) (fun hb101 => ?_))))))))
    ·replace h := ite_t (dec_t hb101) h
     refine aw_region (xm Z Z Z (xa (.int .u32 (Go.bits .xor .u32 (IntKind.wrap .u32 (s93.n.tdiv 2)) 3988292384)) Z (pu_int (v := .int .u32 (Go.bits .xor .u32 (IntKind.wrap .u32 (s93.n.tdiv 2)) 3988292384)) Z Z (tm Z) (AEv.int _ _) Z) (xm Z Z Z (xe ?_))))
     subst h
     exact ⟨(), Weak.mkL [] (by decide) trivial ⟨(AEv.le (tm Z) vr), tm Z, trivial⟩⟩
    ·replace h := ite_f (dec_f hb101) h
     refine aw_skip ?_
     subst h
     exact ⟨(), Weak.mkL [] (by decide) trivial ⟨(AEv.le (tm Z) vr), tm Z, trivial⟩⟩
   ·intro _
    have h := h99
    refine aw_region (xm Z Z Z (xa (.i (IntKind.wrap .i64 (s93.i + 1))) Z (pu_int (v := .i (IntKind.wrap .i64 (s93.i + 1))) Z Z (tm Z) (AEv.int _ _) Z) (xm Z Z Z (xe ?_))))
    obtain rfl := some_of h
    exact ⟨_, (), Z, Weak.mkL [] (by decide) trivial ⟨tm Z, (AEv.le (tm Z) vr), trivial⟩⟩
  ·replace h := ite_f (dec_f hb102) h
   refine aw_exit ?_
   obtain rfl := some_of h
   have h := congrArg some (hx94 _ rfl)
   obtain rfl := some_of h
   exact ⟨(), Weak.mkL [] (by decide) trivial ⟨tm Z, trivial⟩⟩
 ·intro _
  have h := h77
  refine xr (xm Z Z Z (xm Z Z Z (xe (aw_ret ?_))))
  obtain rfl := some_of h
  exact ⟨[.int .u32 s76], _, [], ⟨(tm Z), trivial⟩, vr, Weak.mkL [] (by decide) trivial trivial, ⟨Z, Z⟩⟩

theorem mewsref14.More.ok {n_ : Int} {s_ : List UInt8} {r : Int} (h : mewsref14.More n_ s_ = some r) : Go.Lift.Spec prog 54 [.int .u32 n_, .str s_] [] (fun v H => v = .int .u32 r ∧ H = []) := by
 unfold mewsref14.More at h
 refine Go.Lift.Spec.of_body (rs := [.tmp 4]) func54 Z Z (nb Z) Z (xr (xa (.int .u32 0) Z (pu_assign Z (AEv.int _ _)) (xe ?_)))
 obtain ⟨s49, s49e, h50⟩ := bind_some h
 refine aw_meet (ν := Unit) (fun v => [(0, .int .u32 s49)]) (fun v => []) ?_ ?_
 ·have h := s49e
  refine xr (xa (.i 0) Z (pu_assign Z (AEv.int _ _)) (xe (aw_block (aw_while (σ := mewsref14.More.S0) (ν := Unit) (mewsref14.More.body0 s_) (fun s60 v => [(0, .int .u32 s60.n), (1, .str s_), (5, .i s60.i)]) (fun s60 v => []) ⟨n_, 0⟩ () _ h (Weak.mkL [] (by decide) trivial ⟨tm Z, tm Z, tm Z, trivial⟩) ?_))))
  rintro s60 _ x62 h hx61
  unfold mewsref14.More.body0 at h
  refine aw_seq (xr (xm Z Z Z (xm Z Z Z (xa (.i (s_.length : Int)) Z (pu_strLen Z underlying9 (tm Z)) (xa (.bool (decide (s60.i < (s_.length : Int)))) Z (pu_int (v := .bool (decide (s60.i < (s_.length : Int)))) Z Z (tm Z) (tm Z) Z) (xe (aw_cond (b := decide (s60.i < (s_.length : Int))) (tm Z) (fun hb66 => ?_) (fun hb66 => ?_))))))))
  ·replace h := ite_t (dec_t hb66) h
   refine aw_skip (aw_seq (aw_block (aw_region (xm Z Z Z (xm Z Z Z (xm Z Z Z ?_))))))
   obtain ⟨c64, h⟩ := need_of h
   refine xa (.int .u8 (bix s_ s60.i)) Z (pu_strIdxM Z underlying9 (tm Z) (tm Z) c64) ?_
   obtain ⟨r65, r65e, h⟩ := bind_some h
   refine xc Z (op_call (vs := [.int .u32 s60.n, .int .u8 (bix s_ s60.i)]) (H := []) Z call66 ⟨(tm Z), (tm Z), trivial⟩ (List.Perm.refl _) (mewsref14.Byte.ok r65e) ?_)
   rintro _ _ ⟨rfl, rfl⟩
   refine xm Z Z Z (xe (aw_region (xm Z Z Z (xa (.i (IntKind.wrap .i64 (s60.i + 1))) Z (pu_int (v := .i (IntKind.wrap .i64 (s60.i + 1))) Z Z (tm Z) (AEv.int _ _) Z) (xm Z Z Z (xe ?_))))))
   obtain rfl := some_of h
   exact ⟨_, (), Z, Weak.mkL [] (by decide) trivial ⟨tm Z, tm Z, (AEv.le (tm Z) vr), trivial⟩⟩
  ·replace h := ite_f (dec_f hb66) h
   refine aw_exit ?_
   obtain rfl := some_of h
   have h := congrArg some (hx61 _ rfl)
   obtain rfl := some_of h
   exact ⟨(), Weak.mkL [] (by decide) trivial ⟨tm Z, trivial⟩⟩
 ·intro _
  have h := h50
  refine xr (xm Z Z Z (xm Z Z Z (xe (aw_ret ?_))))
  obtain rfl := some_of h
  exact ⟨[.int .u32 s49], _, [], ⟨(tm Z), trivial⟩, vr, Weak.mkL [] (by decide) trivial trivial, ⟨Z, Z⟩⟩

theorem mewsref14.Of.ok {s_ : List UInt8} {r : Int} (h : mewsref14.Of s_ = some r) : Go.Lift.Spec prog 42 [.str s_] [] (fun v H => v = .int .u32 r ∧ H = []) := by
 unfold mewsref14.Of at h
 refine Go.Lift.Spec.of_body (rs := [.tmp 2]) func42 Z Z (nb Z) Z (xr (xa (.int .u32 0) Z (pu_assign Z (AEv.int _ _)) (xe (xr (xm Z Z Z ?_)))))
 obtain ⟨r2, r2e, h⟩ := bind_some h
 refine xc Z (op_call (vs := [.int .u32 4294967295, .str s_]) (H := []) Z call54 ⟨(AEv.int _ _), (tm Z), trivial⟩ (List.Perm.refl _) (mewsref14.More.ok r2e) ?_)
 rintro _ _ ⟨rfl, rfl⟩
 refine xa (.int .u32 (Go.bits .xor .u32 r2 4294967295)) Z (pu_int (v := .int .u32 (Go.bits .xor .u32 r2 4294967295)) Z Z (tm Z) (AEv.int _ _) Z) (xm Z Z Z (xe (aw_ret ?_)))
 obtain rfl := some_of h
 exact ⟨[.int .u32 (Go.bits .xor .u32 r2 4294967295)], _, [], ⟨(tm Z), trivial⟩, vr, Weak.mkL [] (by decide) trivial trivial, ⟨Z, Z⟩⟩

theorem mewsref14.Seal.ok {s_ : List UInt8} {r : List UInt8} (h : mewsref14.Seal s_ = some r) : Go.Lift.Spec prog 26 [.str s_] [] (fun v H => v = .str r ∧ H = []) := by
 unfold mewsref14.Seal at h
 refine Go.Lift.Spec.of_body (rs := [.tmp 2]) func26 Z Z (nb Z) Z (xr (xa (.str ([] : List UInt8)) Z (pu_assign Z (AEv.const Z)) (xe (xr (xm Z Z Z ?_)))))
 obtain ⟨r8, r8e, h⟩ := bind_some h
 refine xc Z (op_call (vs := [.str s_]) (H := []) Z call42 ⟨(tm Z), trivial⟩ (List.Perm.refl _) (mewsref14.Of.ok r8e) ?_)
 rintro _ _ ⟨rfl, rfl⟩
 refine xm Z Z Z (xe (xr (xm Z Z Z (xm Z Z Z (xa (.int .u8 (IntKind.wrap .u8 r8)) Z (pu_conv Z underlying44 underlying5 (tm Z)) (xm Z Z Z (xa (.int .u32 (IntKind.wrap .u32 (r8.tdiv 256))) Z (pu_quo Z (tm Z) (AEv.int _ _) (by decide)) (xa (.int .u8 (IntKind.wrap .u8 (IntKind.wrap .u32 (r8.tdiv 256)))) Z (pu_conv Z underlying44 underlying5 (tm Z)) ?_))))))))
 refine xm Z Z Z (xa (.int .u32 (IntKind.wrap .u32 (r8.tdiv 65536))) Z (pu_quo Z (tm Z) (AEv.int _ _) (by decide)) (xa (.int .u8 (IntKind.wrap .u8 (IntKind.wrap .u32 (r8.tdiv 65536)))) Z (pu_conv Z underlying44 underlying5 (tm Z)) (xm Z Z Z (xa (.int .u32 (IntKind.wrap .u32 (r8.tdiv 16777216))) Z (pu_quo Z (tm Z) (AEv.int _ _) (by decide)) (xa (.int .u8 (IntKind.wrap .u8 (IntKind.wrap .u32 (r8.tdiv 16777216)))) Z (pu_conv Z underlying44 underlying5 (tm Z)) ?_)))))
 obtain ⟨c9, h⟩ := need_of h
 obtain ⟨c10, h⟩ := need_of h
 obtain ⟨c11, h⟩ := need_of h
 obtain ⟨c12, h⟩ := need_of h
 refine xc Z (op_buildSlice (xs := ([u8 (IntKind.wrap .u8 r8), u8 (IntKind.wrap .u8 (IntKind.wrap .u32 (r8.tdiv 256))), u8 (IntKind.wrap .u8 (IntKind.wrap .u32 (r8.tdiv 65536))), u8 (IntKind.wrap .u8 (IntKind.wrap .u32 (r8.tdiv 16777216)))] : List UInt8).map byteAV) (aparts := [(0, byteAV (u8 (IntKind.wrap .u8 r8))), (1, byteAV (u8 (IntKind.wrap .u8 (IntKind.wrap .u32 (r8.tdiv 256))))), (2, byteAV (u8 (IntKind.wrap .u8 (IntKind.wrap .u32 (r8.tdiv 65536))))), (3, byteAV (u8 (IntKind.wrap .u8 (IntKind.wrap .u32 (r8.tdiv 16777216)))))]) Z underlying45 sizeOf5 zeroValue5 (by decide) (by decide) ⟨Z, (AEv.le (tm Z) (AV.Le.of_eq (byteAV_u8 c9.1 c9.2).symm)), ⟨Z, (AEv.le (tm Z) (AV.Le.of_eq (byteAV_u8 c10.1 c10.2).symm)), ⟨Z, (AEv.le (tm Z) (AV.Le.of_eq (byteAV_u8 c11.1 c11.2).symm)), ⟨Z, (AEv.le (tm Z) (AV.Le.of_eq (byteAV_u8 c12.1 c12.2).symm)), trivial⟩⟩⟩⟩ Z Z Z (xc Z (op_bytesStr Z underlying45 underlying5 underlying9 (tm Z) ?_)))
 obtain ⟨c13, h⟩ := need_of h
 obtain ⟨x14, x14e, h⟩ := letO_of h
 refine xa (.str x14) Z (APure.eq (pu_strAdd Z (tm Z) (tm Z) c13) (congrArg (AV.str) x14e.symm)) (xm Z Z Z (xe (aw_ret ?_)))
 obtain rfl := some_of h
 exact ⟨[.str x14], _, [], ⟨(tm Z), trivial⟩, vr, Weak.mkL [] (by decide) trivial trivial, ⟨Z, Z⟩⟩

theorem mewsref15.Put.ok {u_ : api.Unit} {r : (List UInt8) × Int} (h : mewsref15.Put u_ = some r) : Go.Lift.Spec prog 11 [.agg [.sl .no 1 (u_.Cmds.map av_List_List_UInt8)]] [] (fun v H => v = .tup [.str r.1, .i r.2] ∧ H = []) := by
 unfold mewsref15.Put at h
 refine Go.Lift.Spec.of_body (rs := [.tmp 2, .tmp 3]) func11 Z Z (nb Z) Z (xr (xc Z (op_box (cs := [.sl .no 1 (u_.Cmds.map av_List_List_UInt8)]) (v := .agg [.sl .no 1 (u_.Cmds.map av_List_List_UInt8)]) Z (tm Z) Z Z ?_)))
 intro p14
 refine xa (.str ([] : List UInt8)) Z (pu_assign Z (AEv.const Z)) (xa (.i 0) Z (pu_assign Z (AEv.int _ _)) (xe (aw_seq (xr (xc Z (op_loadN (i := 0) Z isAgg24 sizeOf24 (tm Z) Z (nb Z) Z ?_))))))
 obtain ⟨r15, r15e, h⟩ := bind_some h
 refine xc Z (op_call (vs := [.agg [.sl .no 1 (u_.Cmds.map av_List_List_UInt8)]]) (H := []) Z call24 ⟨(tm Z), trivial⟩ (List.Perm.refl _) (mewsref15.May.ok r15e) ?_)
 rintro _ _ ⟨rfl, rfl⟩
 refine xa (.bool (!r15)) Z (pu_not Z (tm Z)) (xe (aw_cond (b := (!r15)) (tm Z) (fun hb26 => ?_) (fun hb26 => ?_)))
 ·replace h := ite_t hb26 h
  refine xr (xa (.str ([] : List UInt8)) Z (pu_assign Z (AEv.const Z)) (xa (.i 1) Z (pu_assign Z (AEv.int _ _)) (xe (aw_ret ?_))))
  obtain rfl := some_of h
  exact ⟨[.str ([] : List UInt8), .i 1], _, [], ⟨(tm Z), (tm Z), trivial⟩, vr, Weak.mkL [] (by decide) trivial trivial, ⟨Z, Z⟩⟩
 ·replace h := ite_fb hb26 h
  refine aw_skip (xr (xc Z (op_loadN (i := 0) Z isAgg24 sizeOf24 (tm Z) Z (nb Z) Z ?_)))
  obtain ⟨r16, r16e, h⟩ := bind_some h
  refine xc Z (op_call (vs := [.agg [.sl .no 1 (u_.Cmds.map av_List_List_UInt8)]]) (H := []) Z call25 ⟨(tm Z), trivial⟩ (List.Perm.refl _) (mewsref15.load.ok r16e) ?_)
  rintro _ _ ⟨rfl, rfl⟩
  refine xm Z Z Z (xe (xr (xm Z Z Z (xa (.i (r16.length : Int)) Z (pu_strLen Z underlying9 (tm Z)) (xm Z Z Z (xe (aw_seq (aw_seq ?_))))))))
  refine aw_region (xm Z Z Z (xa (.bool (decide (4194304 < (r16.length : Int)))) Z (pu_int (v := .bool (decide (4194304 < (r16.length : Int)))) Z Z (tm Z) (AEv.int _ _) Z) (xe (aw_cond (b := decide (4194304 < (r16.length : Int))) (tm Z) (fun hb25 => ?_) (fun hb25 => ?_)))))
  ·replace h := ite_t (dec_t hb25) h
   refine xr (xa (.str ([] : List UInt8)) Z (pu_assign Z (AEv.const Z)) (xa (.i 6) Z (pu_assign Z (AEv.int _ _)) (xe (aw_ret ?_))))
   obtain rfl := some_of h
   exact ⟨[.str ([] : List UInt8), .i 6], _, [], ⟨(tm Z), (tm Z), trivial⟩, vr, Weak.mkL [] (by decide) trivial trivial, ⟨Z, Z⟩⟩
  ·replace h := ite_f (dec_f hb25) h
   refine aw_skip (xr (xm Z Z Z (xa (.int .u8 (IntKind.wrap .u8 (r16.length : Int))) Z (pu_conv Z underlying3 underlying5 (tm Z)) (xm Z Z Z (xa (.i (IntKind.wrap .i64 ((r16.length : Int).tdiv 256))) Z (pu_quo Z (tm Z) (AEv.int _ _) (by decide)) (xa (.int .u8 (IntKind.wrap .u8 (IntKind.wrap .i64 ((r16.length : Int).tdiv 256)))) Z (pu_conv Z underlying3 underlying5 (tm Z)) (xm Z Z Z (xa (.i (IntKind.wrap .i64 ((r16.length : Int).tdiv 65536))) Z (pu_quo Z (tm Z) (AEv.int _ _) (by decide)) ?_))))))))
   refine xa (.int .u8 (IntKind.wrap .u8 (IntKind.wrap .i64 ((r16.length : Int).tdiv 65536)))) Z (pu_conv Z underlying3 underlying5 (tm Z)) ?_
   obtain ⟨c17, h⟩ := need_of h
   obtain ⟨c18, h⟩ := need_of h
   obtain ⟨c19, h⟩ := need_of h
   obtain ⟨c20, h⟩ := need_of h
   refine xc Z (op_buildSlice (xs := ([u8 (IntKind.wrap .u8 (r16.length : Int)), u8 (IntKind.wrap .u8 (IntKind.wrap .i64 ((r16.length : Int).tdiv 256))), u8 (IntKind.wrap .u8 (IntKind.wrap .i64 ((r16.length : Int).tdiv 65536))), u8 0] : List UInt8).map byteAV) (aparts := [(0, byteAV (u8 (IntKind.wrap .u8 (r16.length : Int)))), (1, byteAV (u8 (IntKind.wrap .u8 (IntKind.wrap .i64 ((r16.length : Int).tdiv 256))))), (2, byteAV (u8 (IntKind.wrap .u8 (IntKind.wrap .i64 ((r16.length : Int).tdiv 65536))))), (3, byteAV (u8 0))]) Z underlying45 sizeOf5 zeroValue5 (by decide) (by decide) ⟨Z, (AEv.le (tm Z) (AV.Le.of_eq (byteAV_u8 c17.1 c17.2).symm)), ⟨Z, (AEv.le (tm Z) (AV.Le.of_eq (byteAV_u8 c18.1 c18.2).symm)), ⟨Z, (AEv.le (tm Z) (AV.Le.of_eq (byteAV_u8 c19.1 c19.2).symm)), ⟨Z, (AEv.le (AEv.int _ _) (AV.Le.of_eq (byteAV_u8 c20.1 c20.2).symm)), trivial⟩⟩⟩⟩ Z Z Z (xc Z (op_bytesStr Z underlying45 underlying5 underlying9 (tm Z) ?_)))
   obtain ⟨c21, h⟩ := need_of h
   obtain ⟨x22, x22e, h⟩ := letO_of h
   refine xa (.str x22) Z (APure.eq (pu_strAdd Z (AEv.const Z) (tm Z) c21) (congrArg (AV.str) x22e.symm)) (xm Z Z Z ?_)
   obtain ⟨c23, h⟩ := need_of h
   refine xa (.str (x22 ++ r16)) Z (pu_strAdd Z (tm Z) (tm Z) c23) ?_
   obtain ⟨r24, r24e, h⟩ := bind_some h
   refine xc Z (op_call (vs := [.str (x22 ++ r16)]) (H := []) Z call26 ⟨(tm Z), trivial⟩ (List.Perm.refl _) (mewsref14.Seal.ok r24e) ?_)
   rintro _ _ ⟨rfl, rfl⟩
   refine xm Z Z Z (xa (.i 0) Z (pu_assign Z (AEv.int _ _)) (xe (aw_ret ?_)))
   obtain rfl := some_of h
   exact ⟨[.str r24, .i 0], _, [], ⟨(tm Z), (tm Z), trivial⟩, vr, Weak.mkL [] (by decide) trivial trivial, ⟨Z, Z⟩⟩

theorem mewsref15.Same.ok {a : api.Unit} {b : api.Unit} {r : Bool} (h : mewsref15.Same a b = some r) : Go.Lift.Spec prog 13 [.agg [.sl .no 1 (a.Cmds.map av_List_List_UInt8)], .agg [.sl .no 1 (b.Cmds.map av_List_List_UInt8)]] [] (fun v H => v = .bool r ∧ H = []) := by
 unfold mewsref15.Same at h
 refine Go.Lift.Spec.of_body (rs := [.tmp 4]) func13 Z Z (nb Z) Z (xr (xc Z (op_box (cs := [.sl .no 1 (a.Cmds.map av_List_List_UInt8)]) (v := .agg [.sl .no 1 (a.Cmds.map av_List_List_UInt8)]) Z (tm Z) Z Z ?_)))
 intro p410
 refine xc Z (op_box (cs := [.sl .no 1 (b.Cmds.map av_List_List_UInt8)]) (v := .agg [.sl .no 1 (b.Cmds.map av_List_List_UInt8)]) Z (tm Z) Z Z ?_)
 intro p411
 refine xa (.bool false) Z (pu_assign Z (AEv.bool _)) (xe (aw_seq (xr (xa (.ptr p410 0) Z (fa Z underlying24 Z sizeOf22 Z Z Z) (xc Z (op_load1 (i := 1) Z isAgg22 (tm Z) Z Z (xa (.i (a.Cmds.length : Int)) Z (pu_lenM Z underlying22 (tm Z)) (xa (.ptr p411 0) Z (fa Z underlying24 Z sizeOf22 Z Z Z) (xc Z (op_load1 (i := 0) Z isAgg22 (tm Z) Z Z ?_))))))))))
 refine xa (.i (b.Cmds.length : Int)) Z (pu_lenM Z underlying22 (tm Z)) (xa (.bool (!decide ((a.Cmds.length : Int) = (b.Cmds.length : Int)))) Z (pu_int (v := .bool (!decide ((a.Cmds.length : Int) = (b.Cmds.length : Int)))) Z Z (tm Z) (tm Z) Z) (xe (aw_cond (b := (!decide ((a.Cmds.length : Int) = (b.Cmds.length : Int)))) (tm Z) (fun hb818 => ?_) (fun hb818 => ?_))))
 ·replace h := ite_f (ndec_t hb818) h
  refine xr (xa (.bool false) Z (pu_assign Z (AEv.bool _)) (xe (aw_ret ?_)))
  obtain rfl := some_of h
  exact ⟨[.bool false], _, [], ⟨(tm Z), trivial⟩, vr, Weak.mkL [] (by decide) trivial trivial, ⟨Z, Z⟩⟩
 ·replace h := ite_t (ndec_f hb818) h
  refine aw_skip ?_
  obtain ⟨s817, s817e, h614⟩ := bind_some h
  refine aw_join (σ := Unit) (ν := Unit) (fun u v => []) (fun u v => []) (fun u => s817 = .inl u) ?_ ?_
  ·intro s613
   intro _
   rintro rfl
   have h := onSum_inl h614
   refine xr (xa (.bool true) Z (pu_assign Z (AEv.bool _)) (xe (aw_ret ?_)))
   obtain rfl := some_of h
   exact ⟨[.bool true], _, [], ⟨(tm Z), trivial⟩, vr, Weak.mkL [] (by decide) trivial trivial, ⟨Z, Z⟩⟩
  ·have h := s817e
   refine xr (xa (.i 0) Z (pu_assign Z (AEv.int _ _)) (xe (aw_block (aw_while (σ := mewsref15.Same.S0) (ν := Unit) (mewsref15.Same.body0 a b) (fun s748 v => [(2, .ptr p410 0), (3, .ptr p411 0), (5, .i s748.i)]) (fun s748 v => [(p410, .cells [.sl .no 1 (a.Cmds.map av_List_List_UInt8)]), (p411, .cells [.sl .no 1 (b.Cmds.map av_List_List_UInt8)])]) ⟨0⟩ () _ h (Weak.mkL [1, 0] (by decide) ⟨⟨_, Z, ⟨vr, trivial⟩, Z⟩, ⟨_, Z, ⟨vr, trivial⟩, Z⟩, trivial⟩ ⟨tm Z, tm Z, tm Z, trivial⟩) ?_))))
   rintro s748 _ x750 h hx749
   unfold mewsref15.Same.body0 at h
   refine aw_seq (xr (xm Z Z Z (xa (.ptr p410 0) Z (fa Z underlying24 Z sizeOf22 Z Z Z) (xc Z (op_load1 (i := 0) Z isAgg22 (tm Z) Z Z (xa (.i (a.Cmds.length : Int)) Z (pu_lenM Z underlying22 (tm Z)) (xa (.bool (decide (s748.i < (a.Cmds.length : Int)))) Z (pu_int (v := .bool (decide (s748.i < (a.Cmds.length : Int)))) Z Z (tm Z) (tm Z) Z) (xe (aw_cond (b := decide (s748.i < (a.Cmds.length : Int))) (tm Z) (fun hb816 => ?_) (fun hb816 => ?_))))))))))
   ·replace h := ite_t (dec_t hb816) h
    refine aw_skip ?_
    obtain ⟨s815, s815e, h783⟩ := bind_some h
    refine aw_join (σ := Unit) (ν := Unit) (fun u v => [(2, .ptr p410 0), (3, .ptr p411 0), (5, .i s748.i)]) (fun u v => [(p410, .cells [.sl .no 1 (a.Cmds.map av_List_List_UInt8)]), (p411, .cells [.sl .no 1 (b.Cmds.map av_List_List_UInt8)])]) (fun u => s815 = .inl u) ?_ ?_
    ·intro s782
     intro _
     rintro rfl
     have h := onSum_inl h783
     refine aw_region (xm Z Z Z (xa (.i (IntKind.wrap .i64 (s748.i + 1))) Z (pu_int (v := .i (IntKind.wrap .i64 (s748.i + 1))) Z Z (tm Z) (AEv.int _ _) Z) (xm Z Z Z (xe ?_))))
     obtain rfl := some_of h
     exact ⟨_, (), Z, Weak.mkL [0, 1] (by decide) ⟨⟨_, Z, ⟨vr, trivial⟩, Z⟩, ⟨_, Z, ⟨vr, trivial⟩, Z⟩, trivial⟩ ⟨tm Z, tm Z, (AEv.le (tm Z) vr), trivial⟩⟩
    ·have h := s815e
     refine aw_block (aw_seq (aw_seq ?_))
     obtain ⟨c785, h⟩ := need_of h
     obtain ⟨c786, h⟩ := need_of h
     refine aw_planR (by decide +kernel) [[], [(0, 0, false)], [], [], [], [], [], [(1, 0, false)], [], [], [], [], []] [[], []] [[[(p410, .cells [.sl .no 1 (a.Cmds.map av_List_List_UInt8)])]], [[(p411, .cells [.sl .no 1 (b.Cmds.map av_List_List_UInt8)])]]] [.ptr p410 0, .sl .no 1 (a.Cmds.map av_List_List_UInt8), .i s748.i, .vptr [.sl .no 1 ((ix a.Cmds s748.i).map AV.str)], .sl .no 1 ((ix a.Cmds s748.i).map AV.str), .i ((ix a.Cmds s748.i).length : Int), .ptr p411 0, .sl .no 1 (b.Cmds.map av_List_List_UInt8), .i s748.i, .vptr [.sl .no 1 ((ix b.Cmds s748.i).map AV.str)], .sl .no 1 ((ix b.Cmds s748.i).map AV.str), .i ((ix b.Cmds s748.i).length : Int), .bool (!decide (((ix a.Cmds s748.i).length : Int) = ((ix b.Cmds s748.i).length : Int)))] (by decide +kernel) Z Z ?_ ?_
     ·exact ⟨yp Z (fa Z underlying24 Z sizeOf22 Z Z Z), stepg_plain Z (op_load1 (i := 0) Z isAgg22 (tm Z) Z Z ⟨Z, Z⟩), ym Z Z Z, yp Z (pu_indexAddrM Z underlying22 sizeOf49 (tm Z) (tm Z) c785 Z), stepg_plain Z (op_loadV1 Z isAgg49 (tm Z) Z ⟨Z, Z⟩), yp Z (pu_lenM Z underlying49 (tm Z)), yp Z (fa Z underlying24 Z sizeOf22 Z Z Z), stepg_plain Z (op_load1 (i := 0) Z isAgg22 (tm Z) Z Z ⟨Z, Z⟩), ym Z Z Z, yp Z (pu_indexAddrM Z underlying22 sizeOf49 (tm Z) (tm Z) c786 Z), stepg_plain Z (op_loadV1 Z isAgg49 (tm Z) Z ⟨Z, Z⟩), yp Z (pu_lenM Z underlying49 (tm Z)), yp Z (pu_int (v := .bool (!decide (((ix a.Cmds s748.i).length : Int) = ((ix b.Cmds s748.i).length : Int)))) Z Z (tm Z) (tm Z) Z), trivial⟩
     refine aw_cond (b := (!decide (((ix a.Cmds s748.i).length : Int) = ((ix b.Cmds s748.i).length : Int)))) (tm Z) (fun hb814 => ?_) (fun hb814 => ?_)
     ·replace h := ite_f (ndec_t hb814) h
      refine xr (xa (.bool false) Z (pu_assign Z (AEv.bool _)) (xe (aw_ret ?_)))
      obtain rfl := some_of h
      have h := onSum_inr h783
      obtain rfl := some_of h
      have h := congrArg some (hx749 _ rfl)
      obtain rfl := some_of h
      have h := onSum_inr h614
      obtain rfl := some_of h
      exact ⟨[.bool false], _, [], ⟨(tm Z), trivial⟩, vr, Weak.mkL [] (by decide) trivial trivial, ⟨Z, Z⟩⟩
     ·replace h := ite_t (ndec_f hb814) h
      refine aw_skip (xr (xa (.i 0) Z (pu_assign Z (AEv.int _ _)) (xe (aw_block (aw_while (σ := mewsref15.Same.S2) (ν := Unit) (mewsref15.Same.body2 s748 a b) (fun s803 v => [(2, .ptr p410 0), (3, .ptr p411 0), (5, .i s748.i), (6, .i s803.k)]) (fun s803 v => [(p410, .cells [.sl .no 1 (a.Cmds.map av_List_List_UInt8)]), (p411, .cells [.sl .no 1 (b.Cmds.map av_List_List_UInt8)])]) ⟨0⟩ () _ h (Weak.mkL [0, 1] (by decide) ⟨⟨_, Z, ⟨vr, trivial⟩, Z⟩, ⟨_, Z, ⟨vr, trivial⟩, Z⟩, trivial⟩ ⟨tm Z, tm Z, tm Z, tm Z, trivial⟩) ?_)))))
      rintro s803 _ x805 h hx804
      unfold mewsref15.Same.body2 at h
      refine aw_seq (xr (xm Z Z Z (xa (.ptr p410 0) Z (fa Z underlying24 Z sizeOf22 Z Z Z) (xc Z (op_load1 (i := 0) Z isAgg22 (tm Z) Z Z (xm Z Z Z ?_))))))
      obtain ⟨c807, h⟩ := need_of h
      refine xa (.vptr [.sl .no 1 ((ix a.Cmds s748.i).map AV.str)]) Z (pu_indexAddrM Z underlying22 sizeOf49 (tm Z) (tm Z) c807 Z) (xc Z (op_loadV1 Z isAgg49 (tm Z) Z (xa (.i ((ix a.Cmds s748.i).length : Int)) Z (pu_lenM Z underlying49 (tm Z)) (xa (.bool (decide (s803.k < ((ix a.Cmds s748.i).length : Int)))) Z (pu_int (v := .bool (decide (s803.k < ((ix a.Cmds s748.i).length : Int)))) Z Z (tm Z) (tm Z) Z) (xe (aw_cond (b := decide (s803.k < ((ix a.Cmds s748.i).length : Int))) (tm Z) (fun hb813 => ?_) (fun hb813 => ?_)))))))
      ·replace h := ite_t (dec_t hb813) h
       refine aw_skip (aw_seq (aw_block (aw_seq ?_)))
       obtain ⟨c808, h⟩ := need_of h
       obtain ⟨c809, h⟩ := need_of h
       obtain ⟨c810, h⟩ := need_of h
       obtain ⟨c811, h⟩ := need_of h
       refine aw_planR (by decide +kernel) [[], [(0, 0, false)], [], [], [], [], [], [], [], [(1, 0, false)], [], [], [], [], [], [], []] [[], []] [[[(p410, .cells [.sl .no 1 (a.Cmds.map av_List_List_UInt8)])]], [[(p411, .cells [.sl .no 1 (b.Cmds.map av_List_List_UInt8)])]]] [.ptr p410 0, .sl .no 1 (a.Cmds.map av_List_List_UInt8), .i s748.i, .vptr [.sl .no 1 ((ix a.Cmds s748.i).map AV.str)], .sl .no 1 ((ix a.Cmds s748.i).map AV.str), .i s803.k, .vptr [.str (ix (ix a.Cmds s748.i) s803.k)], .str (ix (ix a.Cmds s748.i) s803.k), .ptr p411 0, .sl .no 1 (b.Cmds.map av_List_List_UInt8), .i s748.i, .vptr [.sl .no 1 ((ix b.Cmds s748.i).map AV.str)], .sl .no 1 ((ix b.Cmds s748.i).map AV.str), .i s803.k, .vptr [.str (ix (ix b.Cmds s748.i) s803.k)], .str (ix (ix b.Cmds s748.i) s803.k), .bool (!decide ((ix (ix a.Cmds s748.i) s803.k) = (ix (ix b.Cmds s748.i) s803.k)))] (by decide +kernel) Z Z ?_ ?_
       ·exact ⟨yp Z (fa Z underlying24 Z sizeOf22 Z Z Z), stepg_plain Z (op_load1 (i := 0) Z isAgg22 (tm Z) Z Z ⟨Z, Z⟩), ym Z Z Z, yp Z (pu_indexAddrM Z underlying22 sizeOf49 (tm Z) (tm Z) c808 Z), stepg_plain Z (op_loadV1 Z isAgg49 (tm Z) Z ⟨Z, Z⟩), ym Z Z Z, yp Z (pu_indexAddrM Z underlying49 sizeOf9 (tm Z) (tm Z) c809 Z), stepg_plain Z (op_loadV1 Z isAgg9 (tm Z) Z ⟨Z, Z⟩), yp Z (fa Z underlying24 Z sizeOf22 Z Z Z), stepg_plain Z (op_load1 (i := 0) Z isAgg22 (tm Z) Z Z ⟨Z, Z⟩), ym Z Z Z, yp Z (pu_indexAddrM Z underlying22 sizeOf49 (tm Z) (tm Z) c810 Z), stepg_plain Z (op_loadV1 Z isAgg49 (tm Z) Z ⟨Z, Z⟩), ym Z Z Z, yp Z (pu_indexAddrM Z underlying49 sizeOf9 (tm Z) (tm Z) c811 Z), stepg_plain Z (op_loadV1 Z isAgg9 (tm Z) Z ⟨Z, Z⟩), yp Z (pu_str (v := .bool (!decide ((ix (ix a.Cmds s748.i) s803.k) = (ix (ix b.Cmds s748.i) s803.k)))) Z Z (tm Z) (tm Z) Z), trivial⟩
       refine aw_cond (b := (!decide ((ix (ix a.Cmds s748.i) s803.k) = (ix (ix b.Cmds s748.i) s803.k)))) (tm Z) (fun hb812 => ?_) (fun hb812 => ?_)
       ·replace h := ite_f (ndec_t hb812) h
        refine xr (xa (.bool false) Z (pu_assign Z (AEv.bool _)) (xe (aw_ret ?_)))
        obtain rfl := some_of h
        have h := congrArg some (hx804 _ rfl)
        obtain rfl := some_of h
        have h := onSum_inr h783
        obtain rfl := some_of h
        have h := congrArg some (hx749 _ rfl)
        obtain rfl := some_of h
        have h := onSum_inr h614
        obtain rfl := some_of h
        exact ⟨[.bool false], _, [], ⟨(tm Z), trivial⟩, vr, Weak.mkL [] (by decide) trivial trivial, ⟨Z, Z⟩⟩
       ·replace h := ite_t (ndec_f hb812) h
        refine aw_skip (aw_region (xm Z Z Z (xa (.i (IntKind.wrap .i64 (s803.k + 1))) Z (pu_int (v := .i (IntKind.wrap .i64 (s803.k + 1))) Z Z (tm Z) (AEv.int _ _) Z) (xm Z Z Z (xe ?_)))))
        obtain rfl := some_of h
        exact ⟨_, (), Z, Weak.mkL [0, 1] (by decide) ⟨⟨_, Z, ⟨vr, trivial⟩, Z⟩, ⟨_, Z, ⟨vr, trivial⟩, Z⟩, trivial⟩ ⟨tm Z, tm Z, tm Z, (AEv.le (tm Z) vr), trivial⟩⟩
      ·replace h := ite_f (dec_f hb813) h
       refine aw_exit ?_
       obtain rfl := some_of h
       have h := congrArg some (hx804 _ rfl)
       exact ⟨(), (), (some_of h).symm, Weak.mkL [0, 1] (by decide) ⟨⟨_, Z, ⟨vr, trivial⟩, Z⟩, ⟨_, Z, ⟨vr, trivial⟩, Z⟩, trivial⟩ ⟨tm Z, tm Z, tm Z, trivial⟩⟩
   ·replace h := ite_f (dec_f hb816) h
    refine aw_exit ?_
    obtain rfl := some_of h
    have h := congrArg some (hx749 _ rfl)
    exact ⟨(), (), (some_of h).symm, Weak.mkL [] (by decide) trivial trivial⟩

end Go.Pu
