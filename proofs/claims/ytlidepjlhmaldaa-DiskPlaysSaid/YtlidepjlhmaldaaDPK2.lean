/- Printed by lift.py: the functions come to them. -/
import Derived.Test.YtlidepjlhmaldaaLiftW
import Derived.Test.YtlidepjlhmaldaaDPK1
set_option maxRecDepth 100000
set_option maxHeartbeats 0
namespace Go.Pu
open Go.Lift Go.Proofs.Try Go.RowKit Go.Proofs

theorem mewsref16.Sync.ok {d : api.Disk} {name : List UInt8} {r : api.Disk × Int} (h : mewsref16.Sync d name = some r) : Go.Lift.Spec prog 35 [.agg [.sl .no 3 (d.Files.map api.File.av), .sl .no 3 (d.Faults.map api.Fault.av)], .str name] [] (fun v H => v = .tup [.agg [.sl .no 3 (r.1.Files.map api.File.av), .sl .no 3 (r.1.Faults.map api.Fault.av)], .i r.2] ∧ H = []) := by
 unfold mewsref16.Sync at h
 refine Go.Lift.Spec.of_body (rs := [.cell 4 25, .tmp 5]) func35 Z Z (nb Z) Z (xr (xc Z (op_box (cs := [.sl .no 3 (d.Files.map api.File.av), .sl .no 3 (d.Faults.map api.Fault.av)]) (v := .agg [.sl .no 3 (d.Files.map api.File.av), .sl .no 3 (d.Faults.map api.Fault.av)]) Z (tm Z) Z Z ?_)))
 intro p12
 refine xc Z (op_alloc (cs := [.sl .full 3 (([] : List api.File).map api.File.av), .sl .full 3 (([] : List api.Fault).map api.Fault.av)]) (v := .agg [.sl .full 3 (([] : List api.File).map api.File.av), .sl .full 3 (([] : List api.Fault).map api.Fault.av)]) Z zeroValue25 Z Z Z ?_)
 intro p13
 refine xa (.i 0) Z (pu_assign Z (AEv.int _ _)) (xe (xr (xc Z (op_loadN (i := 1) Z isAgg25 sizeOf25 (tm Z) Z (nb Z) Z (xm Z Z Z ?_)))))
 obtain ⟨r14, r14e, h⟩ := bind_some h
 refine xc Z (op_call (vs := [.agg [.sl .no 3 (d.Files.map api.File.av), .sl .no 3 (d.Faults.map api.Fault.av)], .str name]) (H := []) Z call16 ⟨(tm Z), (tm Z), trivial⟩ (List.Perm.refl _) (mewsref16.Find.ok r14e) ?_)
 rintro _ _ ⟨rfl, rfl⟩
 refine xm Z Z Z (xa (.agg [.str r14.1.Name, .str r14.1.Data, .i r14.1.Synced]) Z (pu_extract Z (tm Z) (nb Z) Z) (xa (.bool r14.2) Z (pu_extract Z (tm Z) (nb Z) Z) (xc Z (op_alloc (cs := [.str ([] : List UInt8), .str ([] : List UInt8), .i 0]) (v := .agg [.str ([] : List UInt8), .str ([] : List UInt8), .i 0]) Z zeroValue48 Z Z Z ?_))))
 intro p15
 refine ac0 Z Z (op_store (i := 0) (cs' := [.str r14.1.Name, .str r14.1.Data, .i r14.1.Synced]) Z sizeOf48 (tm Z) (v := .agg [.str r14.1.Name, .str r14.1.Data, .i r14.1.Synced]) (tm Z) Z Z Z (nb Z) Z (xm Z Z Z (xe (aw_seq (xr (xm Z Z Z (xa (.bool (!r14.2)) Z (pu_not Z (tm Z)) (xe (aw_cond (b := (!r14.2)) (tm Z) (fun hb22 => ?_) (fun hb22 => ?_))))))))))
 ·replace h := ite_t hb22 h
  refine xr (xc Z (op_loadN (i := 2) Z isAgg25 sizeOf25 (tm Z) Z (nb Z) Z (ac0 Z Z (op_store (i := 1) (cs' := [.sl .no 3 (d.Files.map api.File.av), .sl .no 3 (d.Faults.map api.Fault.av)]) Z sizeOf25 (tm Z) (v := .agg [.sl .no 3 (d.Files.map api.File.av), .sl .no 3 (d.Faults.map api.Fault.av)]) (tm Z) Z Z Z (nb Z) Z (xa (.i 8) Z (pu_assign Z (AEv.int _ _)) (xe (aw_ret ?_)))))))
  obtain rfl := some_of h
  exact ⟨[.agg [.sl .no 3 (d.Files.map api.File.av), .sl .no 3 (d.Faults.map api.Fault.av)], .i 8], .tup [.agg [.sl .no 3 (d.Files.map api.File.av), .sl .no 3 (d.Faults.map api.Fault.av)], .i 8], [], ⟨(CellOk.agg 1 (tm Z) Z isAgg25 sizeOf25 (nb Z) Z), (tm Z), trivial⟩, (AV.Le.tup cr), Weak.mkL [] (by decide) trivial trivial, ⟨Z, Z⟩⟩
 ·replace h := ite_fb hb22 h
  refine aw_skip (xr (xc Z (op_loadN (i := 2) Z isAgg25 sizeOf25 (tm Z) Z (nb Z) Z (xm Z Z Z ?_))))
  obtain ⟨r16, r16e, h⟩ := bind_some h
  refine xc Z (op_call (vs := [.agg [.sl .no 3 (d.Files.map api.File.av), .sl .no 3 (d.Faults.map api.Fault.av)], .str name, .i 2]) (H := []) Z call52 ⟨(tm Z), (tm Z), (AEv.int _ _), trivial⟩ (List.Perm.refl _) (mewsref16.Meets.ok r16e) ?_)
  rintro _ _ ⟨t17, rfl, rfl⟩
  refine xm Z Z Z (xa (.agg [.sl .no 3 (r16.1.Files.map api.File.av), .sl (.own t17) 3 (r16.1.Faults.map api.Fault.av)]) Z (pu_extract Z (tm Z) (nb Z) Z) (xa (.agg [.str r16.2.1.Name, .i r16.2.1.Kind, .i r16.2.1.Short]) Z (pu_extract Z (tm Z) (nb Z) Z) (xa (.bool r16.2.2) Z (pu_extract Z (tm Z) (nb Z) Z) (xc Z (op_alloc (cs := [.str ([] : List UInt8), .i 0, .i 0]) (v := .agg [.str ([] : List UInt8), .i 0, .i 0]) Z zeroValue70 Z Z Z ?_)))))
  intro p18
  refine ac0 Z Z (op_store (i := 4) (cs' := [.sl .no 3 (r16.1.Files.map api.File.av), .sl (.own t17) 3 (r16.1.Faults.map api.Fault.av)]) Z sizeOf25 (tm Z) (v := .agg [.sl .no 3 (r16.1.Files.map api.File.av), .sl (.own t17) 3 (r16.1.Faults.map api.Fault.av)]) (tm Z) Z Z Z (nb Z) Z (ac0 Z Z (op_store (i := 0) (cs' := [.str r16.2.1.Name, .i r16.2.1.Kind, .i r16.2.1.Short]) Z sizeOf70 (tm Z) (v := .agg [.str r16.2.1.Name, .i r16.2.1.Kind, .i r16.2.1.Short]) (tm Z) Z Z Z (nb Z) Z (xm Z Z Z (xe (aw_seq (xr (xm Z Z Z (xe (aw_cond (b := r16.2.2) (tm Z) (fun hb21 => ?_) (fun hb21 => ?_)))))))))))
  ·replace h := ite_t hb21 h
   refine xr (xc Z (op_loadN (i := 4) Z isAgg25 sizeOf25 (tm Z) Z (nb Z) Z (ac0 Z Z (op_store (i := 3) (cs' := [.sl .no 3 (r16.1.Files.map api.File.av), .sl (.own t17) 3 (r16.1.Faults.map api.Fault.av)]) Z sizeOf25 (tm Z) (v := .agg [.sl .no 3 (r16.1.Files.map api.File.av), .sl (.own t17) 3 (r16.1.Faults.map api.Fault.av)]) (tm Z) Z Z Z (nb Z) Z (xa (.i 15) Z (pu_assign Z (AEv.int _ _)) (xe (aw_ret ?_)))))))
   obtain rfl := some_of h
   exact ⟨[.agg [.sl .no 3 (r16.1.Files.map api.File.av), .sl (.own t17) 3 (r16.1.Faults.map api.Fault.av)], .i 15], .tup [.agg [.sl .no 3 (r16.1.Files.map api.File.av), .sl .no 3 (r16.1.Faults.map api.Fault.av)], .i 15], [], ⟨(CellOk.agg 3 (tm Z) Z isAgg25 sizeOf25 (nb Z) Z), (tm Z), trivial⟩, (AV.Le.tup ⟨(AV.Le.agg ⟨vr, (AV.Le.forget _ _ _), trivial⟩), vr, trivial⟩), Weak.mkL [] (by decide) trivial trivial, ⟨Z, Z⟩⟩
  ·replace h := ite_fb hb21 h
   refine aw_skip (xr (xa (.ptr p15 1) Z (fa Z underlying48 Z sizeOf9 Z Z Z) (xc Z (op_load1 (i := 2) Z isAgg9 (tm Z) Z Z (xa (.i (r14.1.Data.length : Int)) Z (pu_strLen Z underlying9 (tm Z)) (xa (.ptr p15 2) Z (fa Z underlying48 Z sizeOf3 Z Z Z) (ac0 Z Z (op_store (i := 2) (cs' := [.str r14.1.Name, .str r14.1.Data, .i (r14.1.Data.length : Int)]) Z sizeOf3 (tm Z) (v := .i (r14.1.Data.length : Int)) (tm Z) Z Z Z (nb Z) Z (xe (aw_seq ?_))))))))))
   refine aw_region (xc Z (op_loadN (i := 4) Z isAgg25 sizeOf25 (tm Z) Z (nb Z) Z (xc Z (op_loadN (i := 2) Z isAgg48 sizeOf48 (tm Z) Z (nb Z) Z ?_))))
   obtain ⟨r19, r19e, h⟩ := bind_some h
   refine xc Z (op_call (vs := [.agg [.sl .no 3 (r16.1.Files.map api.File.av), .sl .no 3 (r16.1.Faults.map api.Fault.av)], .agg [.str r14.1.Name, .str r14.1.Data, .i (r14.1.Data.length : Int)]]) (H := []) Z call53 ⟨(AEv.le (tm Z) (AV.Le.agg ⟨vr, (AV.Le.forget _ _ _), trivial⟩)), (tm Z), trivial⟩ (List.Perm.refl _) (mewsref16.with_.ok r19e) ?_)
   rintro _ _ ⟨t20, rfl, rfl⟩
   refine ac0 Z Z (op_store (i := 4) (cs' := [.sl (.own t20) 3 (r19.Files.map api.File.av), .sl .no 3 (r19.Faults.map api.Fault.av)]) Z sizeOf25 (tm Z) (v := .agg [.sl (.own t20) 3 (r19.Files.map api.File.av), .sl .no 3 (r19.Faults.map api.Fault.av)]) (tm Z) Z Z Z (nb Z) Z (xa (.i 0) Z (pu_assign Z (AEv.int _ _)) (xe (aw_ret ?_))))
   obtain rfl := some_of h
   exact ⟨[.agg [.sl (.own t20) 3 (r19.Files.map api.File.av), .sl .no 3 (r19.Faults.map api.Fault.av)], .i 0], .tup [.agg [.sl .no 3 (r19.Files.map api.File.av), .sl .no 3 (r19.Faults.map api.Fault.av)], .i 0], [], ⟨(CellOk.agg 4 (tm Z) Z isAgg25 sizeOf25 (nb Z) Z), (tm Z), trivial⟩, (AV.Le.tup ⟨(AV.Le.agg ⟨(AV.Le.forget _ _ _), vr, trivial⟩), vr, trivial⟩), Weak.mkL [] (by decide) trivial trivial, ⟨Z, Z⟩⟩

theorem mewsref16.Remove.ok {d : api.Disk} {name : List UInt8} {r : api.Disk} (h : mewsref16.Remove d name = some r) : Go.Lift.Spec prog 37 [.agg [.sl .no 3 (d.Files.map api.File.av), .sl .no 3 (d.Faults.map api.Fault.av)], .str name] [] (fun v H => ∃ n0, v = .agg [.sl (.own n0) 3 (r.Files.map api.File.av), .sl .no 3 (r.Faults.map api.Fault.av)] ∧ H = [(n0, .spare)]) := by
 unfold mewsref16.Remove at h
 refine Go.Lift.Spec.of_body (rs := [.cell 4 25]) func37 Z Z (nb Z) Z (xr (xc Z (op_box (cs := [.sl .no 3 (d.Files.map api.File.av), .sl .no 3 (d.Faults.map api.Fault.av)]) (v := .agg [.sl .no 3 (d.Files.map api.File.av), .sl .no 3 (d.Faults.map api.Fault.av)]) Z (tm Z) Z Z ?_)))
 intro p120
 refine xc Z (op_alloc (cs := [.sl .full 3 (([] : List api.File).map api.File.av), .sl .full 3 (([] : List api.Fault).map api.Fault.av)]) (v := .agg [.sl .full 3 (([] : List api.File).map api.File.av), .sl .full 3 (([] : List api.Fault).map api.Fault.av)]) Z zeroValue25 Z Z Z ?_)
 intro p121
 refine xe (xr (xa (.ptr p120 1) Z (fa Z underlying25 Z sizeOf23 Z Z Z) (xc Z (op_load1 (i := 1) Z isAgg23 (tm Z) Z Z (xa (.agg [.sl .full 3 (([] : List api.File).map api.File.av), .sl .no 3 (d.Faults.map api.Fault.av)]) Z (pu_build (zs := [.sl .full 3 (([] : List api.File).map api.File.av), .sl .full 3 (([] : List api.Fault).map api.Fault.av)]) (szs := [1, 1]) (aparts := [(1, .sl .no 3 (d.Faults.map api.Fault.av))]) (cs := [.sl .full 3 (([] : List api.File).map api.File.av), .sl .no 3 (d.Faults.map api.Fault.av)]) Z underlying25 zeroValue25 Z ⟨sizeOf22, sizeOf23, trivial⟩ ⟨Z, (tm Z), trivial⟩ Z) (xc Z (op_alloc (cs := [.sl .full 3 (([] : List api.File).map api.File.av), .sl .full 3 (([] : List api.Fault).map api.Fault.av)]) (v := .agg [.sl .full 3 (([] : List api.File).map api.File.av), .sl .full 3 (([] : List api.Fault).map api.Fault.av)]) Z zeroValue25 Z Z Z ?_)))))))
 intro p122
 refine ac0 Z Z (op_store (i := 0) (cs' := [.sl .full 3 (([] : List api.File).map api.File.av), .sl .no 3 (d.Faults.map api.Fault.av)]) Z sizeOf25 (tm Z) (v := .agg [.sl .full 3 (([] : List api.File).map api.File.av), .sl .no 3 (d.Faults.map api.Fault.av)]) (tm Z) Z Z Z (nb Z) Z (xe (xr (xc Z (op_loadN (i := 2) Z isAgg25 sizeOf25 (tm Z) Z (nb Z) Z ?_)))))
 obtain ⟨r123, r123e, h⟩ := bind_some h
 refine xc Z (op_call (vs := [.agg [.sl .no 3 (d.Files.map api.File.av), .sl .no 3 (d.Faults.map api.Fault.av)]]) (H := []) Z call18 ⟨(tm Z), trivial⟩ (List.Perm.refl _) (mewsref16.Files.ok r123e) ?_)
 rintro _ _ ⟨t124, rfl, rfl⟩
 refine xm Z Z Z (xe ?_)
 obtain ⟨s180, s180e, h182⟩ := bind_some h
 refine aw_meet (ν := Nat) (fun v => [(4, .ptr p121 0), (5, .ptr p122 0)]) (fun v => [(p121, .cells [.sl .full 3 (([] : List api.File).map api.File.av), .sl .full 3 (([] : List api.Fault).map api.Fault.av)]), (p122, .cells [.sl (.own v) 3 (s180.map api.File.av), .sl .no 3 (d.Faults.map api.Fault.av)]), (v, .spare)]) ?_ ?_
 ·have h := s180e
  refine xr (xa (.i 0) Z (pu_assign Z (AEv.int _ _)) (xe (aw_block (aw_claimCell 1 0 Z Z fun t238 => (aw_while (σ := mewsref16.Remove.S0) (ν := Nat) (mewsref16.Remove.body0 r123 name) (fun s218 v => [(1, .str name), (4, .ptr p121 0), (5, .ptr p122 0), (6, .sl (.own t124) 3 (r123.map api.File.av)), (7, .i s218.i)]) (fun s218 v => [(p121, .cells [.sl .full 3 (([] : List api.File).map api.File.av), .sl .full 3 (([] : List api.Fault).map api.Fault.av)]), (p122, .cells [.sl (.own v) 3 (s218.c.map api.File.av), .sl .no 3 (d.Faults.map api.Fault.av)]), (t124, .spare), (v, .spare)]) ⟨0, ([] : List api.File)⟩ t238 _ h (Weak.mkL [3, 2, 1, 0] (by decide) ⟨⟨_, Z, cr, Z⟩, ⟨_, Z, cr, Z⟩, ⟨_, Z, Z⟩, ⟨_, Z, Z⟩, trivial⟩ ⟨tm Z, tm Z, tm Z, tm Z, tm Z, trivial⟩) ?_)))))
  rintro s218 n219 x221 h hx220
  unfold mewsref16.Remove.body0 at h
  refine aw_seq (xr (xm Z Z Z (xm Z Z Z (xa (.i (r123.length : Int)) Z (pu_lenM Z underlying22 (tm Z)) (xa (.bool (decide (s218.i < (r123.length : Int)))) Z (pu_int (v := .bool (decide (s218.i < (r123.length : Int)))) Z Z (tm Z) (tm Z) Z) (xe (aw_cond (b := decide (s218.i < (r123.length : Int))) (tm Z) (fun hb237 => ?_) (fun hb237 => ?_))))))))
  ·replace h := ite_t (dec_t hb237) h
   refine aw_skip ?_
   obtain ⟨s228, s228e, h230⟩ := bind_some h
   refine aw_meet (ν := Nat) (fun v => [(1, .str name), (4, .ptr p121 0), (5, .ptr p122 0), (6, .sl (.own t124) 3 (r123.map api.File.av)), (7, .i s218.i)]) (fun v => [(p121, .cells [.sl .full 3 (([] : List api.File).map api.File.av), .sl .full 3 (([] : List api.Fault).map api.Fault.av)]), (p122, .cells [.sl (.own v) 3 (s228.map api.File.av), .sl .no 3 (d.Faults.map api.Fault.av)]), (t124, .spare), (v, .spare)]) ?_ ?_
   ·have h := s228e
    refine aw_block (xr (xm Z Z Z (xm Z Z Z ?_)))
    obtain ⟨c232, h⟩ := need_of h
    refine xa (.vptr [.str (ix r123 s218.i).Name, .str (ix r123 s218.i).Data, .i (ix r123 s218.i).Synced]) Z (pu_indexAddrM Z underlying22 sizeOf48 (tm Z) (tm Z) c232 Z) (xa (.vptr [.str (ix r123 s218.i).Name, .str (ix r123 s218.i).Data, .i (ix r123 s218.i).Synced]) Z (fa Z underlying48 Z sizeOf9 Z Z Z) (xc Z (op_loadV1 Z isAgg9 (tm Z) Z (xm Z Z Z (xa (.bool (!decide ((ix r123 s218.i).Name = name))) Z (pu_str (v := .bool (!decide ((ix r123 s218.i).Name = name))) Z Z (tm Z) (tm Z) Z) (xe (aw_cond (b := (!decide ((ix r123 s218.i).Name = name))) (tm Z) (fun hb236 => ?_) (fun hb236 => ?_))))))))
    ·replace h := ite_f (ndec_t hb236) h
     obtain ⟨c233, h⟩ := need_of h
     obtain ⟨c234, h⟩ := need_of h
     refine aw_reserve fun p235 => (aw_planR (by decide +kernel) [[], [(2, 0, false)], [], [], [], [], [], [(4, 0, true), (0, 0, true)], [], [(2, 0, true)]] [[7], [], [9], [], [7]] [[[(p235, .resv)], [(p235, .spare)]], [[(p121, .cells [.sl .full 3 (([] : List api.File).map api.File.av), .sl .full 3 (([] : List api.Fault).map api.Fault.av)])]], [[(p122, .cells [.sl (.own n219) 3 (s218.c.map api.File.av), .sl .no 3 (d.Faults.map api.Fault.av)])], [(p122, .cells [.sl (.own p235) 3 ((s218.c ++ [(ix r123 s218.i)]).map api.File.av), .sl .no 3 (d.Faults.map api.Fault.av)])]], [[(t124, .spare)]], [[(n219, .spare)], []]] [.ptr p122 0, .sl (.own n219) 3 (s218.c.map api.File.av), .sl (.own t124) 3 (r123.map api.File.av), .i s218.i, .vptr [.str (ix r123 s218.i).Name, .str (ix r123 s218.i).Data, .i (ix r123 s218.i).Synced], .agg [.str (ix r123 s218.i).Name, .str (ix r123 s218.i).Data, .i (ix r123 s218.i).Synced], .sl .full 3 ([(ix r123 s218.i)].map api.File.av), .sl (.own p235) 3 ((s218.c ++ [(ix r123 s218.i)]).map api.File.av), .ptr p122 0, .un] (by decide +kernel) Z Z ?_ ?_)
     ·exact ⟨yp Z (fa Z underlying25 Z sizeOf22 Z Z Z), stepg_plain Z (op_load1 (i := 0) Z isAgg22 (tm Z) Z Z ⟨Z, Z⟩), ym Z Z Z, ym Z Z Z, yp Z (pu_indexAddrM Z underlying22 sizeOf48 (tm Z) (tm Z) c233 Z), stepg_plain Z (op_loadVN Z isAgg48 sizeOf48 (tm Z) (nb Z) Z ⟨Z, Z⟩), stepg_plain Z (op_buildSlice (xs := ([(ix r123 s218.i)] : List api.File).map api.File.av) (aparts := [(0, .agg [.str (ix r123 s218.i).Name, .str (ix r123 s218.i).Data, .i (ix r123 s218.i).Synced])]) Z underlying22 sizeOf48 zeroValue48 (by decide) (by decide) ⟨Z, (tm Z), trivial⟩ Z Z Z ⟨Z, Z⟩), stepg_plain Z (aop_settleS (op_appendOM (q := 0) Z underlying22 underlying22 (.inl Z) typeInfo48 Z Z Z (by decide) (tm Z) Z (given_sl (tm Z)) c234 fun t => ⟨t, Z, Z⟩) ⟨Z, Z⟩), yp Z (fa Z underlying25 Z sizeOf22 Z Z Z), stepg_plain Z (op_store (i := 0) (cs' := [.sl (.own p235) 3 ((s218.c ++ [(ix r123 s218.i)]).map api.File.av), .sl .no 3 (d.Faults.map api.Fault.av)]) Z sizeOf22 (tm Z) (v := .sl (.own p235) 3 ((s218.c ++ [(ix r123 s218.i)]).map api.File.av)) (tm Z) Z Z Z (nb Z) Z ⟨Z, Z⟩), trivial⟩
     obtain rfl := some_of h
     exact ⟨p235, Weak.mkL [1, 2, 3, 0] (by decide) ⟨⟨_, Z, cr, Z⟩, ⟨_, Z, ⟨vr, vr, trivial⟩, Z⟩, ⟨_, Z, Z⟩, ⟨_, Z, Z⟩, trivial⟩ ⟨tm Z, tm Z, tm Z, tm Z, tm Z, trivial⟩⟩
    ·replace h := ite_t (ndec_f hb236) h
     refine aw_skip ?_
     obtain rfl := some_of h
     exact ⟨n219, Weak.mkL [0, 1, 2, 3] (by decide) ⟨⟨_, Z, cr, Z⟩, ⟨_, Z, cr, Z⟩, ⟨_, Z, Z⟩, ⟨_, Z, Z⟩, trivial⟩ ⟨tm Z, tm Z, tm Z, tm Z, tm Z, trivial⟩⟩
   ·intro n229
    have h := h230
    refine aw_region (xm Z Z Z (xa (.i (IntKind.wrap .i64 (s218.i + 1))) Z (pu_int (v := .i (IntKind.wrap .i64 (s218.i + 1))) Z Z (tm Z) (AEv.int _ _) Z) (xm Z Z Z (xe ?_))))
    obtain rfl := some_of h
    exact ⟨_, n229, Z, Weak.mkL [0, 1, 2, 3] (by decide) ⟨⟨_, Z, cr, Z⟩, ⟨_, Z, cr, Z⟩, ⟨_, Z, Z⟩, ⟨_, Z, Z⟩, trivial⟩ ⟨tm Z, tm Z, tm Z, tm Z, (AEv.le (tm Z) vr), trivial⟩⟩
  ·replace h := ite_f (dec_f hb237) h
   refine aw_exit ?_
   obtain rfl := some_of h
   have h := congrArg some (hx220 _ rfl)
   obtain rfl := some_of h
   exact ⟨n219, Weak.mkL [0, 1, 3] (by decide) ⟨⟨_, Z, cr, Z⟩, ⟨_, Z, cr, Z⟩, ⟨_, Z, Z⟩, trivial⟩ ⟨tm Z, tm Z, trivial⟩⟩
 ·intro n181
  have h := h182
  refine xr (xc Z (op_loadN (i := 1) Z isAgg25 sizeOf25 (tm Z) Z (nb Z) Z (ac0 Z Z (op_store (i := 0) (cs' := [.sl (.own n181) 3 (s180.map api.File.av), .sl .no 3 (d.Faults.map api.Fault.av)]) Z sizeOf25 (tm Z) (v := .agg [.sl (.own n181) 3 (s180.map api.File.av), .sl .no 3 (d.Faults.map api.Fault.av)]) (tm Z) Z Z Z (nb Z) Z (xe (aw_ret ?_))))))
  obtain rfl := some_of h
  exact ⟨[.agg [.sl (.own n181) 3 (s180.map api.File.av), .sl .no 3 (d.Faults.map api.Fault.av)]], _, [(n181, .spare)], ⟨(CellOk.agg 0 (tm Z) Z isAgg25 sizeOf25 (nb Z) Z), trivial⟩, vr, Weak.mkL [2] (by decide) ⟨⟨_, Z, Z⟩, trivial⟩ trivial, ⟨n181, Z, Z⟩⟩

theorem mewsref16.Rename.ok {d : api.Disk} {from_ : List UInt8} {to : List UInt8} {r : api.Disk × Int} (h : mewsref16.Rename d from_ to = some r) : Go.Lift.Spec prog 36 [.agg [.sl .no 3 (d.Files.map api.File.av), .sl .no 3 (d.Faults.map api.Fault.av)], .str from_, .str to] [] (fun v H => v = .tup [.agg [.sl .no 3 (r.1.Files.map api.File.av), .sl .no 3 (r.1.Faults.map api.Fault.av)], .i r.2] ∧ H = []) := by
 unfold mewsref16.Rename at h
 refine Go.Lift.Spec.of_body (rs := [.cell 6 25, .tmp 7]) func36 Z Z (nb Z) Z (xr (xc Z (op_box (cs := [.sl .no 3 (d.Files.map api.File.av), .sl .no 3 (d.Faults.map api.Fault.av)]) (v := .agg [.sl .no 3 (d.Files.map api.File.av), .sl .no 3 (d.Faults.map api.Fault.av)]) Z (tm Z) Z Z ?_)))
 intro p158
 refine xc Z (op_alloc (cs := [.sl .full 3 (([] : List api.File).map api.File.av), .sl .full 3 (([] : List api.Fault).map api.Fault.av)]) (v := .agg [.sl .full 3 (([] : List api.File).map api.File.av), .sl .full 3 (([] : List api.Fault).map api.Fault.av)]) Z zeroValue25 Z Z Z ?_)
 intro p159
 refine xa (.i 0) Z (pu_assign Z (AEv.int _ _)) (xe (xr (xc Z (op_loadN (i := 1) Z isAgg25 sizeOf25 (tm Z) Z (nb Z) Z (xm Z Z Z ?_)))))
 obtain ⟨r160, r160e, h⟩ := bind_some h
 refine xc Z (op_call (vs := [.agg [.sl .no 3 (d.Files.map api.File.av), .sl .no 3 (d.Faults.map api.Fault.av)], .str from_]) (H := []) Z call16 ⟨(tm Z), (tm Z), trivial⟩ (List.Perm.refl _) (mewsref16.Find.ok r160e) ?_)
 rintro _ _ ⟨rfl, rfl⟩
 refine xm Z Z Z (xa (.agg [.str r160.1.Name, .str r160.1.Data, .i r160.1.Synced]) Z (pu_extract Z (tm Z) (nb Z) Z) (xa (.bool r160.2) Z (pu_extract Z (tm Z) (nb Z) Z) (xc Z (op_alloc (cs := [.str ([] : List UInt8), .str ([] : List UInt8), .i 0]) (v := .agg [.str ([] : List UInt8), .str ([] : List UInt8), .i 0]) Z zeroValue48 Z Z Z ?_))))
 intro p161
 refine ac0 Z Z (op_store (i := 0) (cs' := [.str r160.1.Name, .str r160.1.Data, .i r160.1.Synced]) Z sizeOf48 (tm Z) (v := .agg [.str r160.1.Name, .str r160.1.Data, .i r160.1.Synced]) (tm Z) Z Z Z (nb Z) Z (xm Z Z Z (xe (aw_seq (xr (xm Z Z Z (xa (.bool (!r160.2)) Z (pu_not Z (tm Z)) (xe (aw_cond (b := (!r160.2)) (tm Z) (fun hb314 => ?_) (fun hb314 => ?_))))))))))
 ·replace h := ite_t hb314 h
  refine xr (xc Z (op_loadN (i := 2) Z isAgg25 sizeOf25 (tm Z) Z (nb Z) Z (ac0 Z Z (op_store (i := 1) (cs' := [.sl .no 3 (d.Files.map api.File.av), .sl .no 3 (d.Faults.map api.Fault.av)]) Z sizeOf25 (tm Z) (v := .agg [.sl .no 3 (d.Files.map api.File.av), .sl .no 3 (d.Faults.map api.Fault.av)]) (tm Z) Z Z Z (nb Z) Z (xa (.i 8) Z (pu_assign Z (AEv.int _ _)) (xe (aw_ret ?_)))))))
  obtain rfl := some_of h
  exact ⟨[.agg [.sl .no 3 (d.Files.map api.File.av), .sl .no 3 (d.Faults.map api.Fault.av)], .i 8], .tup [.agg [.sl .no 3 (d.Files.map api.File.av), .sl .no 3 (d.Faults.map api.Fault.av)], .i 8], [], ⟨(CellOk.agg 1 (tm Z) Z isAgg25 sizeOf25 (nb Z) Z), (tm Z), trivial⟩, (AV.Le.tup cr), Weak.mkL [] (by decide) trivial trivial, ⟨Z, Z⟩⟩
 ·replace h := ite_fb hb314 h
  refine aw_skip (xr (xc Z (op_loadN (i := 2) Z isAgg25 sizeOf25 (tm Z) Z (nb Z) Z (xm Z Z Z ?_))))
  obtain ⟨r162, r162e, h⟩ := bind_some h
  refine xc Z (op_call (vs := [.agg [.sl .no 3 (d.Files.map api.File.av), .sl .no 3 (d.Faults.map api.Fault.av)], .str from_, .i 3]) (H := []) Z call52 ⟨(tm Z), (tm Z), (AEv.int _ _), trivial⟩ (List.Perm.refl _) (mewsref16.Meets.ok r162e) ?_)
  rintro _ _ ⟨t163, rfl, rfl⟩
  refine xm Z Z Z (xa (.agg [.sl .no 3 (r162.1.Files.map api.File.av), .sl (.own t163) 3 (r162.1.Faults.map api.Fault.av)]) Z (pu_extract Z (tm Z) (nb Z) Z) (xa (.agg [.str r162.2.1.Name, .i r162.2.1.Kind, .i r162.2.1.Short]) Z (pu_extract Z (tm Z) (nb Z) Z) (xa (.bool r162.2.2) Z (pu_extract Z (tm Z) (nb Z) Z) (xc Z (op_alloc (cs := [.str ([] : List UInt8), .i 0, .i 0]) (v := .agg [.str ([] : List UInt8), .i 0, .i 0]) Z zeroValue70 Z Z Z ?_)))))
  intro p164
  refine ac0 Z Z (op_store (i := 4) (cs' := [.sl .no 3 (r162.1.Files.map api.File.av), .sl (.own t163) 3 (r162.1.Faults.map api.Fault.av)]) Z sizeOf25 (tm Z) (v := .agg [.sl .no 3 (r162.1.Files.map api.File.av), .sl (.own t163) 3 (r162.1.Faults.map api.Fault.av)]) (tm Z) Z Z Z (nb Z) Z (ac0 Z Z (op_store (i := 0) (cs' := [.str r162.2.1.Name, .i r162.2.1.Kind, .i r162.2.1.Short]) Z sizeOf70 (tm Z) (v := .agg [.str r162.2.1.Name, .i r162.2.1.Kind, .i r162.2.1.Short]) (tm Z) Z Z Z (nb Z) Z (xm Z Z Z (xe (aw_seq (xr (xm Z Z Z (xe (aw_cond (b := r162.2.2) (tm Z) (fun hb313 => ?_) (fun hb313 => ?_)))))))))))
  ·replace h := ite_t hb313 h
   refine xr (xc Z (op_loadN (i := 4) Z isAgg25 sizeOf25 (tm Z) Z (nb Z) Z (ac0 Z Z (op_store (i := 3) (cs' := [.sl .no 3 (r162.1.Files.map api.File.av), .sl (.own t163) 3 (r162.1.Faults.map api.Fault.av)]) Z sizeOf25 (tm Z) (v := .agg [.sl .no 3 (r162.1.Files.map api.File.av), .sl (.own t163) 3 (r162.1.Faults.map api.Fault.av)]) (tm Z) Z Z Z (nb Z) Z (xa (.i 15) Z (pu_assign Z (AEv.int _ _)) (xe (aw_ret ?_)))))))
   obtain rfl := some_of h
   exact ⟨[.agg [.sl .no 3 (r162.1.Files.map api.File.av), .sl (.own t163) 3 (r162.1.Faults.map api.Fault.av)], .i 15], .tup [.agg [.sl .no 3 (r162.1.Files.map api.File.av), .sl .no 3 (r162.1.Faults.map api.Fault.av)], .i 15], [], ⟨(CellOk.agg 3 (tm Z) Z isAgg25 sizeOf25 (nb Z) Z), (tm Z), trivial⟩, (AV.Le.tup ⟨(AV.Le.agg ⟨vr, (AV.Le.forget _ _ _), trivial⟩), vr, trivial⟩), Weak.mkL [] (by decide) trivial trivial, ⟨Z, Z⟩⟩
  ·replace h := ite_fb hb313 h
   refine aw_skip ?_
   obtain ⟨s168, s168e, h169⟩ := bind_some h
   refine aw_meet (ν := Unit) (fun v => [(1, .str from_), (2, .str to), (3, .ptr p158 0), (6, .ptr p159 0), (8, .ptr p161 0)]) (fun v => [(p158, .cells [.sl .no 3 (s168.1.map api.File.av), .sl .no 3 (s168.2.map api.Fault.av)]), (p159, .cells [.sl .full 3 (([] : List api.File).map api.File.av), .sl .full 3 (([] : List api.Fault).map api.Fault.av)]), (p161, .cells [.str r160.1.Name, .str r160.1.Data, .i r160.1.Synced])]) ?_ ?_
   ·have h := s168e
    refine xr (xm Z Z Z (xm Z Z Z (xa (.bool (!decide (from_ = to))) Z (pu_str (v := .bool (!decide (from_ = to))) Z Z (tm Z) (tm Z) Z) (xe (aw_cond (b := (!decide (from_ = to))) (tm Z) (fun hb173 => ?_) (fun hb173 => ?_))))))
    ·replace h := ite_f (ndec_t hb173) h
     refine aw_region (xc Z (op_loadN (i := 4) Z isAgg25 sizeOf25 (tm Z) Z (nb Z) Z (xm Z Z Z ?_)))
     obtain ⟨r171, r171e, h⟩ := bind_some h
     refine xc Z (op_call (vs := [.agg [.sl .no 3 (r162.1.Files.map api.File.av), .sl .no 3 (r162.1.Faults.map api.Fault.av)], .str to]) (H := []) Z call37 ⟨(AEv.le (tm Z) (AV.Le.agg ⟨vr, (AV.Le.forget _ _ _), trivial⟩)), (tm Z), trivial⟩ (List.Perm.refl _) (mewsref16.Remove.ok r171e) ?_)
     rintro _ _ ⟨t172, rfl, rfl⟩
     refine ac0 Z Z (op_store (i := 5) (cs' := [.sl (.own t172) 3 (r171.Files.map api.File.av), .sl .no 3 (r171.Faults.map api.Fault.av)]) Z sizeOf25 (tm Z) (v := .agg [.sl (.own t172) 3 (r171.Files.map api.File.av), .sl .no 3 (r171.Faults.map api.Fault.av)]) (tm Z) Z Z Z (nb Z) Z (xe ?_))
     obtain rfl := some_of h
     exact ⟨(), Weak.mkL [5, 4, 3] (by decide) ⟨⟨_, Z, ⟨(AV.Le.forget _ _ _), vr, trivial⟩, Z⟩, ⟨_, Z, cr, Z⟩, ⟨_, Z, cr, Z⟩, trivial⟩ ⟨tm Z, tm Z, tm Z, tm Z, tm Z, trivial⟩⟩
    ·replace h := ite_t (ndec_f hb173) h
     refine aw_skip ?_
     obtain rfl := some_of h
     exact ⟨(), Weak.mkL [4, 3, 2] (by decide) ⟨⟨_, Z, ⟨vr, (AV.Le.forget _ _ _), trivial⟩, Z⟩, ⟨_, Z, cr, Z⟩, ⟨_, Z, cr, Z⟩, trivial⟩ ⟨tm Z, tm Z, tm Z, tm Z, tm Z, trivial⟩⟩
   ·intro _
    have h := h169
    refine xr (xc Z (op_loadN (i := 0) Z isAgg25 sizeOf25 (tm Z) Z (nb Z) Z ?_))
    obtain ⟨r174, r174e, h⟩ := bind_some h
    refine xc Z (op_call (vs := [.agg [.sl .no 3 (s168.1.map api.File.av), .sl .no 3 (s168.2.map api.Fault.av)]]) (H := []) Z call18 ⟨(tm Z), trivial⟩ (List.Perm.refl _) (mewsref16.Files.ok r174e) ?_)
    rintro _ _ ⟨t175, rfl, rfl⟩
    refine xm Z Z Z (xe (xr (xa (.ptr p158 1) Z (fa Z underlying25 Z sizeOf23 Z Z Z) (xc Z (op_load1 (i := 1) Z isAgg23 (tm Z) Z Z (xa (.agg [.sl .full 3 (([] : List api.File).map api.File.av), .sl .no 3 (s168.2.map api.Fault.av)]) Z (pu_build (zs := [.sl .full 3 (([] : List api.File).map api.File.av), .sl .full 3 (([] : List api.Fault).map api.Fault.av)]) (szs := [1, 1]) (aparts := [(1, .sl .no 3 (s168.2.map api.Fault.av))]) (cs := [.sl .full 3 (([] : List api.File).map api.File.av), .sl .no 3 (s168.2.map api.Fault.av)]) Z underlying25 zeroValue25 Z ⟨sizeOf22, sizeOf23, trivial⟩ ⟨Z, (tm Z), trivial⟩ Z) (xc Z (op_alloc (cs := [.sl .full 3 (([] : List api.File).map api.File.av), .sl .full 3 (([] : List api.Fault).map api.Fault.av)]) (v := .agg [.sl .full 3 (([] : List api.File).map api.File.av), .sl .full 3 (([] : List api.Fault).map api.Fault.av)]) Z zeroValue25 Z Z Z ?_))))))))
    intro p176
    refine ac0 Z Z (op_store (i := 0) (cs' := [.sl .full 3 (([] : List api.File).map api.File.av), .sl .no 3 (s168.2.map api.Fault.av)]) Z sizeOf25 (tm Z) (v := .agg [.sl .full 3 (([] : List api.File).map api.File.av), .sl .no 3 (s168.2.map api.Fault.av)]) (tm Z) Z Z Z (nb Z) Z (xe ?_))
    obtain ⟨s243, s243e, h245⟩ := bind_some h
    refine aw_meet (ν := Nat) (fun v => [(6, .ptr p159 0), (13, .ptr p176 0)]) (fun v => [(p159, .cells [.sl .full 3 (([] : List api.File).map api.File.av), .sl .full 3 (([] : List api.Fault).map api.Fault.av)]), (p176, .cells [.sl (.own v) 3 (s243.map api.File.av), .sl .no 3 (s168.2.map api.Fault.av)]), (v, .spare)]) ?_ ?_
    ·have h := s243e
     refine xr (xa (.i 0) Z (pu_assign Z (AEv.int _ _)) (xe (aw_block (aw_claimCell 0 0 Z Z fun t312 => (aw_while (σ := mewsref16.Rename.S0) (ν := Nat) (mewsref16.Rename.body0 r174 from_ r160 to) (fun s288 v => [(1, .str from_), (2, .str to), (6, .ptr p159 0), (8, .ptr p161 0), (12, .sl (.own t175) 3 (r174.map api.File.av)), (13, .ptr p176 0), (14, .i s288.i)]) (fun s288 v => [(p159, .cells [.sl .full 3 (([] : List api.File).map api.File.av), .sl .full 3 (([] : List api.Fault).map api.Fault.av)]), (p161, .cells [.str s288.c, .str r160.1.Data, .i r160.1.Synced]), (t175, .spare), (p176, .cells [.sl (.own v) 3 (s288.c2.map api.File.av), .sl .no 3 (s168.2.map api.Fault.av)]), (v, .spare)]) ⟨0, r160.1.Name, ([] : List api.File)⟩ t312 _ h (Weak.mkL [4, 5, 2, 1, 0] (by decide) ⟨⟨_, Z, cr, Z⟩, ⟨_, Z, cr, Z⟩, ⟨_, Z, Z⟩, ⟨_, Z, cr, Z⟩, ⟨_, Z, Z⟩, trivial⟩ ⟨tm Z, tm Z, tm Z, tm Z, tm Z, tm Z, tm Z, trivial⟩) ?_)))))
     rintro s288 n289 x291 h hx290
     unfold mewsref16.Rename.body0 at h
     refine aw_seq (xr (xm Z Z Z (xm Z Z Z (xa (.i (r174.length : Int)) Z (pu_lenM Z underlying22 (tm Z)) (xa (.bool (decide (s288.i < (r174.length : Int)))) Z (pu_int (v := .bool (decide (s288.i < (r174.length : Int)))) Z Z (tm Z) (tm Z) Z) (xe (aw_cond (b := decide (s288.i < (r174.length : Int))) (tm Z) (fun hb311 => ?_) (fun hb311 => ?_))))))))
     ·replace h := ite_t (dec_t hb311) h
      refine aw_skip ?_
      obtain ⟨s300, s300e, h302⟩ := bind_some h
      refine aw_meet (ν := Nat) (fun v => [(1, .str from_), (2, .str to), (6, .ptr p159 0), (8, .ptr p161 0), (12, .sl (.own t175) 3 (r174.map api.File.av)), (13, .ptr p176 0), (14, .i s288.i)]) (fun v => [(p159, .cells [.sl .full 3 (([] : List api.File).map api.File.av), .sl .full 3 (([] : List api.Fault).map api.Fault.av)]), (p161, .cells [.str s300.1, .str r160.1.Data, .i r160.1.Synced]), (t175, .spare), (p176, .cells [.sl (.own v) 3 (s300.2.map api.File.av), .sl .no 3 (s168.2.map api.Fault.av)]), (v, .spare)]) ?_ ?_
      ·have h := s300e
       refine aw_block (xr (xm Z Z Z (xm Z Z Z ?_)))
       obtain ⟨c304, h⟩ := need_of h
       refine xa (.vptr [.str (ix r174 s288.i).Name, .str (ix r174 s288.i).Data, .i (ix r174 s288.i).Synced]) Z (pu_indexAddrM Z underlying22 sizeOf48 (tm Z) (tm Z) c304 Z) (xa (.vptr [.str (ix r174 s288.i).Name, .str (ix r174 s288.i).Data, .i (ix r174 s288.i).Synced]) Z (fa Z underlying48 Z sizeOf9 Z Z Z) (xc Z (op_loadV1 Z isAgg9 (tm Z) Z (xm Z Z Z (xa (.bool (decide ((ix r174 s288.i).Name = from_))) Z (pu_str (v := .bool (decide ((ix r174 s288.i).Name = from_))) Z Z (tm Z) (tm Z) Z) (xe (aw_cond (b := decide ((ix r174 s288.i).Name = from_)) (tm Z) (fun hb310 => ?_) (fun hb310 => ?_))))))))
       ·replace h := ite_t (dec_t hb310) h
        refine xr (xm Z Z Z (xa (.ptr p161 0) Z (fa Z underlying48 Z sizeOf9 Z Z Z) (ac0 Z Z (op_store (i := 1) (cs' := [.str to, .str r160.1.Data, .i r160.1.Synced]) Z sizeOf9 (tm Z) (v := .str to) (tm Z) Z Z Z (nb Z) Z (xe (aw_region (xa (.ptr p176 0) Z (fa Z underlying25 Z sizeOf22 Z Z Z) (xc Z (op_load1 (i := 3) Z isAgg22 (tm Z) Z Z (xc Z (op_loadN (i := 1) Z isAgg48 sizeOf48 (tm Z) Z (nb Z) Z ?_)))))))))))
        refine xc Z (op_buildSlice (xs := ([{ r160.1 with Name := to }] : List api.File).map api.File.av) (aparts := [(0, .agg [.str to, .str r160.1.Data, .i r160.1.Synced])]) Z underlying22 sizeOf48 zeroValue48 (by decide) (by decide) ⟨Z, (tm Z), trivial⟩ Z Z Z ?_)
        obtain ⟨c305, h⟩ := need_of h
        refine xc Z (op_appendOM (q := 4) Z underlying22 underlying22 (.inl Z) typeInfo48 Z Z Z (by decide) (tm Z) Z (given_sl (tm Z)) c305 ?_)
        intro t306
        refine xa (.ptr p176 0) Z (fa Z underlying25 Z sizeOf22 Z Z Z) (ac0 Z Z (op_store (i := 3) (cs' := [.sl (.own t306) 3 ((s288.c2 ++ [{ r160.1 with Name := to }]).map api.File.av), .sl .no 3 (s168.2.map api.Fault.av)]) Z sizeOf22 (tm Z) (v := .sl (.own t306) 3 ((s288.c2 ++ [{ r160.1 with Name := to }]).map api.File.av)) (tm Z) Z Z Z (nb Z) Z (xe ?_)))
        obtain rfl := some_of h
        exact ⟨t306, Weak.mkL [0, 1, 2, 3, 4] (by decide) ⟨⟨_, Z, cr, Z⟩, ⟨_, Z, cr, Z⟩, ⟨_, Z, Z⟩, ⟨_, Z, ⟨vr, vr, trivial⟩, Z⟩, ⟨_, Z, Z⟩, trivial⟩ ⟨tm Z, tm Z, tm Z, tm Z, tm Z, tm Z, tm Z, trivial⟩⟩
       ·replace h := ite_f (dec_f hb310) h
        obtain ⟨c307, h⟩ := need_of h
        obtain ⟨c308, h⟩ := need_of h
        refine aw_reserve fun p309 => (aw_planR (by decide +kernel) [[], [(4, 0, false)], [], [], [], [], [], [(5, 0, true), (0, 0, true)], [], [(4, 0, true)]] [[7], [], [], [], [9], [7]] [[[(p309, .resv)], [(p309, .spare)]], [[(p159, .cells [.sl .full 3 (([] : List api.File).map api.File.av), .sl .full 3 (([] : List api.Fault).map api.Fault.av)])]], [[(p161, .cells [.str s288.c, .str r160.1.Data, .i r160.1.Synced])]], [[(t175, .spare)]], [[(p176, .cells [.sl (.own n289) 3 (s288.c2.map api.File.av), .sl .no 3 (s168.2.map api.Fault.av)])], [(p176, .cells [.sl (.own p309) 3 ((s288.c2 ++ [(ix r174 s288.i)]).map api.File.av), .sl .no 3 (s168.2.map api.Fault.av)])]], [[(n289, .spare)], []]] [.ptr p176 0, .sl (.own n289) 3 (s288.c2.map api.File.av), .sl (.own t175) 3 (r174.map api.File.av), .i s288.i, .vptr [.str (ix r174 s288.i).Name, .str (ix r174 s288.i).Data, .i (ix r174 s288.i).Synced], .agg [.str (ix r174 s288.i).Name, .str (ix r174 s288.i).Data, .i (ix r174 s288.i).Synced], .sl .full 3 ([(ix r174 s288.i)].map api.File.av), .sl (.own p309) 3 ((s288.c2 ++ [(ix r174 s288.i)]).map api.File.av), .ptr p176 0, .un] (by decide +kernel) Z Z ?_ ?_)
        ·exact ⟨yp Z (fa Z underlying25 Z sizeOf22 Z Z Z), stepg_plain Z (op_load1 (i := 0) Z isAgg22 (tm Z) Z Z ⟨Z, Z⟩), ym Z Z Z, ym Z Z Z, yp Z (pu_indexAddrM Z underlying22 sizeOf48 (tm Z) (tm Z) c307 Z), stepg_plain Z (op_loadVN Z isAgg48 sizeOf48 (tm Z) (nb Z) Z ⟨Z, Z⟩), stepg_plain Z (op_buildSlice (xs := ([(ix r174 s288.i)] : List api.File).map api.File.av) (aparts := [(0, .agg [.str (ix r174 s288.i).Name, .str (ix r174 s288.i).Data, .i (ix r174 s288.i).Synced])]) Z underlying22 sizeOf48 zeroValue48 (by decide) (by decide) ⟨Z, (tm Z), trivial⟩ Z Z Z ⟨Z, Z⟩), stepg_plain Z (aop_settleS (op_appendOM (q := 0) Z underlying22 underlying22 (.inl Z) typeInfo48 Z Z Z (by decide) (tm Z) Z (given_sl (tm Z)) c308 fun t => ⟨t, Z, Z⟩) ⟨Z, Z⟩), yp Z (fa Z underlying25 Z sizeOf22 Z Z Z), stepg_plain Z (op_store (i := 0) (cs' := [.sl (.own p309) 3 ((s288.c2 ++ [(ix r174 s288.i)]).map api.File.av), .sl .no 3 (s168.2.map api.Fault.av)]) Z sizeOf22 (tm Z) (v := .sl (.own p309) 3 ((s288.c2 ++ [(ix r174 s288.i)]).map api.File.av)) (tm Z) Z Z Z (nb Z) Z ⟨Z, Z⟩), trivial⟩
        obtain rfl := some_of h
        exact ⟨p309, Weak.mkL [1, 2, 3, 4, 0] (by decide) ⟨⟨_, Z, cr, Z⟩, ⟨_, Z, cr, Z⟩, ⟨_, Z, Z⟩, ⟨_, Z, ⟨vr, vr, trivial⟩, Z⟩, ⟨_, Z, Z⟩, trivial⟩ ⟨tm Z, tm Z, tm Z, tm Z, tm Z, tm Z, tm Z, trivial⟩⟩
      ·intro n301
       have h := h302
       refine aw_region (xm Z Z Z (xa (.i (IntKind.wrap .i64 (s288.i + 1))) Z (pu_int (v := .i (IntKind.wrap .i64 (s288.i + 1))) Z Z (tm Z) (AEv.int _ _) Z) (xm Z Z Z (xe ?_))))
       obtain rfl := some_of h
       exact ⟨_, n301, Z, Weak.mkL [0, 1, 2, 3, 4] (by decide) ⟨⟨_, Z, cr, Z⟩, ⟨_, Z, cr, Z⟩, ⟨_, Z, Z⟩, ⟨_, Z, cr, Z⟩, ⟨_, Z, Z⟩, trivial⟩ ⟨tm Z, tm Z, tm Z, tm Z, tm Z, tm Z, (AEv.le (tm Z) vr), trivial⟩⟩
     ·replace h := ite_f (dec_f hb311) h
      refine aw_exit ?_
      obtain rfl := some_of h
      have h := congrArg some (hx290 _ rfl)
      obtain rfl := some_of h
      exact ⟨n289, Weak.mkL [0, 3, 4] (by decide) ⟨⟨_, Z, cr, Z⟩, ⟨_, Z, cr, Z⟩, ⟨_, Z, Z⟩, trivial⟩ ⟨tm Z, tm Z, trivial⟩⟩
    ·intro n244
     have h := h245
     refine xr (xc Z (op_loadN (i := 1) Z isAgg25 sizeOf25 (tm Z) Z (nb Z) Z (ac0 Z Z (op_store (i := 0) (cs' := [.sl (.own n244) 3 (s243.map api.File.av), .sl .no 3 (s168.2.map api.Fault.av)]) Z sizeOf25 (tm Z) (v := .agg [.sl (.own n244) 3 (s243.map api.File.av), .sl .no 3 (s168.2.map api.Fault.av)]) (tm Z) Z Z Z (nb Z) Z (xa (.i 0) Z (pu_assign Z (AEv.int _ _)) (xe (aw_ret ?_)))))))
     obtain rfl := some_of h
     exact ⟨[.agg [.sl (.own n244) 3 (s243.map api.File.av), .sl .no 3 (s168.2.map api.Fault.av)], .i 0], .tup [.agg [.sl .no 3 (s243.map api.File.av), .sl .no 3 (s168.2.map api.Fault.av)], .i 0], [], ⟨(CellOk.agg 0 (tm Z) Z isAgg25 sizeOf25 (nb Z) Z), (tm Z), trivial⟩, (AV.Le.tup ⟨(AV.Le.agg ⟨(AV.Le.forget _ _ _), vr, trivial⟩), vr, trivial⟩), Weak.mkL [] (by decide) trivial trivial, ⟨Z, Z⟩⟩

theorem mewsref16.Cut.ok {d : api.Disk} {name : List UInt8} {n_ : Int} {r : api.Disk × Int} (h : mewsref16.Cut d name n_ = some r) : Go.Lift.Spec prog 38 [.agg [.sl .no 3 (d.Files.map api.File.av), .sl .no 3 (d.Faults.map api.Fault.av)], .str name, .i n_] [] (fun v H => v = .tup [.agg [.sl .no 3 (r.1.Files.map api.File.av), .sl .no 3 (r.1.Faults.map api.Fault.av)], .i r.2] ∧ H = []) := by
 unfold mewsref16.Cut at h
 refine Go.Lift.Spec.of_body (rs := [.cell 6 25, .tmp 7]) func38 Z Z (nb Z) Z (xr (xc Z (op_box (cs := [.sl .no 3 (d.Files.map api.File.av), .sl .no 3 (d.Faults.map api.Fault.av)]) (v := .agg [.sl .no 3 (d.Files.map api.File.av), .sl .no 3 (d.Faults.map api.Fault.av)]) Z (tm Z) Z Z ?_)))
 intro p11
 refine xc Z (op_alloc (cs := [.sl .full 3 (([] : List api.File).map api.File.av), .sl .full 3 (([] : List api.Fault).map api.Fault.av)]) (v := .agg [.sl .full 3 (([] : List api.File).map api.File.av), .sl .full 3 (([] : List api.Fault).map api.Fault.av)]) Z zeroValue25 Z Z Z ?_)
 intro p12
 refine xa (.i 0) Z (pu_assign Z (AEv.int _ _)) (xe (xr (xc Z (op_loadN (i := 1) Z isAgg25 sizeOf25 (tm Z) Z (nb Z) Z (xm Z Z Z ?_)))))
 obtain ⟨r13, r13e, h⟩ := bind_some h
 refine xc Z (op_call (vs := [.agg [.sl .no 3 (d.Files.map api.File.av), .sl .no 3 (d.Faults.map api.Fault.av)], .str name]) (H := []) Z call16 ⟨(tm Z), (tm Z), trivial⟩ (List.Perm.refl _) (mewsref16.Find.ok r13e) ?_)
 rintro _ _ ⟨rfl, rfl⟩
 refine xm Z Z Z (xa (.agg [.str r13.1.Name, .str r13.1.Data, .i r13.1.Synced]) Z (pu_extract Z (tm Z) (nb Z) Z) (xa (.bool r13.2) Z (pu_extract Z (tm Z) (nb Z) Z) (xc Z (op_alloc (cs := [.str ([] : List UInt8), .str ([] : List UInt8), .i 0]) (v := .agg [.str ([] : List UInt8), .str ([] : List UInt8), .i 0]) Z zeroValue48 Z Z Z ?_))))
 intro p14
 refine ac0 Z Z (op_store (i := 0) (cs' := [.str r13.1.Name, .str r13.1.Data, .i r13.1.Synced]) Z sizeOf48 (tm Z) (v := .agg [.str r13.1.Name, .str r13.1.Data, .i r13.1.Synced]) (tm Z) Z Z Z (nb Z) Z (xm Z Z Z (xe (aw_seq (xr (xm Z Z Z (xa (.bool (!r13.2)) Z (pu_not Z (tm Z)) (xe (aw_cond (b := (!r13.2)) (tm Z) (fun hb20 => ?_) (fun hb20 => ?_))))))))))
 ·replace h := ite_t hb20 h
  refine xr (xc Z (op_loadN (i := 2) Z isAgg25 sizeOf25 (tm Z) Z (nb Z) Z (ac0 Z Z (op_store (i := 1) (cs' := [.sl .no 3 (d.Files.map api.File.av), .sl .no 3 (d.Faults.map api.Fault.av)]) Z sizeOf25 (tm Z) (v := .agg [.sl .no 3 (d.Files.map api.File.av), .sl .no 3 (d.Faults.map api.Fault.av)]) (tm Z) Z Z Z (nb Z) Z (xa (.i 8) Z (pu_assign Z (AEv.int _ _)) (xe (aw_ret ?_)))))))
  obtain rfl := some_of h
  exact ⟨[.agg [.sl .no 3 (d.Files.map api.File.av), .sl .no 3 (d.Faults.map api.Fault.av)], .i 8], .tup [.agg [.sl .no 3 (d.Files.map api.File.av), .sl .no 3 (d.Faults.map api.Fault.av)], .i 8], [], ⟨(CellOk.agg 1 (tm Z) Z isAgg25 sizeOf25 (nb Z) Z), (tm Z), trivial⟩, (AV.Le.tup cr), Weak.mkL [] (by decide) trivial trivial, ⟨Z, Z⟩⟩
 ·replace h := ite_fb hb20 h
  refine aw_skip (aw_seq ?_)
  obtain ⟨r15, r15e, h⟩ := bind_some h
  obtain ⟨c16, h⟩ := need_of h
  refine aw_planR (by decide +kernel) [[], [(0, 0, false)], [], [], [(0, 0, false)], [], [], [], [], [(0, 0, true)]] [[9], [], []] [[[(p14, .cells [.str r13.1.Name, .str r13.1.Data, .i r13.1.Synced])], [(p14, .cells [.str r13.1.Name, .str (sub r13.1.Data 0 r15), .i r13.1.Synced])]], [[(p12, .cells [.sl .full 3 (([] : List api.File).map api.File.av), .sl .full 3 (([] : List api.Fault).map api.Fault.av)])]], [[(p11, .cells [.sl .no 3 (d.Files.map api.File.av), .sl .no 3 (d.Faults.map api.Fault.av)])]]] [.ptr p14 1, .str r13.1.Data, .i n_, .ptr p14 1, .str r13.1.Data, .i (r13.1.Data.length : Int), .i r15, .str (sub r13.1.Data 0 r15), .ptr p14 1, .un] (by decide +kernel) Z Z ?_ ?_
  ·exact ⟨yp Z (fa Z underlying48 Z sizeOf9 Z Z Z), stepg_plain Z (op_load1 (i := 0) Z isAgg9 (tm Z) Z Z ⟨Z, Z⟩), ym Z Z Z, yp Z (fa Z underlying48 Z sizeOf9 Z Z Z), stepg_plain Z (op_load1 (i := 0) Z isAgg9 (tm Z) Z Z ⟨Z, Z⟩), yp Z (pu_strLen Z underlying9 (tm Z)), stepg_plain Z (op_call (vs := [.i n_, .i (r13.1.Data.length : Int)]) (H := []) Z call40 ⟨(tm Z), (tm Z), trivial⟩ (R := []) (List.Perm.refl _) (mewsref16.between.ok r15e) (by rintro _ _ ⟨rfl, rfl⟩; exact ⟨Z, Z⟩)), yp Z (pu_strSliceM Z underlying9 (tm Z) Z ⟨_, (tm Z)⟩ c16), yp Z (fa Z underlying48 Z sizeOf9 Z Z Z), stepg_plain Z (op_store (i := 0) (cs' := [.str r13.1.Name, .str (sub r13.1.Data 0 r15), .i r13.1.Synced]) Z sizeOf9 (tm Z) (v := .str (sub r13.1.Data 0 r15)) (tm Z) Z Z Z (nb Z) Z ⟨Z, Z⟩), trivial⟩
  refine xr (xa (.ptr p14 2) Z (fa Z underlying48 Z sizeOf3 Z Z Z) (xc Z (op_load1 (i := 0) Z isAgg3 (tm Z) Z Z (xa (.ptr p14 1) Z (fa Z underlying48 Z sizeOf9 Z Z Z) (xc Z (op_load1 (i := 0) Z isAgg9 (tm Z) Z Z (xa (.i ((sub r13.1.Data 0 r15).length : Int)) Z (pu_strLen Z underlying9 (tm Z)) ?_)))))))
  obtain ⟨r17, r17e, h⟩ := bind_some h
  refine xc Z (op_call (vs := [.i r13.1.Synced, .i ((sub r13.1.Data 0 r15).length : Int)]) (H := []) Z call40 ⟨(tm Z), (tm Z), trivial⟩ (List.Perm.refl _) (mewsref16.between.ok r17e) ?_)
  rintro _ _ ⟨rfl, rfl⟩
  refine xa (.ptr p14 2) Z (fa Z underlying48 Z sizeOf3 Z Z Z) (ac0 Z Z (op_store (i := 0) (cs' := [.str r13.1.Name, .str (sub r13.1.Data 0 r15), .i r17]) Z sizeOf3 (tm Z) (v := .i r17) (tm Z) Z Z Z (nb Z) Z (xe (xr (xc Z (op_loadN (i := 2) Z isAgg25 sizeOf25 (tm Z) Z (nb Z) Z (xc Z (op_loadN (i := 0) Z isAgg48 sizeOf48 (tm Z) Z (nb Z) Z ?_))))))))
  obtain ⟨r18, r18e, h⟩ := bind_some h
  refine xc Z (op_call (vs := [.agg [.sl .no 3 (d.Files.map api.File.av), .sl .no 3 (d.Faults.map api.Fault.av)], .agg [.str r13.1.Name, .str (sub r13.1.Data 0 r15), .i r17]]) (H := []) Z call53 ⟨(tm Z), (tm Z), trivial⟩ (List.Perm.refl _) (mewsref16.with_.ok r18e) ?_)
  rintro _ _ ⟨t19, rfl, rfl⟩
  refine ac0 Z Z (op_store (i := 2) (cs' := [.sl (.own t19) 3 (r18.Files.map api.File.av), .sl .no 3 (r18.Faults.map api.Fault.av)]) Z sizeOf25 (tm Z) (v := .agg [.sl (.own t19) 3 (r18.Files.map api.File.av), .sl .no 3 (r18.Faults.map api.Fault.av)]) (tm Z) Z Z Z (nb Z) Z (xa (.i 0) Z (pu_assign Z (AEv.int _ _)) (xe (aw_ret ?_))))
  obtain rfl := some_of h
  exact ⟨[.agg [.sl (.own t19) 3 (r18.Files.map api.File.av), .sl .no 3 (r18.Faults.map api.Fault.av)], .i 0], .tup [.agg [.sl .no 3 (r18.Files.map api.File.av), .sl .no 3 (r18.Faults.map api.Fault.av)], .i 0], [], ⟨(CellOk.agg 2 (tm Z) Z isAgg25 sizeOf25 (nb Z) Z), (tm Z), trivial⟩, (AV.Le.tup ⟨(AV.Le.agg ⟨(AV.Le.forget _ _ _), vr, trivial⟩), vr, trivial⟩), Weak.mkL [] (by decide) trivial trivial, ⟨Z, Z⟩⟩

theorem mewsref16.Crash.ok {d : api.Disk} {keeps : List api.Keep} {r : api.Disk} (h : mewsref16.Crash d keeps = some r) : Go.Lift.Spec prog 39 [.agg [.sl .no 3 (d.Files.map api.File.av), .sl .no 3 (d.Faults.map api.Fault.av)], .sl .no 2 (keeps.map api.Keep.av)] [] (fun v H => ∃ n0, v = .agg [.sl (.own n0) 3 (r.Files.map api.File.av), .sl .full 3 (r.Faults.map api.Fault.av)] ∧ H = [(n0, .spare)]) := by
 unfold mewsref16.Crash at h
 refine Go.Lift.Spec.of_body (rs := [.cell 4 25]) func39 Z Z (nb Z) Z (xr (xc Z (op_box (cs := [.sl .no 3 (d.Files.map api.File.av), .sl .no 3 (d.Faults.map api.Fault.av)]) (v := .agg [.sl .no 3 (d.Files.map api.File.av), .sl .no 3 (d.Faults.map api.Fault.av)]) Z (tm Z) Z Z ?_)))
 intro p586
 refine xc Z (op_alloc (cs := [.sl .full 3 (([] : List api.File).map api.File.av), .sl .full 3 (([] : List api.Fault).map api.Fault.av)]) (v := .agg [.sl .full 3 (([] : List api.File).map api.File.av), .sl .full 3 (([] : List api.Fault).map api.Fault.av)]) Z zeroValue25 Z Z Z ?_)
 intro p587
 refine xe (xr (xc Z (op_alloc (cs := [.sl .full 3 (([] : List api.File).map api.File.av), .sl .full 3 (([] : List api.Fault).map api.Fault.av)]) (v := .agg [.sl .full 3 (([] : List api.File).map api.File.av), .sl .full 3 (([] : List api.Fault).map api.Fault.av)]) Z zeroValue25 Z Z Z ?_)))
 intro p588
 refine xe (xr (xc Z (op_loadN (i := 2) Z isAgg25 sizeOf25 (tm Z) Z (nb Z) Z ?_)))
 obtain ⟨r589, r589e, h⟩ := bind_some h
 refine xc Z (op_call (vs := [.agg [.sl .no 3 (d.Files.map api.File.av), .sl .no 3 (d.Faults.map api.Fault.av)]]) (H := []) Z call18 ⟨(tm Z), trivial⟩ (List.Perm.refl _) (mewsref16.Files.ok r589e) ?_)
 rintro _ _ ⟨t590, rfl, rfl⟩
 refine xm Z Z Z (xe ?_)
 obtain ⟨s879, s879e, h881⟩ := bind_some h
 refine aw_meet (ν := Nat) (fun v => [(4, .ptr p587 0), (5, .ptr p588 0)]) (fun v => [(p587, .cells [.sl .full 3 (([] : List api.File).map api.File.av), .sl .full 3 (([] : List api.Fault).map api.Fault.av)]), (p588, .cells [.sl (.own v) 3 (s879.map api.File.av), .sl .full 3 (([] : List api.Fault).map api.Fault.av)]), (v, .spare)]) ?_ ?_
 ·have h := s879e
  refine xr (xa (.i 0) Z (pu_assign Z (AEv.int _ _)) (xe (aw_block (aw_claimCell 1 0 Z Z fun t1170 => (aw_while (σ := mewsref16.Crash.S0) (ν := Nat) (mewsref16.Crash.body0 r589 keeps) (fun s1072 v => [(1, .sl .no 2 (keeps.map api.Keep.av)), (4, .ptr p587 0), (5, .ptr p588 0), (6, .sl (.own t590) 3 (r589.map api.File.av)), (7, .i s1072.i)]) (fun s1072 v => [(p587, .cells [.sl .full 3 (([] : List api.File).map api.File.av), .sl .full 3 (([] : List api.Fault).map api.Fault.av)]), (p588, .cells [.sl (.own v) 3 (s1072.c.map api.File.av), .sl .full 3 (([] : List api.Fault).map api.Fault.av)]), (t590, .spare), (v, .spare)]) ⟨0, ([] : List api.File)⟩ t1170 _ h (Weak.mkL [3, 2, 1, 0] (by decide) ⟨⟨_, Z, cr, Z⟩, ⟨_, Z, cr, Z⟩, ⟨_, Z, Z⟩, ⟨_, Z, Z⟩, trivial⟩ ⟨tm Z, tm Z, tm Z, tm Z, tm Z, trivial⟩) ?_)))))
  rintro s1072 n1073 x1075 h hx1074
  unfold mewsref16.Crash.body0 at h
  refine aw_seq (xr (xm Z Z Z (xm Z Z Z (xa (.i (r589.length : Int)) Z (pu_lenM Z underlying22 (tm Z)) (xa (.bool (decide (s1072.i < (r589.length : Int)))) Z (pu_int (v := .bool (decide (s1072.i < (r589.length : Int)))) Z Z (tm Z) (tm Z) Z) (xe (aw_cond (b := decide (s1072.i < (r589.length : Int))) (tm Z) (fun hb1169 => ?_) (fun hb1169 => ?_))))))))
  ·replace h := ite_t (dec_t hb1169) h
   refine aw_skip (aw_seq (aw_block (xr (xm Z Z Z (xm Z Z Z ?_)))))
   obtain ⟨c1077, h⟩ := need_of h
   refine xa (.vptr [.str (ix r589 s1072.i).Name, .str (ix r589 s1072.i).Data, .i (ix r589 s1072.i).Synced]) Z (pu_indexAddrM Z underlying22 sizeOf48 (tm Z) (tm Z) c1077 Z) (xc Z (op_loadVN Z isAgg48 sizeOf48 (tm Z) (nb Z) Z (xc Z (op_alloc (cs := [.str ([] : List UInt8), .str ([] : List UInt8), .i 0]) (v := .agg [.str ([] : List UInt8), .str ([] : List UInt8), .i 0]) Z zeroValue48 Z Z Z ?_))))
   intro p1078
   refine ac0 Z Z (op_store (i := 0) (cs' := [.str (ix r589 s1072.i).Name, .str (ix r589 s1072.i).Data, .i (ix r589 s1072.i).Synced]) Z sizeOf48 (tm Z) (v := .agg [.str (ix r589 s1072.i).Name, .str (ix r589 s1072.i).Data, .i (ix r589 s1072.i).Synced]) (tm Z) Z Z Z (nb Z) Z (xe (xr (xa (.i 0) Z (pu_assign Z (AEv.int _ _)) (xe ?_)))))
   obtain ⟨s1121, s1121e, h1122⟩ := bind_some h
   refine aw_meet (ν := Unit) (fun v => [(1, .sl .no 2 (keeps.map api.Keep.av)), (4, .ptr p587 0), (5, .ptr p588 0), (6, .sl (.own t590) 3 (r589.map api.File.av)), (7, .i s1072.i), (8, .ptr p1078 0), (9, .i s1121)]) (fun v => [(p587, .cells [.sl .full 3 (([] : List api.File).map api.File.av), .sl .full 3 (([] : List api.Fault).map api.Fault.av)]), (p588, .cells [.sl (.own n1073) 3 (s1072.c.map api.File.av), .sl .full 3 (([] : List api.Fault).map api.Fault.av)]), (t590, .spare), (p1078, .cells [.str (ix r589 s1072.i).Name, .str (ix r589 s1072.i).Data, .i (ix r589 s1072.i).Synced]), (n1073, .spare)]) ?_ ?_
   ·have h := s1121e
    refine xr (xm Z Z Z (xa (.i (keeps.length : Int)) Z (pu_lenM Z underlying38 (tm Z)) (xa (.i (IntKind.wrap .i64 ((keeps.length : Int) - 1))) Z (pu_int (v := .i (IntKind.wrap .i64 ((keeps.length : Int) - 1))) Z Z (tm Z) (AEv.int _ _) Z) (xm Z Z Z (xe (aw_block (aw_while (σ := mewsref16.Crash.S2) (ν := Unit) (mewsref16.Crash.body2 keeps r589 s1072) (fun s1150 v => [(1, .sl .no 2 (keeps.map api.Keep.av)), (4, .ptr p587 0), (5, .ptr p588 0), (6, .sl (.own t590) 3 (r589.map api.File.av)), (7, .i s1072.i), (8, .ptr p1078 0), (9, .i s1150.more), (10, .i s1150.k)]) (fun s1150 v => [(p587, .cells [.sl .full 3 (([] : List api.File).map api.File.av), .sl .full 3 (([] : List api.Fault).map api.Fault.av)]), (p588, .cells [.sl (.own n1073) 3 (s1072.c.map api.File.av), .sl .full 3 (([] : List api.Fault).map api.Fault.av)]), (t590, .spare), (p1078, .cells [.str (ix r589 s1072.i).Name, .str (ix r589 s1072.i).Data, .i (ix r589 s1072.i).Synced]), (n1073, .spare)]) ⟨0, IntKind.wrap .i64 ((keeps.length : Int) - 1)⟩ () _ h (Weak.mkL [1, 2, 3, 0, 4] (by decide) ⟨⟨_, Z, cr, Z⟩, ⟨_, Z, cr, Z⟩, ⟨_, Z, Z⟩, ⟨_, Z, cr, Z⟩, ⟨_, Z, Z⟩, trivial⟩ ⟨tm Z, tm Z, tm Z, tm Z, tm Z, tm Z, tm Z, (AEv.le (tm Z) vr), trivial⟩) ?_)))))))
    rintro s1150 _ x1152 h hx1151
    unfold mewsref16.Crash.body2 at h
    refine aw_seq (xr (xm Z Z Z (xa (.bool (decide (0 ≤ s1150.k))) Z (pu_int (v := .bool (decide (0 ≤ s1150.k))) Z Z (tm Z) (AEv.int _ _) Z) (xe (aw_cond (b := decide (0 ≤ s1150.k)) (tm Z) (fun hb1165 => ?_) (fun hb1165 => ?_))))))
    ·replace h := ite_t (dec_t hb1165) h
     refine aw_skip ?_
     obtain ⟨s1158, s1158e, h1159⟩ := bind_some h
     refine aw_meet (ν := Unit) (fun v => [(1, .sl .no 2 (keeps.map api.Keep.av)), (4, .ptr p587 0), (5, .ptr p588 0), (6, .sl (.own t590) 3 (r589.map api.File.av)), (7, .i s1072.i), (8, .ptr p1078 0), (9, .i s1158), (10, .i s1150.k)]) (fun v => [(p587, .cells [.sl .full 3 (([] : List api.File).map api.File.av), .sl .full 3 (([] : List api.Fault).map api.Fault.av)]), (p588, .cells [.sl (.own n1073) 3 (s1072.c.map api.File.av), .sl .full 3 (([] : List api.Fault).map api.Fault.av)]), (t590, .spare), (p1078, .cells [.str (ix r589 s1072.i).Name, .str (ix r589 s1072.i).Data, .i (ix r589 s1072.i).Synced]), (n1073, .spare)]) ?_ ?_
     ·have h := s1158e
      refine aw_block (aw_seq ?_)
      obtain ⟨c1161, h⟩ := need_of h
      refine aw_planR (by decide +kernel) [[], [], [], [], [], [], [(3, 0, false)], []] [[], [], [], [], []] [[[(p587, .cells [.sl .full 3 (([] : List api.File).map api.File.av), .sl .full 3 (([] : List api.Fault).map api.Fault.av)])]], [[(p588, .cells [.sl (.own n1073) 3 (s1072.c.map api.File.av), .sl .full 3 (([] : List api.Fault).map api.Fault.av)])]], [[(t590, .spare)]], [[(p1078, .cells [.str (ix r589 s1072.i).Name, .str (ix r589 s1072.i).Data, .i (ix r589 s1072.i).Synced])]], [[(n1073, .spare)]]] [.sl .no 2 (keeps.map api.Keep.av), .i s1150.k, .vptr [.str (ix keeps s1150.k).Name, .i (ix keeps s1150.k).Bytes], .vptr [.str (ix keeps s1150.k).Name, .i (ix keeps s1150.k).Bytes], .str (ix keeps s1150.k).Name, .ptr p1078 0, .str (ix r589 s1072.i).Name, .bool (decide ((ix keeps s1150.k).Name = (ix r589 s1072.i).Name))] (by decide +kernel) Z Z ?_ ?_
      ·exact ⟨ym Z Z Z, ym Z Z Z, yp Z (pu_indexAddrM Z underlying38 sizeOf56 (tm Z) (tm Z) c1161 Z), yp Z (fa Z underlying56 Z sizeOf9 Z Z Z), stepg_plain Z (op_loadV1 Z isAgg9 (tm Z) Z ⟨Z, Z⟩), yp Z (fa Z underlying48 Z sizeOf9 Z Z Z), stepg_plain Z (op_load1 (i := 0) Z isAgg9 (tm Z) Z Z ⟨Z, Z⟩), yp Z (pu_str (v := .bool (decide ((ix keeps s1150.k).Name = (ix r589 s1072.i).Name))) Z Z (tm Z) (tm Z) Z), trivial⟩
      refine aw_cond (b := decide ((ix keeps s1150.k).Name = (ix r589 s1072.i).Name)) (tm Z) (fun hb1164 => ?_) (fun hb1164 => ?_)
      ·replace h := ite_t (dec_t hb1164) h
       obtain ⟨c1162, h⟩ := need_of h
       obtain ⟨r1163, r1163e, h⟩ := bind_some h
       refine aw_planR (by decide +kernel) [[], [], [], [], [], [], [(3, 0, false)], [], [], [(3, 0, false)], [], [], []] [[], [], [], [], []] [[[(p587, .cells [.sl .full 3 (([] : List api.File).map api.File.av), .sl .full 3 (([] : List api.Fault).map api.Fault.av)])]], [[(p588, .cells [.sl (.own n1073) 3 (s1072.c.map api.File.av), .sl .full 3 (([] : List api.Fault).map api.Fault.av)])]], [[(t590, .spare)]], [[(p1078, .cells [.str (ix r589 s1072.i).Name, .str (ix r589 s1072.i).Data, .i (ix r589 s1072.i).Synced])]], [[(n1073, .spare)]]] [.sl .no 2 (keeps.map api.Keep.av), .i s1150.k, .vptr [.str (ix keeps s1150.k).Name, .i (ix keeps s1150.k).Bytes], .vptr [.i (ix keeps s1150.k).Bytes], .i (ix keeps s1150.k).Bytes, .ptr p1078 1, .str (ix r589 s1072.i).Data, .i ((ix r589 s1072.i).Data.length : Int), .ptr p1078 2, .i (ix r589 s1072.i).Synced, .i (IntKind.wrap .i64 (((ix r589 s1072.i).Data.length : Int) - (ix r589 s1072.i).Synced)), .i r1163, .i r1163] (by decide +kernel) Z Z ?_ ?_
       ·exact ⟨ym Z Z Z, ym Z Z Z, yp Z (pu_indexAddrM Z underlying38 sizeOf56 (tm Z) (tm Z) c1162 Z), yp Z (fa Z underlying56 Z sizeOf3 Z Z Z), stepg_plain Z (op_loadV1 Z isAgg3 (tm Z) Z ⟨Z, Z⟩), yp Z (fa Z underlying48 Z sizeOf9 Z Z Z), stepg_plain Z (op_load1 (i := 0) Z isAgg9 (tm Z) Z Z ⟨Z, Z⟩), yp Z (pu_strLen Z underlying9 (tm Z)), yp Z (fa Z underlying48 Z sizeOf3 Z Z Z), stepg_plain Z (op_load1 (i := 0) Z isAgg3 (tm Z) Z Z ⟨Z, Z⟩), yp Z (pu_int (v := .i (IntKind.wrap .i64 (((ix r589 s1072.i).Data.length : Int) - (ix r589 s1072.i).Synced))) Z Z (tm Z) (tm Z) Z), stepg_plain Z (op_call (vs := [.i (ix keeps s1150.k).Bytes, .i (IntKind.wrap .i64 (((ix r589 s1072.i).Data.length : Int) - (ix r589 s1072.i).Synced))]) (H := []) Z call40 ⟨(tm Z), (tm Z), trivial⟩ (R := []) (List.Perm.refl _) (mewsref16.between.ok r1163e) (by rintro _ _ ⟨rfl, rfl⟩; exact ⟨Z, Z⟩)), ym Z Z Z, trivial⟩
       obtain rfl := some_of h
       exact ⟨(), Weak.mkL [0, 1, 2, 3, 4] (by decide) ⟨⟨_, Z, cr, Z⟩, ⟨_, Z, cr, Z⟩, ⟨_, Z, Z⟩, ⟨_, Z, cr, Z⟩, ⟨_, Z, Z⟩, trivial⟩ ⟨tm Z, tm Z, tm Z, tm Z, tm Z, tm Z, tm Z, tm Z, trivial⟩⟩
      ·replace h := ite_f (dec_f hb1164) h
       refine aw_skip ?_
       obtain rfl := some_of h
       exact ⟨(), Weak.mkL [0, 1, 2, 3, 4] (by decide) ⟨⟨_, Z, cr, Z⟩, ⟨_, Z, cr, Z⟩, ⟨_, Z, Z⟩, ⟨_, Z, cr, Z⟩, ⟨_, Z, Z⟩, trivial⟩ ⟨tm Z, tm Z, tm Z, tm Z, tm Z, tm Z, tm Z, tm Z, trivial⟩⟩
     ·intro _
      have h := h1159
      refine aw_region (xm Z Z Z (xa (.i (IntKind.wrap .i64 (s1150.k - 1))) Z (pu_int (v := .i (IntKind.wrap .i64 (s1150.k - 1))) Z Z (tm Z) (AEv.int _ _) Z) (xm Z Z Z (xe ?_))))
      obtain rfl := some_of h
      exact ⟨_, (), Z, Weak.mkL [0, 1, 2, 3, 4] (by decide) ⟨⟨_, Z, cr, Z⟩, ⟨_, Z, cr, Z⟩, ⟨_, Z, Z⟩, ⟨_, Z, cr, Z⟩, ⟨_, Z, Z⟩, trivial⟩ ⟨tm Z, tm Z, tm Z, tm Z, tm Z, tm Z, tm Z, (AEv.le (tm Z) vr), trivial⟩⟩
    ·replace h := ite_f (dec_f hb1165) h
     refine aw_exit ?_
     obtain rfl := some_of h
     have h := congrArg some (hx1151 _ rfl)
     obtain rfl := some_of h
     exact ⟨(), Weak.mkL [0, 1, 2, 3, 4] (by decide) ⟨⟨_, Z, cr, Z⟩, ⟨_, Z, cr, Z⟩, ⟨_, Z, Z⟩, ⟨_, Z, cr, Z⟩, ⟨_, Z, Z⟩, trivial⟩ ⟨tm Z, tm Z, tm Z, tm Z, tm Z, tm Z, tm Z, trivial⟩⟩
   ·intro _
    have h := h1122
    refine xr (xa (.ptr p1078 2) Z (fa Z underlying48 Z sizeOf3 Z Z Z) (xc Z (op_load1 (i := 3) Z isAgg3 (tm Z) Z Z (xm Z Z Z (xa (.i (IntKind.wrap .i64 ((ix r589 s1072.i).Synced + s1121))) Z (pu_int (v := .i (IntKind.wrap .i64 ((ix r589 s1072.i).Synced + s1121))) Z Z (tm Z) (tm Z) Z) (xa (.ptr p1078 2) Z (fa Z underlying48 Z sizeOf3 Z Z Z) (ac0 Z Z (op_store (i := 3) (cs' := [.str (ix r589 s1072.i).Name, .str (ix r589 s1072.i).Data, .i (IntKind.wrap .i64 ((ix r589 s1072.i).Synced + s1121))]) Z sizeOf3 (tm Z) (v := .i (IntKind.wrap .i64 ((ix r589 s1072.i).Synced + s1121))) (tm Z) Z Z Z (nb Z) Z (xe (aw_seq ?_))))))))))
    refine aw_region (xa (.ptr p1078 1) Z (fa Z underlying48 Z sizeOf9 Z Z Z) (xc Z (op_load1 (i := 3) Z isAgg9 (tm Z) Z Z (xa (.ptr p1078 2) Z (fa Z underlying48 Z sizeOf3 Z Z Z) (xc Z (op_load1 (i := 3) Z isAgg3 (tm Z) Z Z ?_))))))
    obtain ⟨c1166, h⟩ := need_of h
    refine xa (.str (sub (ix r589 s1072.i).Data 0 (IntKind.wrap .i64 ((ix r589 s1072.i).Synced + s1121)))) Z (pu_strSliceM Z underlying9 (tm Z) Z ⟨_, (tm Z)⟩ c1166) (xa (.ptr p1078 1) Z (fa Z underlying48 Z sizeOf9 Z Z Z) (ac0 Z Z (op_store (i := 3) (cs' := [.str (ix r589 s1072.i).Name, .str (sub (ix r589 s1072.i).Data 0 (IntKind.wrap .i64 ((ix r589 s1072.i).Synced + s1121))), .i (IntKind.wrap .i64 ((ix r589 s1072.i).Synced + s1121))]) Z sizeOf9 (tm Z) (v := .str (sub (ix r589 s1072.i).Data 0 (IntKind.wrap .i64 ((ix r589 s1072.i).Synced + s1121)))) (tm Z) Z Z Z (nb Z) Z (xe (aw_region (xa (.ptr p588 0) Z (fa Z underlying25 Z sizeOf22 Z Z Z) (xc Z (op_load1 (i := 1) Z isAgg22 (tm Z) Z Z (xc Z (op_loadN (i := 3) Z isAgg48 sizeOf48 (tm Z) Z (nb Z) Z (xc Z (op_buildSlice (xs := ([({ Name := (ix r589 s1072.i).Name, Data := sub (ix r589 s1072.i).Data 0 (IntKind.wrap .i64 ((ix r589 s1072.i).Synced + s1121)), Synced := IntKind.wrap .i64 ((ix r589 s1072.i).Synced + s1121) } : api.File)] : List api.File).map api.File.av) (aparts := [(0, .agg [.str (ix r589 s1072.i).Name, .str (sub (ix r589 s1072.i).Data 0 (IntKind.wrap .i64 ((ix r589 s1072.i).Synced + s1121))), .i (IntKind.wrap .i64 ((ix r589 s1072.i).Synced + s1121))])]) Z underlying22 sizeOf48 zeroValue48 (by decide) (by decide) ⟨Z, (tm Z), trivial⟩ Z Z Z ?_))))))))))))
    obtain ⟨c1167, h⟩ := need_of h
    refine xc Z (op_appendOM (q := 4) Z underlying22 underlying22 (.inl Z) typeInfo48 Z Z Z (by decide) (tm Z) Z (given_sl (tm Z)) c1167 ?_)
    intro t1168
    refine xa (.ptr p588 0) Z (fa Z underlying25 Z sizeOf22 Z Z Z) (ac0 Z Z (op_store (i := 1) (cs' := [.sl (.own t1168) 3 ((s1072.c ++ [({ Name := (ix r589 s1072.i).Name, Data := sub (ix r589 s1072.i).Data 0 (IntKind.wrap .i64 ((ix r589 s1072.i).Synced + s1121)), Synced := IntKind.wrap .i64 ((ix r589 s1072.i).Synced + s1121) } : api.File)]).map api.File.av), .sl .full 3 (([] : List api.Fault).map api.Fault.av)]) Z sizeOf22 (tm Z) (v := .sl (.own t1168) 3 ((s1072.c ++ [({ Name := (ix r589 s1072.i).Name, Data := sub (ix r589 s1072.i).Data 0 (IntKind.wrap .i64 ((ix r589 s1072.i).Synced + s1121)), Synced := IntKind.wrap .i64 ((ix r589 s1072.i).Synced + s1121) } : api.File)]).map api.File.av)) (tm Z) Z Z Z (nb Z) Z (xe (aw_region (xm Z Z Z (xa (.i (IntKind.wrap .i64 (s1072.i + 1))) Z (pu_int (v := .i (IntKind.wrap .i64 (s1072.i + 1))) Z Z (tm Z) (AEv.int _ _) Z) (xm Z Z Z (xe ?_))))))))
    obtain rfl := some_of h
    exact ⟨_, t1168, Z, Weak.mkL [0, 1, 2, 4] (by decide) ⟨⟨_, Z, cr, Z⟩, ⟨_, Z, ⟨vr, vr, trivial⟩, Z⟩, ⟨_, Z, Z⟩, ⟨_, Z, Z⟩, trivial⟩ ⟨tm Z, tm Z, tm Z, tm Z, (AEv.le (tm Z) vr), trivial⟩⟩
  ·replace h := ite_f (dec_f hb1169) h
   refine aw_exit ?_
   obtain rfl := some_of h
   have h := congrArg some (hx1074 _ rfl)
   obtain rfl := some_of h
   exact ⟨n1073, Weak.mkL [0, 1, 3] (by decide) ⟨⟨_, Z, cr, Z⟩, ⟨_, Z, cr, Z⟩, ⟨_, Z, Z⟩, trivial⟩ ⟨tm Z, tm Z, trivial⟩⟩
 ·intro n880
  have h := h881
  refine xr (xc Z (op_loadN (i := 1) Z isAgg25 sizeOf25 (tm Z) Z (nb Z) Z (ac0 Z Z (op_store (i := 0) (cs' := [.sl (.own n880) 3 (s879.map api.File.av), .sl .full 3 (([] : List api.Fault).map api.Fault.av)]) Z sizeOf25 (tm Z) (v := .agg [.sl (.own n880) 3 (s879.map api.File.av), .sl .full 3 (([] : List api.Fault).map api.Fault.av)]) (tm Z) Z Z Z (nb Z) Z (xe (aw_ret ?_))))))
  obtain rfl := some_of h
  exact ⟨[.agg [.sl (.own n880) 3 (s879.map api.File.av), .sl .full 3 (([] : List api.Fault).map api.Fault.av)]], _, [(n880, .spare)], ⟨(CellOk.agg 0 (tm Z) Z isAgg25 sizeOf25 (nb Z) Z), trivial⟩, vr, Weak.mkL [2] (by decide) ⟨⟨_, Z, Z⟩, trivial⟩ trivial, ⟨n880, Z, Z⟩⟩

theorem mewslaw16.did.ok {d : api.Disk} {o_ : mewslaw16.Op} {r : api.Disk × Int × Int} (h : mewslaw16.did d o_ = some r) : Go.Lift.Spec prog 15 [.agg [.sl .no 3 (d.Files.map api.File.av), .sl .no 3 (d.Faults.map api.Fault.av)], .agg (mewslaw16.Op.ct o_)] [] (fun v H => v = .tup [.agg [.sl .no 3 (r.1.Files.map api.File.av), .sl .no 3 (r.1.Faults.map api.Fault.av)], .i r.2.1, .i r.2.2] ∧ H = []) := by
 unfold mewslaw16.did at h
 refine Go.Lift.Spec.of_body (rs := [.cell 4 25, .tmp 5, .tmp 6]) func15 Z Z (nb Z) Z (xr (xc Z (op_box (cs := [.sl .no 3 (d.Files.map api.File.av), .sl .no 3 (d.Faults.map api.Fault.av)]) (v := .agg [.sl .no 3 (d.Files.map api.File.av), .sl .no 3 (d.Faults.map api.Fault.av)]) Z (tm Z) Z Z ?_)))
 intro p41
 refine xc Z (op_box (cs := (mewslaw16.Op.ct o_)) (v := .agg (mewslaw16.Op.ct o_)) Z (tm Z) Z Z ?_)
 intro p42
 refine xc Z (op_alloc (cs := [.sl .full 3 (([] : List api.File).map api.File.av), .sl .full 3 (([] : List api.Fault).map api.Fault.av)]) (v := .agg [.sl .full 3 (([] : List api.File).map api.File.av), .sl .full 3 (([] : List api.Fault).map api.Fault.av)]) Z zeroValue25 Z Z Z ?_)
 intro p43
 refine xa (.i 0) Z (pu_assign Z (AEv.int _ _)) (xa (.i 0) Z (pu_assign Z (AEv.int _ _)) (xe (xr (xa (.i 0) Z (pu_assign Z (AEv.int _ _)) (xa (.i 0) Z (pu_assign Z (AEv.int _ _)) (xe ?_))))))
 obtain ⟨s61, s61e, h62⟩ := bind_some h
 refine aw_meet (ν := Unit) (fun v => [(2, .ptr p41 0), (4, .ptr p43 0), (7, .i s61.1), (8, .i s61.2.1)]) (fun v => [(p41, .cells [.sl .no 3 (s61.2.2.1.map api.File.av), .sl .no 3 (s61.2.2.2.map api.Fault.av)]), (p43, .cells [.sl .full 3 (([] : List api.File).map api.File.av), .sl .full 3 (([] : List api.Fault).map api.Fault.av)])]) ?_ ?_
 ·have h := s61e
  refine xr (xa (.ptr p42 0) Z (fa Z underlying27 Z sizeOf3 Z Z Z) (xc Z (op_load1 (i := 1) Z isAgg3 (tm Z) Z Z (xe (aw_block (xr (xa (.bool (decide (o_.Kind = 0))) Z (pu_int (v := .bool (decide (o_.Kind = 0))) Z Z (tm Z) (AEv.int _ _) Z) (xm Z Z Z ?_))))))))
  refine xe (aw_cond (b := decide (o_.Kind = 0)) (tm Z) (fun hb80 => ?_) (fun hb80 => ?_))
  ·replace h := ite_t (dec_t hb80) h
   refine aw_region (xc Z (op_loadN (i := 2) Z isAgg25 sizeOf25 (tm Z) Z (nb Z) Z (xa (.ptr p42 1) Z (fa Z underlying27 Z sizeOf9 Z Z Z) (xc Z (op_load1 (i := 1) Z isAgg9 (tm Z) Z Z (xa (.ptr p42 2) Z (fa Z underlying27 Z sizeOf9 Z Z Z) (xc Z (op_load1 (i := 1) Z isAgg9 (tm Z) Z Z ?_))))))))
   obtain ⟨r64, r64e, h⟩ := bind_some h
   refine xc Z (op_call (vs := [.agg [.sl .no 3 (d.Files.map api.File.av), .sl .no 3 (d.Faults.map api.Fault.av)], .str o_.Name, .str o_.S]) (H := []) Z call34 ⟨(tm Z), (tm Z), (tm Z), trivial⟩ (List.Perm.refl _) (mewsref16.Write.ok r64e) ?_)
   rintro _ _ ⟨t65, rfl, rfl⟩
   refine xm Z Z Z (xa (.agg [.sl (.own t65) 3 (r64.1.Files.map api.File.av), .sl .no 3 (r64.1.Faults.map api.Fault.av)]) Z (pu_extract Z (tm Z) (nb Z) Z) (xa (.i r64.2.1) Z (pu_extract Z (tm Z) (nb Z) Z) (xa (.i r64.2.2) Z (pu_extract Z (tm Z) (nb Z) Z) (ac0 Z Z (op_store (i := 3) (cs' := [.sl (.own t65) 3 (r64.1.Files.map api.File.av), .sl .no 3 (r64.1.Faults.map api.Fault.av)]) Z sizeOf25 (tm Z) (v := .agg [.sl (.own t65) 3 (r64.1.Files.map api.File.av), .sl .no 3 (r64.1.Faults.map api.Fault.av)]) (tm Z) Z Z Z (nb Z) Z (xm Z Z Z (xm Z Z Z (xe ?_))))))))
   obtain rfl := some_of h
   exact ⟨(), Weak.mkL [3, 1] (by decide) ⟨⟨_, Z, ⟨(AV.Le.forget _ _ _), vr, trivial⟩, Z⟩, ⟨_, Z, cr, Z⟩, trivial⟩ ⟨tm Z, tm Z, tm Z, tm Z, trivial⟩⟩
  ·replace h := ite_f (dec_f hb80) h
   refine xr (xa (.bool (decide (o_.Kind = 1))) Z (pu_int (v := .bool (decide (o_.Kind = 1))) Z Z (tm Z) (AEv.int _ _) Z) (xm Z Z Z (xe (aw_cond (b := decide (o_.Kind = 1)) (tm Z) (fun hb79 => ?_) (fun hb79 => ?_)))))
   ·replace h := ite_t (dec_t hb79) h
    refine aw_region (xc Z (op_loadN (i := 2) Z isAgg25 sizeOf25 (tm Z) Z (nb Z) Z (xa (.ptr p42 1) Z (fa Z underlying27 Z sizeOf9 Z Z Z) (xc Z (op_load1 (i := 1) Z isAgg9 (tm Z) Z Z ?_)))))
    obtain ⟨r66, r66e, h⟩ := bind_some h
    refine xc Z (op_call (vs := [.agg [.sl .no 3 (d.Files.map api.File.av), .sl .no 3 (d.Faults.map api.Fault.av)], .str o_.Name]) (H := []) Z call35 ⟨(tm Z), (tm Z), trivial⟩ (List.Perm.refl _) (mewsref16.Sync.ok r66e) ?_)
    rintro _ _ ⟨rfl, rfl⟩
    refine xm Z Z Z (xa (.agg [.sl .no 3 (r66.1.Files.map api.File.av), .sl .no 3 (r66.1.Faults.map api.Fault.av)]) Z (pu_extract Z (tm Z) (nb Z) Z) (xa (.i r66.2) Z (pu_extract Z (tm Z) (nb Z) Z) (ac0 Z Z (op_store (i := 2) (cs' := [.sl .no 3 (r66.1.Files.map api.File.av), .sl .no 3 (r66.1.Faults.map api.Fault.av)]) Z sizeOf25 (tm Z) (v := .agg [.sl .no 3 (r66.1.Files.map api.File.av), .sl .no 3 (r66.1.Faults.map api.Fault.av)]) (tm Z) Z Z Z (nb Z) Z (xm Z Z Z (xe ?_))))))
    obtain rfl := some_of h
    exact ⟨(), Weak.mkL [2, 0] (by decide) ⟨⟨_, Z, cr, Z⟩, ⟨_, Z, cr, Z⟩, trivial⟩ ⟨tm Z, tm Z, tm Z, tm Z, trivial⟩⟩
   ·replace h := ite_f (dec_f hb79) h
    refine xr (xa (.bool (decide (o_.Kind = 2))) Z (pu_int (v := .bool (decide (o_.Kind = 2))) Z Z (tm Z) (AEv.int _ _) Z) (xm Z Z Z (xe (aw_cond (b := decide (o_.Kind = 2)) (tm Z) (fun hb78 => ?_) (fun hb78 => ?_)))))
    ·replace h := ite_t (dec_t hb78) h
     refine aw_region (xc Z (op_loadN (i := 2) Z isAgg25 sizeOf25 (tm Z) Z (nb Z) Z (xa (.ptr p42 1) Z (fa Z underlying27 Z sizeOf9 Z Z Z) (xc Z (op_load1 (i := 1) Z isAgg9 (tm Z) Z Z (xa (.ptr p42 2) Z (fa Z underlying27 Z sizeOf9 Z Z Z) (xc Z (op_load1 (i := 1) Z isAgg9 (tm Z) Z Z ?_))))))))
     obtain ⟨r67, r67e, h⟩ := bind_some h
     refine xc Z (op_call (vs := [.agg [.sl .no 3 (d.Files.map api.File.av), .sl .no 3 (d.Faults.map api.Fault.av)], .str o_.Name, .str o_.S]) (H := []) Z call36 ⟨(tm Z), (tm Z), (tm Z), trivial⟩ (List.Perm.refl _) (mewsref16.Rename.ok r67e) ?_)
     rintro _ _ ⟨rfl, rfl⟩
     refine xm Z Z Z (xa (.agg [.sl .no 3 (r67.1.Files.map api.File.av), .sl .no 3 (r67.1.Faults.map api.Fault.av)]) Z (pu_extract Z (tm Z) (nb Z) Z) (xa (.i r67.2) Z (pu_extract Z (tm Z) (nb Z) Z) (ac0 Z Z (op_store (i := 2) (cs' := [.sl .no 3 (r67.1.Files.map api.File.av), .sl .no 3 (r67.1.Faults.map api.Fault.av)]) Z sizeOf25 (tm Z) (v := .agg [.sl .no 3 (r67.1.Files.map api.File.av), .sl .no 3 (r67.1.Faults.map api.Fault.av)]) (tm Z) Z Z Z (nb Z) Z (xm Z Z Z (xe ?_))))))
     obtain rfl := some_of h
     exact ⟨(), Weak.mkL [2, 0] (by decide) ⟨⟨_, Z, cr, Z⟩, ⟨_, Z, cr, Z⟩, trivial⟩ ⟨tm Z, tm Z, tm Z, tm Z, trivial⟩⟩
    ·replace h := ite_f (dec_f hb78) h
     refine xr (xa (.bool (decide (o_.Kind = 3))) Z (pu_int (v := .bool (decide (o_.Kind = 3))) Z Z (tm Z) (AEv.int _ _) Z) (xm Z Z Z (xe (aw_cond (b := decide (o_.Kind = 3)) (tm Z) (fun hb77 => ?_) (fun hb77 => ?_)))))
     ·replace h := ite_t (dec_t hb77) h
      refine aw_region (xc Z (op_loadN (i := 2) Z isAgg25 sizeOf25 (tm Z) Z (nb Z) Z (xa (.ptr p42 1) Z (fa Z underlying27 Z sizeOf9 Z Z Z) (xc Z (op_load1 (i := 1) Z isAgg9 (tm Z) Z Z ?_)))))
      obtain ⟨r68, r68e, h⟩ := bind_some h
      refine xc Z (op_call (vs := [.agg [.sl .no 3 (d.Files.map api.File.av), .sl .no 3 (d.Faults.map api.Fault.av)], .str o_.Name]) (H := []) Z call37 ⟨(tm Z), (tm Z), trivial⟩ (List.Perm.refl _) (mewsref16.Remove.ok r68e) ?_)
      rintro _ _ ⟨t69, rfl, rfl⟩
      refine ac0 Z Z (op_store (i := 3) (cs' := [.sl (.own t69) 3 (r68.Files.map api.File.av), .sl .no 3 (r68.Faults.map api.Fault.av)]) Z sizeOf25 (tm Z) (v := .agg [.sl (.own t69) 3 (r68.Files.map api.File.av), .sl .no 3 (r68.Faults.map api.Fault.av)]) (tm Z) Z Z Z (nb Z) Z (xe ?_))
      obtain rfl := some_of h
      exact ⟨(), Weak.mkL [3, 1] (by decide) ⟨⟨_, Z, ⟨(AV.Le.forget _ _ _), vr, trivial⟩, Z⟩, ⟨_, Z, cr, Z⟩, trivial⟩ ⟨tm Z, tm Z, tm Z, tm Z, trivial⟩⟩
     ·replace h := ite_f (dec_f hb77) h
      refine xr (xa (.bool (decide (o_.Kind = 4))) Z (pu_int (v := .bool (decide (o_.Kind = 4))) Z Z (tm Z) (AEv.int _ _) Z) (xm Z Z Z (xe (aw_cond (b := decide (o_.Kind = 4)) (tm Z) (fun hb76 => ?_) (fun hb76 => ?_)))))
      ·replace h := ite_t (dec_t hb76) h
       refine aw_region (xc Z (op_loadN (i := 2) Z isAgg25 sizeOf25 (tm Z) Z (nb Z) Z (xa (.ptr p42 1) Z (fa Z underlying27 Z sizeOf9 Z Z Z) (xc Z (op_load1 (i := 1) Z isAgg9 (tm Z) Z Z (xa (.ptr p42 3) Z (fa Z underlying27 Z sizeOf3 Z Z Z) (xc Z (op_load1 (i := 1) Z isAgg3 (tm Z) Z Z ?_))))))))
       obtain ⟨r70, r70e, h⟩ := bind_some h
       refine xc Z (op_call (vs := [.agg [.sl .no 3 (d.Files.map api.File.av), .sl .no 3 (d.Faults.map api.Fault.av)], .str o_.Name, .i o_.N]) (H := []) Z call38 ⟨(tm Z), (tm Z), (tm Z), trivial⟩ (List.Perm.refl _) (mewsref16.Cut.ok r70e) ?_)
       rintro _ _ ⟨rfl, rfl⟩
       refine xm Z Z Z (xa (.agg [.sl .no 3 (r70.1.Files.map api.File.av), .sl .no 3 (r70.1.Faults.map api.Fault.av)]) Z (pu_extract Z (tm Z) (nb Z) Z) (xa (.i r70.2) Z (pu_extract Z (tm Z) (nb Z) Z) (ac0 Z Z (op_store (i := 2) (cs' := [.sl .no 3 (r70.1.Files.map api.File.av), .sl .no 3 (r70.1.Faults.map api.Fault.av)]) Z sizeOf25 (tm Z) (v := .agg [.sl .no 3 (r70.1.Files.map api.File.av), .sl .no 3 (r70.1.Faults.map api.Fault.av)]) (tm Z) Z Z Z (nb Z) Z (xm Z Z Z (xe ?_))))))
       obtain rfl := some_of h
       exact ⟨(), Weak.mkL [2, 0] (by decide) ⟨⟨_, Z, cr, Z⟩, ⟨_, Z, cr, Z⟩, trivial⟩ ⟨tm Z, tm Z, tm Z, tm Z, trivial⟩⟩
      ·replace h := ite_f (dec_f hb76) h
       refine xr (xa (.bool (decide (o_.Kind = 5))) Z (pu_int (v := .bool (decide (o_.Kind = 5))) Z Z (tm Z) (AEv.int _ _) Z) (xm Z Z Z (xe (aw_cond (b := decide (o_.Kind = 5)) (tm Z) (fun hb75 => ?_) (fun hb75 => ?_)))))
       ·replace h := ite_t (dec_t hb75) h
        refine aw_region (xc Z (op_loadN (i := 2) Z isAgg25 sizeOf25 (tm Z) Z (nb Z) Z (xa (.ptr p42 1) Z (fa Z underlying27 Z sizeOf9 Z Z Z) (xc Z (op_load1 (i := 1) Z isAgg9 (tm Z) Z Z (xa (.ptr p42 3) Z (fa Z underlying27 Z sizeOf3 Z Z Z) (xc Z (op_load1 (i := 1) Z isAgg3 (tm Z) Z Z (xa (.agg [.str o_.Name, .i o_.N]) Z (pu_build (zs := [.str ([] : List UInt8), .i 0]) (szs := [1, 1]) (aparts := [(0, .str o_.Name), (1, .i o_.N)]) (cs := [.str o_.Name, .i o_.N]) Z underlying56 zeroValue56 Z ⟨sizeOf9, sizeOf3, trivial⟩ ⟨Z, (tm Z), ⟨Z, (tm Z), trivial⟩⟩ Z) (xa (.ptr p42 1) Z (fa Z underlying27 Z sizeOf9 Z Z Z) (xc Z (op_load1 (i := 1) Z isAgg9 (tm Z) Z Z (xa (.agg [.str o_.Name, .i 1]) Z (pu_build (zs := [.str ([] : List UInt8), .i 0]) (szs := [1, 1]) (aparts := [(0, .str o_.Name), (1, .i 1)]) (cs := [.str o_.Name, .i 1]) Z underlying56 zeroValue56 Z ⟨sizeOf9, sizeOf3, trivial⟩ ⟨Z, (tm Z), ⟨Z, (AEv.int _ _), trivial⟩⟩ Z) ?_)))))))))))))
        refine xc Z (op_buildSlice (xs := ([({ Name := o_.Name, Bytes := o_.N } : api.Keep), ({ Name := o_.Name, Bytes := 1 } : api.Keep)] : List api.Keep).map api.Keep.av) (aparts := [(0, .agg [.str o_.Name, .i o_.N]), (1, .agg [.str o_.Name, .i 1])]) Z underlying38 sizeOf56 zeroValue56 (by decide) (by decide) ⟨Z, (tm Z), ⟨Z, (tm Z), trivial⟩⟩ Z Z Z ?_)
        obtain ⟨r71, r71e, h⟩ := bind_some h
        refine xc Z (op_call (vs := [.agg [.sl .no 3 (d.Files.map api.File.av), .sl .no 3 (d.Faults.map api.Fault.av)], .sl .no 2 ([({ Name := o_.Name, Bytes := o_.N } : api.Keep), ({ Name := o_.Name, Bytes := 1 } : api.Keep)].map api.Keep.av)]) (H := []) Z call39 ⟨(tm Z), (AEv.le (tm Z) (AV.Le.forget _ _ _)), trivial⟩ (List.Perm.refl _) (mewsref16.Crash.ok r71e) ?_)
        rintro _ _ ⟨t72, rfl, rfl⟩
        refine ac0 Z Z (op_store (i := 3) (cs' := [.sl (.own t72) 3 (r71.Files.map api.File.av), .sl .full 3 (r71.Faults.map api.Fault.av)]) Z sizeOf25 (tm Z) (v := .agg [.sl (.own t72) 3 (r71.Files.map api.File.av), .sl .full 3 (r71.Faults.map api.Fault.av)]) (tm Z) Z Z Z (nb Z) Z (xe ?_))
        obtain rfl := some_of h
        exact ⟨(), Weak.mkL [3, 1] (by decide) ⟨⟨_, Z, ⟨(AV.Le.forget _ _ _), (AV.Le.forget _ _ _), trivial⟩, Z⟩, ⟨_, Z, cr, Z⟩, trivial⟩ ⟨tm Z, tm Z, tm Z, tm Z, trivial⟩⟩
       ·replace h := ite_f (dec_f hb75) h
        refine aw_region (xc Z (op_loadN (i := 2) Z isAgg25 sizeOf25 (tm Z) Z (nb Z) Z (xc Z (op_loadN (i := 1) Z isAgg27 sizeOf27 (tm Z) Z (nb Z) Z ?_))))
        obtain ⟨r73, r73e, h⟩ := bind_some h
        refine xc Z (op_call (vs := [.agg [.sl .no 3 (d.Files.map api.File.av), .sl .no 3 (d.Faults.map api.Fault.av)], .agg (mewslaw16.Op.ct o_)]) (H := []) Z call24 ⟨(tm Z), (tm Z), trivial⟩ (List.Perm.refl _) (mewslaw16.faulty.ok r73e) ?_)
        rintro _ _ ⟨t74, rfl, rfl⟩
        refine ac0 Z Z (op_store (i := 3) (cs' := [.sl .no 3 (r73.Files.map api.File.av), .sl (.own t74) 3 (r73.Faults.map api.Fault.av)]) Z sizeOf25 (tm Z) (v := .agg [.sl .no 3 (r73.Files.map api.File.av), .sl (.own t74) 3 (r73.Faults.map api.Fault.av)]) (tm Z) Z Z Z (nb Z) Z (xe ?_))
        obtain rfl := some_of h
        exact ⟨(), Weak.mkL [3, 1] (by decide) ⟨⟨_, Z, ⟨vr, (AV.Le.forget _ _ _), trivial⟩, Z⟩, ⟨_, Z, cr, Z⟩, trivial⟩ ⟨tm Z, tm Z, tm Z, tm Z, trivial⟩⟩
 ·intro _
  have h := h62
  refine xr (xc Z (op_loadN (i := 0) Z isAgg25 sizeOf25 (tm Z) Z (nb Z) Z (xm Z Z Z (xm Z Z Z (ac0 Z Z (op_store (i := 1) (cs' := [.sl .no 3 (s61.2.2.1.map api.File.av), .sl .no 3 (s61.2.2.2.map api.Fault.av)]) Z sizeOf25 (tm Z) (v := .agg [.sl .no 3 (s61.2.2.1.map api.File.av), .sl .no 3 (s61.2.2.2.map api.Fault.av)]) (tm Z) Z Z Z (nb Z) Z (xm Z Z Z (xm Z Z Z (xe (aw_ret ?_))))))))))
  obtain rfl := some_of h
  exact ⟨[.agg [.sl .no 3 (s61.2.2.1.map api.File.av), .sl .no 3 (s61.2.2.2.map api.Fault.av)], .i s61.1, .i s61.2.1], .tup [.agg [.sl .no 3 (s61.2.2.1.map api.File.av), .sl .no 3 (s61.2.2.2.map api.Fault.av)], .i s61.1, .i s61.2.1], [], ⟨(CellOk.agg 1 (tm Z) Z isAgg25 sizeOf25 (nb Z) Z), (tm Z), (tm Z), trivial⟩, (AV.Le.tup cr), Weak.mkL [] (by decide) trivial trivial, ⟨Z, Z⟩⟩

theorem mewsref16.Same.ok {a : api.Disk} {b : api.Disk} {r : Bool} (h : mewsref16.Same a b = some r) : Go.Lift.Spec prog 17 [.agg [.sl .no 3 (a.Files.map api.File.av), .sl .no 3 (a.Faults.map api.Fault.av)], .agg [.sl .no 3 (b.Files.map api.File.av), .sl .no 3 (b.Faults.map api.Fault.av)]] [] (fun v H => v = .bool r ∧ H = []) := by
 unfold mewsref16.Same at h
 refine Go.Lift.Spec.of_body (rs := [.tmp 4]) func17 Z Z (nb Z) Z (xr (xc Z (op_box (cs := [.sl .no 3 (a.Files.map api.File.av), .sl .no 3 (a.Faults.map api.Fault.av)]) (v := .agg [.sl .no 3 (a.Files.map api.File.av), .sl .no 3 (a.Faults.map api.Fault.av)]) Z (tm Z) Z Z ?_)))
 intro p141
 refine xc Z (op_box (cs := [.sl .no 3 (b.Files.map api.File.av), .sl .no 3 (b.Faults.map api.Fault.av)]) (v := .agg [.sl .no 3 (b.Files.map api.File.av), .sl .no 3 (b.Faults.map api.Fault.av)]) Z (tm Z) Z Z ?_)
 intro p142
 refine xa (.bool false) Z (pu_assign Z (AEv.bool _)) (xe (aw_seq ?_))
 obtain ⟨r143, r143e, h⟩ := bind_some h
 obtain ⟨r145, r145e, h⟩ := bind_some h
 refine aw_reserve fun p144 => (aw_reserve fun p146 => (aw_planR (by decide +kernel) [[(3, 0, false)], [(1, 0, true)], [(2, 0, false)], [(0, 0, true)], [], []] [[3], [1], [], []] [[[(p146, .resv)], [(p146, .spare)]], [[(p144, .resv)], [(p144, .spare)]], [[(p142, .cells [.sl .no 3 (b.Files.map api.File.av), .sl .no 3 (b.Faults.map api.Fault.av)])]], [[(p141, .cells [.sl .no 3 (a.Files.map api.File.av), .sl .no 3 (a.Faults.map api.Fault.av)])]]] [.agg [.sl .no 3 (a.Files.map api.File.av), .sl .no 3 (a.Faults.map api.Fault.av)], .sl (.own p144) 3 (r143.map api.File.av), .agg [.sl .no 3 (b.Files.map api.File.av), .sl .no 3 (b.Faults.map api.Fault.av)], .sl (.own p146) 3 (r145.map api.File.av), .sl (.own p144) 3 (r143.map api.File.av), .sl (.own p146) 3 (r145.map api.File.av)] (by decide +kernel) Z Z ?_ ?_))
 ·exact ⟨stepg_plain Z (op_loadN (i := 0) Z isAgg25 sizeOf25 (tm Z) Z (nb Z) Z ⟨Z, Z⟩), stepg_plain Z (aop_settleS (op_call (vs := [.agg [.sl .no 3 (a.Files.map api.File.av), .sl .no 3 (a.Faults.map api.Fault.av)]]) (H := []) (R := [(p144, .resv)]) Z call18 ⟨(tm Z), trivial⟩ (List.Perm.refl _) (mewsref16.Files.ok r143e) (by rintro _ _ ⟨t, rfl, rfl⟩; exact ⟨t, Z, Z⟩)) ⟨Z, Z⟩), stepg_plain Z (op_loadN (i := 0) Z isAgg25 sizeOf25 (tm Z) Z (nb Z) Z ⟨Z, Z⟩), stepg_plain Z (aop_settleS (op_call (vs := [.agg [.sl .no 3 (b.Files.map api.File.av), .sl .no 3 (b.Faults.map api.Fault.av)]]) (H := []) (R := [(p146, .resv)]) Z call18 ⟨(tm Z), trivial⟩ (List.Perm.refl _) (mewsref16.Files.ok r145e) (by rintro _ _ ⟨t, rfl, rfl⟩; exact ⟨t, Z, Z⟩)) ⟨Z, Z⟩), ym Z Z Z, ym Z Z Z, trivial⟩
 refine aw_seq ?_
 obtain ⟨s148, s148e, h149⟩ := letO_of h
 refine aw_meet (ν := Unit) (fun v => [(2, .ptr p141 0), (3, .ptr p142 0), (5, .sl (.own p144) 3 (r143.map api.File.av)), (28, .bool s148)]) (fun v => [(p141, .cells [.sl .no 3 (a.Files.map api.File.av), .sl .no 3 (a.Faults.map api.Fault.av)]), (p142, .cells [.sl .no 3 (b.Files.map api.File.av), .sl .no 3 (b.Faults.map api.Fault.av)]), (p144, .spare)]) ?_ ?_
 ·have h := s148e.symm
  refine aw_region (xm Z Z Z (xa (.i (r143.length : Int)) Z (pu_lenM Z underlying22 (tm Z)) (xm Z Z Z (xa (.i (r145.length : Int)) Z (pu_lenM Z underlying22 (tm Z)) (xa (.bool (!decide ((r143.length : Int) = (r145.length : Int)))) Z (pu_int (v := .bool (!decide ((r143.length : Int) = (r145.length : Int)))) Z Z (tm Z) (tm Z) Z) (xm Z Z Z ?_))))))
  rcases Bool.eq_false_or_eq_true (!decide ((r143.length : Int) = (r145.length : Int))) with hb151 | hb151
  ·replace h := ite_f (ndec_t hb151) h
   refine aops_known 20 Z hb151 (xn Z Z Z (xn Z Z Z (xn Z Z Z (xn Z Z Z (xn Z Z Z (xn Z Z Z (xn Z Z Z (xa (.bool true) Z (pu_pick (b := true) Z (tm Z) (fun _ => (AEv.bool _)) (fun h => nomatch h)) (xe ?_)))))))))
   subst h
   exact ⟨(), Weak.mkL [3, 2, 1] (by decide) ⟨⟨_, Z, cr, Z⟩, ⟨_, Z, cr, Z⟩, ⟨_, Z, Z⟩, trivial⟩ ⟨tm Z, tm Z, tm Z, tm Z, trivial⟩⟩
  ·replace h := ite_t (ndec_f hb151) h
   refine aops_known 20 Z hb151 (xp (.ptr p141 1) Z Z (fa Z underlying25 Z sizeOf23 Z Z Z) (xg Z Z (op_load1 (i := 3) Z isAgg23 (tm Z) Z Z (xp (.i (a.Faults.length : Int)) Z Z (pu_lenM Z underlying23 (tm Z)) (xp (.ptr p142 1) Z Z (fa Z underlying25 Z sizeOf23 Z Z Z) (xg Z Z (op_load1 (i := 2) Z isAgg23 (tm Z) Z Z (xp (.i (b.Faults.length : Int)) Z Z (pu_lenM Z underlying23 (tm Z)) (xp (.bool (!decide ((a.Faults.length : Int) = (b.Faults.length : Int)))) Z Z (pu_int (v := .bool (!decide ((a.Faults.length : Int) = (b.Faults.length : Int)))) Z Z (tm Z) (tm Z) Z) (xa (.bool (!decide ((a.Faults.length : Int) = (b.Faults.length : Int)))) Z (pu_pick (b := false) Z (tm Z) (fun h => nomatch h) (fun _ => (tm Z))) (xe ?_)))))))))))
   subst h
   exact ⟨(), Weak.mkL [3, 2, 1] (by decide) ⟨⟨_, Z, cr, Z⟩, ⟨_, Z, cr, Z⟩, ⟨_, Z, Z⟩, trivial⟩ ⟨tm Z, tm Z, tm Z, tm Z, trivial⟩⟩
 ·intro _
  have h := h149
  refine aw_cond (b := s148) (tm Z) (fun hb280 => ?_) (fun hb280 => ?_)
  ·replace h := ite_t hb280 h
   refine xr (xa (.bool false) Z (pu_assign Z (AEv.bool _)) (xe (aw_ret ?_)))
   obtain rfl := some_of h
   exact ⟨[.bool false], _, [], ⟨(tm Z), trivial⟩, vr, Weak.mkL [] (by decide) trivial trivial, ⟨Z, Z⟩⟩
  ·replace h := ite_fb hb280 h
   refine aw_skip ?_
   obtain ⟨s279, s279e, h195⟩ := bind_some h
   refine aw_join (σ := Unit) (ν := Unit) (fun u v => [(2, .ptr p141 0), (3, .ptr p142 0)]) (fun u v => [(p141, .cells [.sl .no 3 (a.Files.map api.File.av), .sl .no 3 (a.Faults.map api.Fault.av)]), (p142, .cells [.sl .no 3 (b.Files.map api.File.av), .sl .no 3 (b.Faults.map api.Fault.av)])]) (fun u => s279 = .inl u) ?_ ?_
   ·intro s194
    intro _
    rintro rfl
    have h := onSum_inl h195
    obtain ⟨s278, s278e, h258⟩ := bind_some h
    refine aw_join (σ := Unit) (ν := Unit) (fun u v => []) (fun u v => []) (fun u => s278 = .inl u) ?_ ?_
    ·intro s257
     intro _
     rintro rfl
     have h := onSum_inl h258
     refine xr (xa (.bool true) Z (pu_assign Z (AEv.bool _)) (xe (aw_ret ?_)))
     obtain rfl := some_of h
     exact ⟨[.bool true], _, [], ⟨(tm Z), trivial⟩, vr, Weak.mkL [] (by decide) trivial trivial, ⟨Z, Z⟩⟩
    ·have h := s278e
     refine xr (xa (.i 0) Z (pu_assign Z (AEv.int _ _)) (xe (aw_block (aw_while (σ := mewsref16.Same.S2) (ν := Unit) (mewsref16.Same.body2 a b) (fun s270 v => [(2, .ptr p141 0), (3, .ptr p142 0), (10, .i s270.i)]) (fun s270 v => [(p141, .cells [.sl .no 3 (a.Files.map api.File.av), .sl .no 3 (a.Faults.map api.Fault.av)]), (p142, .cells [.sl .no 3 (b.Files.map api.File.av), .sl .no 3 (b.Faults.map api.Fault.av)])]) ⟨0⟩ () _ h (Weak.mkL [0, 1] (by decide) ⟨⟨_, Z, cr, Z⟩, ⟨_, Z, cr, Z⟩, trivial⟩ ⟨tm Z, tm Z, tm Z, trivial⟩) ?_))))
     rintro s270 _ x272 h hx271
     unfold mewsref16.Same.body2 at h
     refine aw_seq (xr (xm Z Z Z (xa (.ptr p141 1) Z (fa Z underlying25 Z sizeOf23 Z Z Z) (xc Z (op_load1 (i := 0) Z isAgg23 (tm Z) Z Z (xa (.i (a.Faults.length : Int)) Z (pu_lenM Z underlying23 (tm Z)) (xa (.bool (decide (s270.i < (a.Faults.length : Int)))) Z (pu_int (v := .bool (decide (s270.i < (a.Faults.length : Int)))) Z Z (tm Z) (tm Z) Z) (xe (aw_cond (b := decide (s270.i < (a.Faults.length : Int))) (tm Z) (fun hb277 => ?_) (fun hb277 => ?_))))))))))
     ·replace h := ite_t (dec_t hb277) h
      refine aw_skip (aw_seq (aw_block (aw_seq ?_)))
      obtain ⟨c274, h⟩ := need_of h
      obtain ⟨c275, h⟩ := need_of h
      refine aw_planR (by decide +kernel) [[], [(0, 0, false)], [], [], [], [], [(1, 0, false)], [], [], [], []] [[], []] [[[(p141, .cells [.sl .no 3 (a.Files.map api.File.av), .sl .no 3 (a.Faults.map api.Fault.av)])]], [[(p142, .cells [.sl .no 3 (b.Files.map api.File.av), .sl .no 3 (b.Faults.map api.Fault.av)])]]] [.ptr p141 1, .sl .no 3 (a.Faults.map api.Fault.av), .i s270.i, .vptr [.str (ix a.Faults s270.i).Name, .i (ix a.Faults s270.i).Kind, .i (ix a.Faults s270.i).Short], .agg [.str (ix a.Faults s270.i).Name, .i (ix a.Faults s270.i).Kind, .i (ix a.Faults s270.i).Short], .ptr p142 1, .sl .no 3 (b.Faults.map api.Fault.av), .i s270.i, .vptr [.str (ix b.Faults s270.i).Name, .i (ix b.Faults s270.i).Kind, .i (ix b.Faults s270.i).Short], .agg [.str (ix b.Faults s270.i).Name, .i (ix b.Faults s270.i).Kind, .i (ix b.Faults s270.i).Short], .bool (!decide ((ix a.Faults s270.i) = (ix b.Faults s270.i)))] (by decide +kernel) Z Z ?_ ?_
      ·exact ⟨yp Z (fa Z underlying25 Z sizeOf23 Z Z Z), stepg_plain Z (op_load1 (i := 0) Z isAgg23 (tm Z) Z Z ⟨Z, Z⟩), ym Z Z Z, yp Z (pu_indexAddrM Z underlying23 sizeOf70 (tm Z) (tm Z) c274 Z), stepg_plain Z (op_loadVN Z isAgg70 sizeOf70 (tm Z) (nb Z) Z ⟨Z, Z⟩), yp Z (fa Z underlying25 Z sizeOf23 Z Z Z), stepg_plain Z (op_load1 (i := 0) Z isAgg23 (tm Z) Z Z ⟨Z, Z⟩), ym Z Z Z, yp Z (pu_indexAddrM Z underlying23 sizeOf70 (tm Z) (tm Z) c275 Z), stepg_plain Z (op_loadVN Z isAgg70 sizeOf70 (tm Z) (nb Z) Z ⟨Z, Z⟩), yp Z (APure.eq (pu_structNe (b := (decide ((ix a.Faults s270.i).Name = (ix b.Faults s270.i).Name) && (decide ((ix a.Faults s270.i).Kind = (ix b.Faults s270.i).Kind) && (decide ((ix a.Faults s270.i).Short = (ix b.Faults s270.i).Short) && true)))) Z underlying70 (by kernel_rfl) (by kernel_rfl) (tm Z) (tm Z) ⟨_, _, _, _, ⟨by decide, isAgg9, Z, Z, CEq.str underlying9⟩, ⟨_, _, _, _, ⟨by decide, isAgg3, Z, Z, CEq.int underlying3⟩, ⟨_, _, _, _, ⟨by decide, isAgg3, Z, Z, CEq.int underlying3⟩, Z, Z⟩, Z⟩, Z⟩) (congrArg (fun b => AV.bool (!b)) (api.Fault.eq_iff (ix a.Faults s270.i) (ix b.Faults s270.i)).symm)), trivial⟩
      refine aw_cond (b := (!decide ((ix a.Faults s270.i) = (ix b.Faults s270.i)))) (tm Z) (fun hb276 => ?_) (fun hb276 => ?_)
      ·replace h := ite_f (ndec_t hb276) h
       refine xr (xa (.bool false) Z (pu_assign Z (AEv.bool _)) (xe (aw_ret ?_)))
       obtain rfl := some_of h
       have h := congrArg some (hx271 _ rfl)
       obtain rfl := some_of h
       have h := onSum_inr h258
       obtain rfl := some_of h
       exact ⟨[.bool false], _, [], ⟨(tm Z), trivial⟩, vr, Weak.mkL [] (by decide) trivial trivial, ⟨Z, Z⟩⟩
      ·replace h := ite_t (ndec_f hb276) h
       refine aw_skip (aw_region (xm Z Z Z (xa (.i (IntKind.wrap .i64 (s270.i + 1))) Z (pu_int (v := .i (IntKind.wrap .i64 (s270.i + 1))) Z Z (tm Z) (AEv.int _ _) Z) (xm Z Z Z (xe ?_)))))
       obtain rfl := some_of h
       exact ⟨_, (), Z, Weak.mkL [0, 1] (by decide) ⟨⟨_, Z, cr, Z⟩, ⟨_, Z, cr, Z⟩, trivial⟩ ⟨tm Z, tm Z, (AEv.le (tm Z) vr), trivial⟩⟩
     ·replace h := ite_f (dec_f hb277) h
      refine aw_exit ?_
      obtain rfl := some_of h
      have h := congrArg some (hx271 _ rfl)
      exact ⟨(), (), (some_of h).symm, Weak.mkL [] (by decide) trivial trivial⟩
   ·have h := s279e
    refine xr (xa (.i 0) Z (pu_assign Z (AEv.int _ _)) (xe (aw_block (aw_while (σ := mewsref16.Same.S0) (ν := Unit) (mewsref16.Same.body0 r143 b) (fun s223 v => [(2, .ptr p141 0), (3, .ptr p142 0), (5, .sl (.own p144) 3 (r143.map api.File.av)), (7, .i s223.i)]) (fun s223 v => [(p141, .cells [.sl .no 3 (a.Files.map api.File.av), .sl .no 3 (a.Faults.map api.Fault.av)]), (p142, .cells [.sl .no 3 (b.Files.map api.File.av), .sl .no 3 (b.Faults.map api.Fault.av)]), (p144, .spare)]) ⟨0⟩ () _ h (Weak.mkL [0, 1, 2] (by decide) ⟨⟨_, Z, cr, Z⟩, ⟨_, Z, cr, Z⟩, ⟨_, Z, Z⟩, trivial⟩ ⟨tm Z, tm Z, tm Z, tm Z, trivial⟩) ?_))))
    rintro s223 _ x225 h hx224
    unfold mewsref16.Same.body0 at h
    refine aw_seq (xr (xm Z Z Z (xm Z Z Z (xa (.i (r143.length : Int)) Z (pu_lenM Z underlying22 (tm Z)) (xa (.bool (decide (s223.i < (r143.length : Int)))) Z (pu_int (v := .bool (decide (s223.i < (r143.length : Int)))) Z Z (tm Z) (tm Z) Z) (xe (aw_cond (b := decide (s223.i < (r143.length : Int))) (tm Z) (fun hb238 => ?_) (fun hb238 => ?_))))))))
    ·replace h := ite_t (dec_t hb238) h
     refine aw_skip (aw_seq (aw_block (aw_seq ?_)))
     obtain ⟨c227, h⟩ := need_of h
     obtain ⟨r228, r228e, h⟩ := bind_some h
     refine aw_reserve fun p229 => (aw_planR (by decide +kernel) [[(2, 0, false)], [], [], [], [], [], [], [], [], [], [(0, 0, true)], [(0, 1, true)], []] [[10, 11], [], [], []] [[[(p229, .resv)], [(p229, .cells [.str ([] : List UInt8), .str ([] : List UInt8), .i 0])], [(p229, .cells [.str r228.1.Name, .str r228.1.Data, .i r228.1.Synced])]], [[(p141, .cells [.sl .no 3 (a.Files.map api.File.av), .sl .no 3 (a.Faults.map api.Fault.av)])]], [[(p142, .cells [.sl .no 3 (b.Files.map api.File.av), .sl .no 3 (b.Faults.map api.Fault.av)])]], [[(p144, .spare)]]] [.agg [.sl .no 3 (b.Files.map api.File.av), .sl .no 3 (b.Faults.map api.Fault.av)], .sl (.own p144) 3 (r143.map api.File.av), .i s223.i, .vptr [.str (ix r143 s223.i).Name, .str (ix r143 s223.i).Data, .i (ix r143 s223.i).Synced], .vptr [.str (ix r143 s223.i).Name, .str (ix r143 s223.i).Data, .i (ix r143 s223.i).Synced], .str (ix r143 s223.i).Name, .tup [.agg [.str r228.1.Name, .str r228.1.Data, .i r228.1.Synced], .bool r228.2], .tup [.agg [.str r228.1.Name, .str r228.1.Data, .i r228.1.Synced], .bool r228.2], .agg [.str r228.1.Name, .str r228.1.Data, .i r228.1.Synced], .bool r228.2, .ptr p229 0, .un, .bool r228.2] (by decide +kernel) Z Z ?_ ?_)
     ·exact ⟨stepg_plain Z (op_loadN (i := 0) Z isAgg25 sizeOf25 (tm Z) Z (nb Z) Z ⟨Z, Z⟩), ym Z Z Z, ym Z Z Z, yp Z (pu_indexAddrM Z underlying22 sizeOf48 (tm Z) (tm Z) c227 Z), yp Z (fa Z underlying48 Z sizeOf9 Z Z Z), stepg_plain Z (op_loadV1 Z isAgg9 (tm Z) Z ⟨Z, Z⟩), stepg_plain Z (op_call (vs := [.agg [.sl .no 3 (b.Files.map api.File.av), .sl .no 3 (b.Faults.map api.Fault.av)], .str (ix r143 s223.i).Name]) (H := []) Z call16 ⟨(tm Z), (tm Z), trivial⟩ (R := []) (List.Perm.refl _) (mewsref16.Find.ok r228e) (by rintro _ _ ⟨rfl, rfl⟩; exact ⟨Z, Z⟩)), ym Z Z Z, yp Z (pu_extract Z (tm Z) (nb Z) Z), yp Z (pu_extract Z (tm Z) (nb Z) Z), stepg_plain Z (aop_settleP (op_alloc (cs := [.str ([] : List UInt8), .str ([] : List UInt8), .i 0]) (v := .agg [.str ([] : List UInt8), .str ([] : List UInt8), .i 0]) Z zeroValue48 Z Z Z fun t => ⟨t, Z, Z⟩) ⟨Z, Z⟩), stepg_plain Z (op_store (i := 0) (cs' := [.str r228.1.Name, .str r228.1.Data, .i r228.1.Synced]) Z sizeOf48 (tm Z) (v := .agg [.str r228.1.Name, .str r228.1.Data, .i r228.1.Synced]) (tm Z) Z Z Z (nb Z) Z ⟨Z, Z⟩), ym Z Z Z, trivial⟩
     obtain ⟨s232, s232e, h233⟩ := bind_some h
     refine aw_meet (ν := Unit) (fun v => [(2, .ptr p141 0), (3, .ptr p142 0), (5, .sl (.own p144) 3 (r143.map api.File.av)), (7, .i s223.i), (54, .bool s232)]) (fun v => [(p141, .cells [.sl .no 3 (a.Files.map api.File.av), .sl .no 3 (a.Faults.map api.Fault.av)]), (p142, .cells [.sl .no 3 (b.Files.map api.File.av), .sl .no 3 (b.Faults.map api.Fault.av)]), (p144, .spare)]) ?_ ?_
     ·have h := s232e
      rcases Bool.eq_false_or_eq_true (!r228.2) with hb235 | hb235
      ·replace h := ite_t hb235 h
       refine aw_planR (by decide +kernel) [[], [], [], [], [], [], [], [], [], []] [[], [], [], []] [[[(p229, .cells [.str r228.1.Name, .str r228.1.Data, .i r228.1.Synced])]], [[(p141, .cells [.sl .no 3 (a.Files.map api.File.av), .sl .no 3 (a.Faults.map api.Fault.av)])]], [[(p142, .cells [.sl .no 3 (b.Files.map api.File.av), .sl .no 3 (b.Faults.map api.Fault.av)])]], [[(p144, .spare)]]] [.bool r228.2, .bool (!r228.2), .bool true, .lit undef, .lit undef, .lit undef, .lit undef, .lit undef, .lit undef, .bool true] (by decide +kernel) Z Z ?_ ?_
       ·exact ⟨ym Z Z Z, yp Z (pu_not Z (tm Z)), AStepG.cast (ym Z Z Z) (congrArg AV.bool hb235), yx Z Z Z, yx Z Z Z, yx Z Z Z, yx Z Z Z, yx Z Z Z, yx Z Z Z, yp Z (pu_pick (b := true) Z (tm Z) (fun _ => (AEv.bool _)) (fun h => nomatch h)), trivial⟩
       obtain rfl := some_of h
       exact ⟨(), Weak.mkL [1, 2, 3] (by decide) ⟨⟨_, Z, cr, Z⟩, ⟨_, Z, cr, Z⟩, ⟨_, Z, Z⟩, trivial⟩ ⟨tm Z, tm Z, tm Z, tm Z, tm Z, trivial⟩⟩
      ·replace h := ite_fb hb235 h
       obtain ⟨c236, h⟩ := need_of h
       refine aw_planR (by decide +kernel) [[], [], [], [(0, 0, false)], [], [], [], [], [], []] [[], [], [], []] [[[(p229, .cells [.str r228.1.Name, .str r228.1.Data, .i r228.1.Synced])]], [[(p141, .cells [.sl .no 3 (a.Files.map api.File.av), .sl .no 3 (a.Faults.map api.Fault.av)])]], [[(p142, .cells [.sl .no 3 (b.Files.map api.File.av), .sl .no 3 (b.Faults.map api.Fault.av)])]], [[(p144, .spare)]]] [.bool r228.2, .bool (!r228.2), .bool false, .agg [.str r228.1.Name, .str r228.1.Data, .i r228.1.Synced], .sl (.own p144) 3 (r143.map api.File.av), .i s223.i, .vptr [.str (ix r143 s223.i).Name, .str (ix r143 s223.i).Data, .i (ix r143 s223.i).Synced], .agg [.str (ix r143 s223.i).Name, .str (ix r143 s223.i).Data, .i (ix r143 s223.i).Synced], .bool (!decide (r228.1 = (ix r143 s223.i))), .bool (!decide (r228.1 = (ix r143 s223.i)))] (by decide +kernel) Z Z ?_ ?_
       ·exact ⟨ym Z Z Z, yp Z (pu_not Z (tm Z)), AStepG.cast (ym Z Z Z) (congrArg AV.bool hb235), yg Z Z (op_loadN (i := 0) Z isAgg48 sizeOf48 (tm Z) Z (nb Z) Z ⟨Z, Z⟩), yq Z Z (pu_move Z (tm Z)), yq Z Z (pu_move Z (tm Z)), yq Z Z (pu_indexAddrM Z underlying22 sizeOf48 (tm Z) (tm Z) c236 Z), yg Z Z (op_loadVN Z isAgg48 sizeOf48 (tm Z) (nb Z) Z ⟨Z, Z⟩), yq Z Z (APure.eq (pu_structNe (b := (decide (r228.1.Name = (ix r143 s223.i).Name) && (decide (r228.1.Data = (ix r143 s223.i).Data) && (decide (r228.1.Synced = (ix r143 s223.i).Synced) && true)))) Z underlying48 (by kernel_rfl) (by kernel_rfl) (tm Z) (tm Z) ⟨_, _, _, _, ⟨by decide, isAgg9, Z, Z, CEq.str underlying9⟩, ⟨_, _, _, _, ⟨by decide, isAgg9, Z, Z, CEq.str underlying9⟩, ⟨_, _, _, _, ⟨by decide, isAgg3, Z, Z, CEq.int underlying3⟩, Z, Z⟩, Z⟩, Z⟩) (congrArg (fun b => AV.bool (!b)) (api.File.eq_iff r228.1 (ix r143 s223.i)).symm)), yp Z (pu_pick (b := false) Z (tm Z) (fun h => nomatch h) (fun _ => (tm Z))), trivial⟩
       obtain rfl := some_of h
       exact ⟨(), Weak.mkL [1, 2, 3] (by decide) ⟨⟨_, Z, cr, Z⟩, ⟨_, Z, cr, Z⟩, ⟨_, Z, Z⟩, trivial⟩ ⟨tm Z, tm Z, tm Z, tm Z, tm Z, trivial⟩⟩
     ·intro _
      have h := h233
      refine aw_cond (b := s232) (tm Z) (fun hb237 => ?_) (fun hb237 => ?_)
      ·replace h := ite_t hb237 h
       refine xr (xa (.bool false) Z (pu_assign Z (AEv.bool _)) (xe (aw_ret ?_)))
       obtain rfl := some_of h
       have h := congrArg some (hx224 _ rfl)
       obtain rfl := some_of h
       have h := onSum_inr h195
       obtain rfl := some_of h
       exact ⟨[.bool false], _, [], ⟨(tm Z), trivial⟩, vr, Weak.mkL [] (by decide) trivial trivial, ⟨Z, Z⟩⟩
      ·replace h := ite_fb hb237 h
       refine aw_skip (aw_region (xm Z Z Z (xa (.i (IntKind.wrap .i64 (s223.i + 1))) Z (pu_int (v := .i (IntKind.wrap .i64 (s223.i + 1))) Z Z (tm Z) (AEv.int _ _) Z) (xm Z Z Z (xe ?_)))))
       obtain rfl := some_of h
       exact ⟨_, (), Z, Weak.mkL [0, 1, 2] (by decide) ⟨⟨_, Z, cr, Z⟩, ⟨_, Z, cr, Z⟩, ⟨_, Z, Z⟩, trivial⟩ ⟨tm Z, tm Z, tm Z, (AEv.le (tm Z) vr), trivial⟩⟩
    ·replace h := ite_f (dec_f hb238) h
     refine aw_exit ?_
     obtain rfl := some_of h
     have h := congrArg some (hx224 _ rfl)
     exact ⟨(), (), (some_of h).symm, Weak.mkL [0, 1] (by decide) ⟨⟨_, Z, cr, Z⟩, ⟨_, Z, cr, Z⟩, trivial⟩ ⟨tm Z, tm Z, trivial⟩⟩

end Go.Pu
