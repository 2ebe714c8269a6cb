/- Printed by lift.py: the functions come to them. -/
import Derived.Test.YtmognhokagemiaaGreatLiftWS
import Derived.Test.YtmognhokagemiaaGreatRLK5
set_option maxRecDepth 100000
set_option maxHeartbeats 0
namespace Go.Pu
open Go.Lift Go.Proofs.Tryz Go.RowKit Go.Proofs

theorem mewsref16.with_.ok {d : api.Disk} {f : api.File} {r : api.Disk} (h : mewsref16.with_ d f = some r) : Go.Lift.Spec prog 61 [.agg [.sl .no 3 (d.Files.map api.File.av), .sl .no 3 (d.Faults.map api.Fault.av)], .agg [.str f.Name, .str f.Data, .i f.Synced]] [] (fun v H => ∃ n0, v = .agg [.sl (.own n0) 3 (r.Files.map api.File.av), .sl .no 3 (r.Faults.map api.Fault.av)] ∧ H = [(n0, .spare)]) := by
 unfold mewsref16.with_ at h
 refine Go.Lift.Spec.of_body (rs := [.cell 4 25]) func61 Z Z (nb Z) Z (xr (xc Z (op_box (cs := [.sl .no 3 (d.Files.map api.File.av), .sl .no 3 (d.Faults.map api.Fault.av)]) (v := .agg [.sl .no 3 (d.Files.map api.File.av), .sl .no 3 (d.Faults.map api.Fault.av)]) Z (tm Z) Z Z ?_)))
 intro p153
 refine xc Z (op_box (cs := [.str f.Name, .str f.Data, .i f.Synced]) (v := .agg [.str f.Name, .str f.Data, .i f.Synced]) Z (tm Z) Z Z ?_)
 intro p154
 refine xc Z (op_alloc (cs := [.sl .full 3 (([] : List api.File).map api.File.av), .sl .full 3 (([] : List api.Fault).map api.Fault.av)]) (v := .agg [.sl .full 3 (([] : List api.File).map api.File.av), .sl .full 3 (([] : List api.Fault).map api.Fault.av)]) Z zeroValue25 Z Z Z ?_)
 intro p155
 refine xe (xr (xa (.ptr p153 1) Z (fa Z underlying25 Z sizeOf23 Z Z Z) (xl 2 isAgg23 Z (xa (.agg [.sl .full 3 (([] : List api.File).map api.File.av), .sl .no 3 (d.Faults.map api.Fault.av)]) Z (pu_build (zs := [.sl .full 3 (([] : List api.File).map api.File.av), .sl .full 3 (([] : List api.Fault).map api.Fault.av)]) (szs := [1, 1]) (aparts := [(1, .sl .no 3 (d.Faults.map api.Fault.av))]) (cs := [.sl .full 3 (([] : List api.File).map api.File.av), .sl .no 3 (d.Faults.map api.Fault.av)]) Z underlying25 zeroValue25 Z ⟨sizeOf22, sizeOf23, trivial⟩ ⟨Z, (tm Z), trivial⟩ Z) (xc Z (op_alloc (cs := [.sl .full 3 (([] : List api.File).map api.File.av), .sl .full 3 (([] : List api.Fault).map api.Fault.av)]) (v := .agg [.sl .full 3 (([] : List api.File).map api.File.av), .sl .full 3 (([] : List api.Fault).map api.Fault.av)]) Z zeroValue25 Z Z Z ?_))))))
 intro p156
 refine xs 0 [.sl .full 3 (([] : List api.File).map api.File.av), .sl .no 3 (d.Faults.map api.Fault.av)] sizeOf25 Z (xe (xr (xL 3 isAgg25 sizeOf25 Z ?_)))
 obtain ⟨r157, r157e, h⟩ := bind_some h
 refine xk (mewsref16.Files.ok r157e) call35 Z ?_
 rintro _ _ ⟨t158, rfl, rfl⟩
 refine xy Z (xe (xr (xz (.bool false) Z (xe ?_))))
 obtain ⟨s225, s225e, h227⟩ := bind_some h
 refine aw_meet (ν := Nat) (fun v => [(3, .ptr p154 0), (4, .ptr p155 0), (5, .ptr p156 0), (7, .bool s225.1)]) (fun v => [(p154, .cells [.str f.Name, .str f.Data, .i f.Synced]), (p155, .cells [.sl .full 3 (([] : List api.File).map api.File.av), .sl .full 3 (([] : List api.Fault).map api.Fault.av)]), (p156, .cells [.sl (.own v) 3 (s225.2.map api.File.av), .sl .no 3 (d.Faults.map api.Fault.av)]), (v, .spare)]) ?_ ?_
 ·have h := s225e
  refine xr (xz (.i 0) Z (xe (aw_block (aw_claimCell 1 0 Z Z fun t294 => (aw_while (σ := mewsref16.with_.S0) (ν := Nat) (mewsref16.with_.body0 r157 f) (fun s270 v => [(3, .ptr p154 0), (4, .ptr p155 0), (5, .ptr p156 0), (6, .sl (.own t158) 3 (r157.map api.File.av)), (7, .bool s270.met), (8, .i s270.i)]) (fun s270 v => [(p154, .cells [.str f.Name, .str f.Data, .i f.Synced]), (p155, .cells [.sl .full 3 (([] : List api.File).map api.File.av), .sl .full 3 (([] : List api.Fault).map api.Fault.av)]), (p156, .cells [.sl (.own v) 3 (s270.c.map api.File.av), .sl .no 3 (d.Faults.map api.Fault.av)]), (t158, .spare), (v, .spare)]) ⟨false, 0, ([] : List api.File)⟩ t294 _ h (wi [4, 3, 2, 1, 0] Z) ?_)))))
  rintro s270 n271 x273 h hx272
  unfold mewsref16.with_.body0 at h
  refine aw_seq (xr (xy Z (xy Z (xa (.i (r157.length : Int)) Z (pu_lenM Z underlying22 (tm Z)) (xz (.bool (decide (s270.i < (r157.length : Int)))) Z (xe (cd h (tm Z) (fun _ h => ?_) (fun _ h => ?_))))))))
  ·refine aw_skip ?_
   obtain ⟨s282, s282e, h284⟩ := bind_some h
   refine aw_meet (ν := Nat) (fun v => [(3, .ptr p154 0), (4, .ptr p155 0), (5, .ptr p156 0), (6, .sl (.own t158) 3 (r157.map api.File.av)), (7, .bool s282.1), (8, .i s270.i)]) (fun v => [(p154, .cells [.str f.Name, .str f.Data, .i f.Synced]), (p155, .cells [.sl .full 3 (([] : List api.File).map api.File.av), .sl .full 3 (([] : List api.Fault).map api.Fault.av)]), (p156, .cells [.sl (.own v) 3 (s282.2.map api.File.av), .sl .no 3 (d.Faults.map api.Fault.av)]), (t158, .spare), (v, .spare)]) ?_ ?_
   ·have h := s282e
    refine aw_block (aw_seq ?_)
    obtain ⟨c286, h⟩ := need_of h
    refine aw_planR (by decide +kernel) [[], [], [], [], [], [], [(0, 0, false)], []] [[], [], [], [], []] [[[(p154, .cells [.str f.Name, .str f.Data, .i f.Synced])]], [[(p155, .cells [.sl .full 3 (([] : List api.File).map api.File.av), .sl .full 3 (([] : List api.Fault).map api.Fault.av)])]], [[(p156, .cells [.sl (.own n271) 3 (s270.c.map api.File.av), .sl .no 3 (d.Faults.map api.Fault.av)])]], [[(t158, .spare)]], [[(n271, .spare)]]] [.sl (.own t158) 3 (r157.map api.File.av), .i s270.i, .vptr [.str (ix r157 s270.i).Name, .str (ix r157 s270.i).Data, .i (ix r157 s270.i).Synced], .vptr [.str (ix r157 s270.i).Name, .str (ix r157 s270.i).Data, .i (ix r157 s270.i).Synced], .str (ix r157 s270.i).Name, .ptr p154 0, .str f.Name, .bool (decide ((ix r157 s270.i).Name = f.Name))] (by decide +kernel) Z Z ?_ ?_
    ·exact ⟨ym Z Z Z, ym Z Z Z, yp Z (pu_indexAddrM Z underlying22 sizeOf60 (tm Z) (tm Z) c286 Z), yp Z (fa Z underlying60 Z sizeOf9 Z Z Z), stepg_plain Z (op_loadV1 Z isAgg9 (tm Z) Z ⟨Z, Z⟩), yp Z (fa Z underlying60 Z sizeOf9 Z Z Z), stepg_plain Z (op_load1 (i := 0) Z isAgg9 (tm Z) Z Z ⟨Z, Z⟩), yp Z (pu_str (v := .bool (decide ((ix r157 s270.i).Name = f.Name))) Z Z (tm Z) (tm Z) Z), trivial⟩
    refine aw_cond (b := decide ((ix r157 s270.i).Name = f.Name)) (tm Z) (fun hb292 => ?_) (fun hb292 => ?_)
    ·replace h := ite_t (dec_t hb292) h
     refine xr (xa (.ptr p156 0) Z (fa Z underlying25 Z sizeOf22 Z Z Z) (xl 2 isAgg22 Z (xL 0 isAgg60 sizeOf60 Z (xc Z (op_buildSlice (xs := ([f] : List api.File).map api.File.av) (aparts := [(0, .agg [.str f.Name, .str f.Data, .i f.Synced])]) Z underlying22 sizeOf60 zeroValue60 (by decide) (by decide) ⟨Z, (tm Z), trivial⟩ Z Z Z ?_)))))
     obtain ⟨c287, h⟩ := need_of h
     refine xc Z (op_appendOM (q := 4) Z underlying22 underlying22 (.inl Z) typeInfo60 Z Z Z (by decide) (tm Z) Z (given_sl (tm Z)) c287 ?_)
     intro t288
     refine xa (.ptr p156 0) Z (fa Z underlying25 Z sizeOf22 Z Z Z) (xs 2 [.sl (.own t288) 3 ((s270.c ++ [f]).map api.File.av), .sl .no 3 (d.Faults.map api.Fault.av)] sizeOf22 Z (xe (aw_region (xz (.bool true) Z (xe ?_)))))
     cases h
     exact ⟨t288, wl [0, 1, 2, 3, 4] Z ⟨⟨_, Z, cr, Z⟩, ⟨_, Z, cr, Z⟩, ⟨_, Z, ⟨vr, vr, trivial⟩, Z⟩, ⟨_, Z, Z⟩, ⟨_, Z, Z⟩, trivial⟩ ⟨tm Z, tm Z, tm Z, tm Z, tm Z, tm Z, trivial⟩⟩
    ·replace h := ite_f (dec_f hb292) h
     obtain ⟨c289, h⟩ := need_of h
     obtain ⟨c290, h⟩ := need_of h
     refine aw_reserve fun p291 => (aw_planR (by decide +kernel) [[], [(3, 0, false)], [], [], [], [], [], [(5, 0, true), (0, 0, true)], [], [(3, 0, true)]] [[7], [], [], [9], [], [7]] [[[(p291, .resv)], [(p291, .spare)]], [[(p154, .cells [.str f.Name, .str f.Data, .i f.Synced])]], [[(p155, .cells [.sl .full 3 (([] : List api.File).map api.File.av), .sl .full 3 (([] : List api.Fault).map api.Fault.av)])]], [[(p156, .cells [.sl (.own n271) 3 (s270.c.map api.File.av), .sl .no 3 (d.Faults.map api.Fault.av)])], [(p156, .cells [.sl (.own p291) 3 ((s270.c ++ [(ix r157 s270.i)]).map api.File.av), .sl .no 3 (d.Faults.map api.Fault.av)])]], [[(t158, .spare)]], [[(n271, .spare)], []]] [.ptr p156 0, .sl (.own n271) 3 (s270.c.map api.File.av), .sl (.own t158) 3 (r157.map api.File.av), .i s270.i, .vptr [.str (ix r157 s270.i).Name, .str (ix r157 s270.i).Data, .i (ix r157 s270.i).Synced], .agg [.str (ix r157 s270.i).Name, .str (ix r157 s270.i).Data, .i (ix r157 s270.i).Synced], .sl .full 3 ([(ix r157 s270.i)].map api.File.av), .sl (.own p291) 3 ((s270.c ++ [(ix r157 s270.i)]).map api.File.av), .ptr p156 0, .un] (by decide +kernel) Z Z ?_ ?_)
     ·exact ⟨yp Z (fa Z underlying25 Z sizeOf22 Z Z Z), stepg_plain Z (op_load1 (i := 0) Z isAgg22 (tm Z) Z Z ⟨Z, Z⟩), ym Z Z Z, ym Z Z Z, yp Z (pu_indexAddrM Z underlying22 sizeOf60 (tm Z) (tm Z) c289 Z), stepg_plain Z (op_loadVN Z isAgg60 sizeOf60 (tm Z) (nb Z) Z ⟨Z, Z⟩), stepg_plain Z (op_buildSlice (xs := ([(ix r157 s270.i)] : List api.File).map api.File.av) (aparts := [(0, .agg [.str (ix r157 s270.i).Name, .str (ix r157 s270.i).Data, .i (ix r157 s270.i).Synced])]) Z underlying22 sizeOf60 zeroValue60 (by decide) (by decide) ⟨Z, (tm Z), trivial⟩ Z Z Z ⟨Z, Z⟩), stepg_plain Z (aop_settleS (op_appendOM (q := 0) Z underlying22 underlying22 (.inl Z) typeInfo60 Z Z Z (by decide) (tm Z) Z (given_sl (tm Z)) c290 fun t => ⟨t, Z, Z⟩) ⟨Z, Z⟩), yp Z (fa Z underlying25 Z sizeOf22 Z Z Z), stepg_plain Z (op_store (i := 0) (cs' := [.sl (.own p291) 3 ((s270.c ++ [(ix r157 s270.i)]).map api.File.av), .sl .no 3 (d.Faults.map api.Fault.av)]) Z sizeOf22 (tm Z) (v := .sl (.own p291) 3 ((s270.c ++ [(ix r157 s270.i)]).map api.File.av)) (tm Z) Z Z Z (nb Z) Z ⟨Z, Z⟩), trivial⟩
     cases h
     exact ⟨p291, wl [1, 2, 3, 4, 0] Z ⟨⟨_, Z, cr, Z⟩, ⟨_, Z, cr, Z⟩, ⟨_, Z, ⟨vr, vr, trivial⟩, Z⟩, ⟨_, Z, Z⟩, ⟨_, Z, Z⟩, trivial⟩ ⟨tm Z, tm Z, tm Z, tm Z, tm Z, tm Z, trivial⟩⟩
   ·intro n283
    have h := h284
    refine aw_region (xy Z (xz (.i (IntKind.wrap .i64 (s270.i + 1))) Z (xy Z (xe ?_))))
    cases h
    exact ⟨_, n283, Z, wl [0, 1, 2, 3, 4] Z ⟨⟨_, Z, cr, Z⟩, ⟨_, Z, cr, Z⟩, ⟨_, Z, cr, Z⟩, ⟨_, Z, Z⟩, ⟨_, Z, Z⟩, trivial⟩ ⟨tm Z, tm Z, tm Z, tm Z, tm Z, (AEv.le (tm Z) vr), trivial⟩⟩
  ·refine aw_exit ?_
   cases h
   have h := congrArg some (hx272 _ rfl)
   cases h
   exact ⟨n271, wi [0, 1, 2, 4] Z⟩
 ·intro n226
  have h := h227
  obtain ⟨s298, s298e, h300⟩ := bind_some h
  refine aw_meet (ν := Nat) (fun v => [(4, .ptr p155 0), (5, .ptr p156 0)]) (fun v => [(p155, .cells [.sl .full 3 (([] : List api.File).map api.File.av), .sl .full 3 (([] : List api.Fault).map api.Fault.av)]), (p156, .cells [.sl (.own v) 3 (s298.map api.File.av), .sl .no 3 (d.Faults.map api.Fault.av)]), (v, .spare)]) ?_ ?_
  ·have h := s298e
   refine xr (xy Z (xz (.bool (!s225.1)) Z (xe (cb h (tm Z) (fun _ h => ?_) (fun _ h => ?_)))))
   ·refine aw_region (xa (.ptr p156 0) Z (fa Z underlying25 Z sizeOf22 Z Z Z) (xl 2 isAgg22 Z (xL 0 isAgg60 sizeOf60 Z (xc Z (op_buildSlice (xs := ([f] : List api.File).map api.File.av) (aparts := [(0, .agg [.str f.Name, .str f.Data, .i f.Synced])]) Z underlying22 sizeOf60 zeroValue60 (by decide) (by decide) ⟨Z, (tm Z), trivial⟩ Z Z Z ?_)))))
    obtain ⟨c302, h⟩ := need_of h
    refine xc Z (op_appendOM (q := 3) Z underlying22 underlying22 (.inl Z) typeInfo60 Z Z Z (by decide) (tm Z) Z (given_sl (tm Z)) c302 ?_)
    intro t303
    refine xa (.ptr p156 0) Z (fa Z underlying25 Z sizeOf22 Z Z Z) (xs 2 [.sl (.own t303) 3 ((s225.2 ++ [f]).map api.File.av), .sl .no 3 (d.Faults.map api.Fault.av)] sizeOf22 Z (xe ?_))
    cases h
    exact ⟨t303, wl [1, 2, 3] Z ⟨⟨_, Z, cr, Z⟩, ⟨_, Z, ⟨vr, vr, trivial⟩, Z⟩, ⟨_, Z, Z⟩, trivial⟩ ⟨tm Z, tm Z, trivial⟩⟩
   ·refine aw_skip ?_
    cases h
    exact ⟨n226, wi [1, 2, 3] Z⟩
  ·intro n299
   have h := h300
   refine xr (xL 1 isAgg25 sizeOf25 Z (xs 0 [.sl (.own n299) 3 (s298.map api.File.av), .sl .no 3 (d.Faults.map api.Fault.av)] sizeOf25 Z (xe (aw_ret ?_))))
   cases h
   exact rq [.agg [.sl (.own n299) 3 (s298.map api.File.av), .sl .no 3 (d.Faults.map api.Fault.av)]] ⟨n299, Z, Z⟩ vr ⟨(CellOk.agg 0 (tm Z) Z isAgg25 sizeOf25 (nb Z) Z), trivial⟩ (wi [2] Z)

theorem mewsref16.Cut.ok {d : api.Disk} {name : List UInt8} {n_ : Int} {r : api.Disk × Int} (h : mewsref16.Cut d name n_ = some r) : Go.Lift.Spec prog 33 [.agg [.sl .no 3 (d.Files.map api.File.av), .sl .no 3 (d.Faults.map api.Fault.av)], .str name, .i n_] [] (fun v H => v = .tup [.agg [.sl .no 3 (r.1.Files.map api.File.av), .sl .no 3 (r.1.Faults.map api.Fault.av)], .i r.2] ∧ H = []) := by
 unfold mewsref16.Cut at h
 refine Go.Lift.Spec.of_body (rs := [.cell 6 25, .tmp 7]) func33 Z Z (nb Z) Z (xr (xc Z (op_box (cs := [.sl .no 3 (d.Files.map api.File.av), .sl .no 3 (d.Faults.map api.Fault.av)]) (v := .agg [.sl .no 3 (d.Files.map api.File.av), .sl .no 3 (d.Faults.map api.Fault.av)]) Z (tm Z) Z Z ?_)))
 intro p11
 refine xc Z (op_alloc (cs := [.sl .full 3 (([] : List api.File).map api.File.av), .sl .full 3 (([] : List api.Fault).map api.Fault.av)]) (v := .agg [.sl .full 3 (([] : List api.File).map api.File.av), .sl .full 3 (([] : List api.Fault).map api.Fault.av)]) Z zeroValue25 Z Z Z ?_)
 intro p12
 refine xz (.i 0) Z (xe (xr (xL 1 isAgg25 sizeOf25 Z (xy Z ?_))))
 obtain ⟨r13, r13e, h⟩ := bind_some h
 refine xk (mewsref16.Find.ok r13e) call31 Z ?_
 rintro _ _ ⟨rfl, rfl⟩
 refine xy Z (xz (.agg [.str r13.1.Name, .str r13.1.Data, .i r13.1.Synced]) Z (xz (.bool r13.2) Z (xc Z (op_alloc (cs := [.str ([] : List UInt8), .str ([] : List UInt8), .i 0]) (v := .agg [.str ([] : List UInt8), .str ([] : List UInt8), .i 0]) Z zeroValue60 Z Z Z ?_))))
 intro p14
 refine xs 0 [.str r13.1.Name, .str r13.1.Data, .i r13.1.Synced] sizeOf60 Z (xy Z (xe (aw_seq (xr (xy Z (xz (.bool (!r13.2)) Z (xe (cb h (tm Z) (fun _ h => ?_) (fun _ h => ?_)))))))))
 ·refine xr (xL 2 isAgg25 sizeOf25 Z (xs 1 [.sl .no 3 (d.Files.map api.File.av), .sl .no 3 (d.Faults.map api.Fault.av)] sizeOf25 Z (xz (.i 8) Z (xe (aw_ret ?_)))))
  cases h
  exact rq [.agg [.sl .no 3 (d.Files.map api.File.av), .sl .no 3 (d.Faults.map api.Fault.av)], .i 8] ⟨Z, Z⟩ (AV.Le.tup cr) ⟨(CellOk.agg 1 (tm Z) Z isAgg25 sizeOf25 (nb Z) Z), (tm Z), trivial⟩ w0
 ·refine aw_skip (aw_seq ?_)
  obtain ⟨r15, r15e, h⟩ := bind_some h
  obtain ⟨c16, h⟩ := need_of h
  refine aw_planR (by decide +kernel) [[], [(0, 0, false)], [], [], [(0, 0, false)], [], [], [], [], [(0, 0, true)]] [[9], [], []] [[[(p14, .cells [.str r13.1.Name, .str r13.1.Data, .i r13.1.Synced])], [(p14, .cells [.str r13.1.Name, .str (sub r13.1.Data 0 r15), .i r13.1.Synced])]], [[(p12, .cells [.sl .full 3 (([] : List api.File).map api.File.av), .sl .full 3 (([] : List api.Fault).map api.Fault.av)])]], [[(p11, .cells [.sl .no 3 (d.Files.map api.File.av), .sl .no 3 (d.Faults.map api.Fault.av)])]]] [.ptr p14 1, .str r13.1.Data, .i n_, .ptr p14 1, .str r13.1.Data, .i (r13.1.Data.length : Int), .i r15, .str (sub r13.1.Data 0 r15), .ptr p14 1, .un] (by decide +kernel) Z Z ?_ ?_
  ·exact ⟨yp Z (fa Z underlying60 Z sizeOf9 Z Z Z), stepg_plain Z (op_load1 (i := 0) Z isAgg9 (tm Z) Z Z ⟨Z, Z⟩), ym Z Z Z, yp Z (fa Z underlying60 Z sizeOf9 Z Z Z), stepg_plain Z (op_load1 (i := 0) Z isAgg9 (tm Z) Z Z ⟨Z, Z⟩), yp Z (pu_strLen Z underlying9 (tm Z)), stepg_plain Z (op_call (vs := [.i n_, .i (r13.1.Data.length : Int)]) (H := []) Z call59 ⟨(tm Z), (tm Z), trivial⟩ (R := []) (List.Perm.refl _) (mewsref16.between.ok r15e) (by rintro _ _ ⟨rfl, rfl⟩; exact ⟨Z, Z⟩)), yp Z (pu_strSliceM Z underlying9 (tm Z) Z ⟨_, (tm Z)⟩ c16), yp Z (fa Z underlying60 Z sizeOf9 Z Z Z), stepg_plain Z (op_store (i := 0) (cs' := [.str r13.1.Name, .str (sub r13.1.Data 0 r15), .i r13.1.Synced]) Z sizeOf9 (tm Z) (v := .str (sub r13.1.Data 0 r15)) (tm Z) Z Z Z (nb Z) Z ⟨Z, Z⟩), trivial⟩
  refine xr (xa (.ptr p14 2) Z (fa Z underlying60 Z sizeOf3 Z Z Z) (xl 0 isAgg3 Z (xa (.ptr p14 1) Z (fa Z underlying60 Z sizeOf9 Z Z Z) (xl 0 isAgg9 Z (xa (.i ((sub r13.1.Data 0 r15).length : Int)) Z (pu_strLen Z underlying9 (tm Z)) ?_)))))
  obtain ⟨r17, r17e, h⟩ := bind_some h
  refine xk (mewsref16.between.ok r17e) call59 Z ?_
  rintro _ _ ⟨rfl, rfl⟩
  refine xa (.ptr p14 2) Z (fa Z underlying60 Z sizeOf3 Z Z Z) (xs 0 [.str r13.1.Name, .str (sub r13.1.Data 0 r15), .i r17] sizeOf3 Z (xe (xr (xL 2 isAgg25 sizeOf25 Z (xL 0 isAgg60 sizeOf60 Z ?_)))))
  obtain ⟨r18, r18e, h⟩ := bind_some h
  refine xk (mewsref16.with_.ok r18e) call61 Z ?_
  rintro _ _ ⟨t19, rfl, rfl⟩
  refine xs 2 [.sl (.own t19) 3 (r18.Files.map api.File.av), .sl .no 3 (r18.Faults.map api.Fault.av)] sizeOf25 Z (xz (.i 0) Z (xe (aw_ret ?_)))
  cases h
  exact rq [.agg [.sl (.own t19) 3 (r18.Files.map api.File.av), .sl .no 3 (r18.Faults.map api.Fault.av)], .i 0] ⟨Z, Z⟩ (AV.Le.tup ⟨(AV.Le.agg ⟨(AV.Le.forget _ _ _), vr, trivial⟩), vr, trivial⟩) ⟨(CellOk.agg 2 (tm Z) Z isAgg25 sizeOf25 (nb Z) Z), (tm Z), trivial⟩ w0

theorem mewsref16.Meets.ok {d : api.Disk} {name : List UInt8} {kind : Int} {r : api.Disk × api.Fault × Bool} (h : mewsref16.Meets d name kind = some r) : Go.Lift.Spec prog 62 [.agg [.sl .no 3 (d.Files.map api.File.av), .sl .no 3 (d.Faults.map api.Fault.av)], .str name, .i kind] [] (fun v H => ∃ n0, v = .tup [.agg [.sl .no 3 (r.1.Files.map api.File.av), .sl (.own n0) 3 (r.1.Faults.map api.Fault.av)], .agg [.str r.2.1.Name, .i r.2.1.Kind, .i r.2.1.Short], .bool r.2.2] ∧ H = [(n0, .spare)]) := by
 unfold mewsref16.Meets at h
 refine Go.Lift.Spec.of_body (rs := [.cell 6 25, .cell 7 79, .tmp 8]) func62 Z Z (nb Z) Z (xr (xc Z (op_box (cs := [.sl .no 3 (d.Files.map api.File.av), .sl .no 3 (d.Faults.map api.Fault.av)]) (v := .agg [.sl .no 3 (d.Files.map api.File.av), .sl .no 3 (d.Faults.map api.Fault.av)]) Z (tm Z) Z Z ?_)))
 intro p198
 refine xc Z (op_alloc (cs := [.sl .full 3 (([] : List api.File).map api.File.av), .sl .full 3 (([] : List api.Fault).map api.Fault.av)]) (v := .agg [.sl .full 3 (([] : List api.File).map api.File.av), .sl .full 3 (([] : List api.Fault).map api.Fault.av)]) Z zeroValue25 Z Z Z ?_)
 intro p199
 refine xc Z (op_alloc (cs := [.str ([] : List UInt8), .i 0, .i 0]) (v := .agg [.str ([] : List UInt8), .i 0, .i 0]) Z zeroValue79 Z Z Z ?_)
 intro p200
 refine xz (.bool false) Z (xe (xr (xa (.ptr p198 0) Z (fa Z underlying25 Z sizeOf22 Z Z Z) (xl 2 isAgg22 Z (xa (.agg [.sl .no 3 (d.Files.map api.File.av), .sl .full 3 (([] : List api.Fault).map api.Fault.av)]) Z (pu_build (zs := [.sl .full 3 (([] : List api.File).map api.File.av), .sl .full 3 (([] : List api.Fault).map api.Fault.av)]) (szs := [1, 1]) (aparts := [(0, .sl .no 3 (d.Files.map api.File.av))]) (cs := [.sl .no 3 (d.Files.map api.File.av), .sl .full 3 (([] : List api.Fault).map api.Fault.av)]) Z underlying25 zeroValue25 Z ⟨sizeOf22, sizeOf23, trivial⟩ ⟨Z, (tm Z), trivial⟩ Z) (xc Z (op_alloc (cs := [.sl .full 3 (([] : List api.File).map api.File.av), .sl .full 3 (([] : List api.Fault).map api.Fault.av)]) (v := .agg [.sl .full 3 (([] : List api.File).map api.File.av), .sl .full 3 (([] : List api.Fault).map api.Fault.av)]) Z zeroValue25 Z Z Z ?_)))))))
 intro p201
 refine xs 0 [.sl .no 3 (d.Files.map api.File.av), .sl .full 3 (([] : List api.Fault).map api.Fault.av)] sizeOf25 Z (xe (xr (xc Z (op_alloc (cs := [.str ([] : List UInt8), .i 0, .i 0]) (v := .agg [.str ([] : List UInt8), .i 0, .i 0]) Z zeroValue79 Z Z Z ?_))))
 intro p202
 refine xe (xr (xz (.bool false) Z (xe ?_)))
 obtain ⟨s297, s297e, h299⟩ := bind_some h
 refine aw_meet (ν := Nat) (fun v => [(6, .ptr p199 0), (7, .ptr p200 0), (9, .ptr p201 0), (10, .ptr p202 0), (11, .bool s297.1)]) (fun v => [(p199, .cells [.sl .full 3 (([] : List api.File).map api.File.av), .sl .full 3 (([] : List api.Fault).map api.Fault.av)]), (p200, .cells [.str ([] : List UInt8), .i 0, .i 0]), (p201, .cells [.sl .no 3 (d.Files.map api.File.av), .sl (.own v) 3 (s297.2.1.map api.Fault.av)]), (p202, .cells [.str s297.2.2.1, .i s297.2.2.2.1, .i s297.2.2.2.2]), (v, .spare)]) ?_ ?_
 ·have h := s297e
  refine xr (xz (.i 0) Z (xe (aw_block (aw_claimCell 1 1 Z Z fun t394 => (aw_while (σ := mewsref16.Meets.S0) (ν := Nat) (mewsref16.Meets.body0 d name kind) (fun s360 v => [(1, .str name), (2, .i kind), (3, .ptr p198 0), (6, .ptr p199 0), (7, .ptr p200 0), (9, .ptr p201 0), (10, .ptr p202 0), (11, .bool s360.is), (12, .i s360.i)]) (fun s360 v => [(p198, .cells [.sl .no 3 (d.Files.map api.File.av), .sl .no 3 (d.Faults.map api.Fault.av)]), (p199, .cells [.sl .full 3 (([] : List api.File).map api.File.av), .sl .full 3 (([] : List api.Fault).map api.Fault.av)]), (p200, .cells [.str ([] : List UInt8), .i 0, .i 0]), (p201, .cells [.sl .no 3 (d.Files.map api.File.av), .sl (.own v) 3 (s360.c.map api.Fault.av)]), (p202, .cells [.str s360.c2, .i s360.c3, .i s360.c4]), (v, .spare)]) ⟨false, 0, ([] : List api.Fault), ([] : List UInt8), 0, 0⟩ t394 _ h (wi [5, 4, 3, 2, 1, 0] Z) ?_)))))
  rintro s360 n361 x363 h hx362
  unfold mewsref16.Meets.body0 at h
  refine aw_seq (xr (xy Z (xa (.ptr p198 1) Z (fa Z underlying25 Z sizeOf23 Z Z Z) (xl 0 isAgg23 Z (xa (.i (d.Faults.length : Int)) Z (pu_lenM Z underlying23 (tm Z)) (xz (.bool (decide (s360.i < (d.Faults.length : Int)))) Z (xe (cd h (tm Z) (fun _ h => ?_) (fun _ h => ?_)))))))))
  ·refine aw_skip ?_
   obtain ⟨s377, s377e, h379⟩ := bind_some h
   refine aw_meet (ν := Nat) (fun v => [(1, .str name), (2, .i kind), (3, .ptr p198 0), (6, .ptr p199 0), (7, .ptr p200 0), (9, .ptr p201 0), (10, .ptr p202 0), (11, .bool s377.1), (12, .i s360.i)]) (fun v => [(p198, .cells [.sl .no 3 (d.Files.map api.File.av), .sl .no 3 (d.Faults.map api.Fault.av)]), (p199, .cells [.sl .full 3 (([] : List api.File).map api.File.av), .sl .full 3 (([] : List api.Fault).map api.Fault.av)]), (p200, .cells [.str ([] : List UInt8), .i 0, .i 0]), (p201, .cells [.sl .no 3 (d.Files.map api.File.av), .sl (.own v) 3 (s377.2.1.map api.Fault.av)]), (p202, .cells [.str s377.2.2.1, .i s377.2.2.2.1, .i s377.2.2.2.2]), (v, .spare)]) ?_ ?_
   ·have h := s377e
    refine aw_block (xr (xa (.ptr p198 1) Z (fa Z underlying25 Z sizeOf23 Z Z Z) (xl 0 isAgg23 Z (xy Z ?_))))
    obtain ⟨c381, h⟩ := need_of h
    refine xa (.vptr [.str (ix d.Faults s360.i).Name, .i (ix d.Faults s360.i).Kind, .i (ix d.Faults s360.i).Short]) Z (pu_indexAddrM Z underlying23 sizeOf79 (tm Z) (tm Z) c381 Z) (xc Z (op_loadVN Z isAgg79 sizeOf79 (tm Z) (nb Z) Z (xc Z (op_alloc (cs := [.str ([] : List UInt8), .i 0, .i 0]) (v := .agg [.str ([] : List UInt8), .i 0, .i 0]) Z zeroValue79 Z Z Z ?_))))
    intro p382
    refine xs 0 [.str (ix d.Faults s360.i).Name, .i (ix d.Faults s360.i).Kind, .i (ix d.Faults s360.i).Short] sizeOf79 Z (xe ?_)
    obtain ⟨s385, s385e, h386⟩ := letO_of h
    refine aw_meet (ν := Unit) (fun v => [(1, .str name), (2, .i kind), (3, .ptr p198 0), (6, .ptr p199 0), (7, .ptr p200 0), (9, .ptr p201 0), (10, .ptr p202 0), (11, .bool s360.is), (12, .i s360.i), (13, .ptr p382 0), (42, .bool s385)]) (fun v => [(p198, .cells [.sl .no 3 (d.Files.map api.File.av), .sl .no 3 (d.Faults.map api.Fault.av)]), (p199, .cells [.sl .full 3 (([] : List api.File).map api.File.av), .sl .full 3 (([] : List api.Fault).map api.Fault.av)]), (p200, .cells [.str ([] : List UInt8), .i 0, .i 0]), (p201, .cells [.sl .no 3 (d.Files.map api.File.av), .sl (.own n361) 3 (s360.c.map api.Fault.av)]), (p202, .cells [.str s360.c2, .i s360.c3, .i s360.c4]), (p382, .cells [.str (ix d.Faults s360.i).Name, .i (ix d.Faults s360.i).Kind, .i (ix d.Faults s360.i).Short]), (n361, .spare)]) ?_ ?_
    ·have h := s385e.symm
     refine aw_region (xy Z (xz (.bool (!s360.is)) Z (xy Z ?_)))
     rcases Bool.eq_false_or_eq_true (!s360.is) with hb388 | hb388
     ·replace h := ite_t hb388 h
      refine aops_known 31 Z hb388 (xp (.ptr p382 0) Z Z (fa Z underlying79 Z sizeOf9 Z Z Z) (xg Z Z (op_load1 (i := 0) Z isAgg9 (tm Z) Z Z (xq Z Z Z Z (xp (.bool (decide ((ix d.Faults s360.i).Name = name))) Z Z (pu_str (v := .bool (decide ((ix d.Faults s360.i).Name = name))) Z Z (tm Z) (tm Z) Z) (xz (.bool (decide ((ix d.Faults s360.i).Name = name))) Z (xy Z ?_)))))))
      rcases Bool.eq_false_or_eq_true (decide ((ix d.Faults s360.i).Name = name)) with hb389 | hb389
      ·replace h := ite_t (dec_t hb389) h
       refine aops_known 37 Z hb389 (xp (.ptr p382 1) Z Z (fa Z underlying79 Z sizeOf3 Z Z Z) (xg Z Z (op_load1 (i := 0) Z isAgg3 (tm Z) Z Z (xq Z Z Z Z (xp (.bool (decide ((ix d.Faults s360.i).Kind = kind))) Z Z (pe Z) (xz (.bool (decide ((ix d.Faults s360.i).Kind = kind))) Z (xe ?_)))))))
       subst h
       exact ⟨(), wl [1, 2, 3, 4, 5, 0, 6] Z ⟨⟨_, Z, cr, Z⟩, ⟨_, Z, cr, Z⟩, ⟨_, Z, cr, Z⟩, ⟨_, Z, cr, Z⟩, ⟨_, Z, cr, Z⟩, ⟨_, Z, cr, Z⟩, ⟨_, Z, Z⟩, trivial⟩ ⟨tm Z, tm Z, tm Z, tm Z, tm Z, tm Z, tm Z, tm Z, tm Z, tm Z, (AEv.le (tm Z) vr), trivial⟩⟩
      ·replace h := ite_f (dec_f hb389) h
       refine aops_known 37 Z hb389 (xu Z (xu Z (xu Z (xu Z (xz (.bool false) Z (xe ?_))))))
       subst h
       exact ⟨(), wi [1, 2, 3, 4, 5, 0, 6] Z⟩
     ·replace h := ite_fb hb388 h
      refine aops_known 31 Z hb388 (xu Z (xu Z (xu Z (xu Z (xz (.bool false) Z (xy Z (xu Z (xu Z (xu Z ?_)))))))))
      refine xu Z (xz (.bool false) Z (xe ?_))
      subst h
      exact ⟨(), wi [1, 2, 3, 4, 5, 0, 6] Z⟩
    ·intro _
     have h := h386
     refine aw_cond (b := s385) (tm Z) (fun hb392 => ?_) (fun hb392 => ?_)
     ·replace h := ite_t hb392 h
      refine aw_region (xL 5 isAgg79 sizeOf79 Z (xs 4 [.str (ix d.Faults s360.i).Name, .i (ix d.Faults s360.i).Kind, .i (ix d.Faults s360.i).Short] sizeOf79 Z (xz (.bool true) Z (xe ?_))))
      cases h
      exact ⟨n361, wi [0, 1, 2, 3, 4, 6] Z⟩
     ·replace h := ite_fb hb392 h
      refine aw_region (xa (.ptr p201 1) Z (fa Z underlying25 Z sizeOf23 Z Z Z) (xl 3 isAgg23 Z (xL 5 isAgg79 sizeOf79 Z (xc Z (op_buildSlice (xs := ([(ix d.Faults s360.i)] : List api.Fault).map api.Fault.av) (aparts := [(0, .agg [.str (ix d.Faults s360.i).Name, .i (ix d.Faults s360.i).Kind, .i (ix d.Faults s360.i).Short])]) Z underlying23 sizeOf79 zeroValue79 (by decide) (by decide) ⟨Z, (tm Z), trivial⟩ Z Z Z ?_)))))
      obtain ⟨c390, h⟩ := need_of h
      refine xc Z (op_appendOM (q := 6) Z underlying23 underlying23 (.inl Z) typeInfo79 Z Z Z (by decide) (tm Z) Z (given_sl (tm Z)) c390 ?_)
      intro t391
      refine xa (.ptr p201 1) Z (fa Z underlying25 Z sizeOf23 Z Z Z) (xs 3 [.sl .no 3 (d.Files.map api.File.av), .sl (.own t391) 3 ((s360.c ++ [(ix d.Faults s360.i)]).map api.Fault.av)] sizeOf23 Z (xe ?_))
      cases h
      exact ⟨t391, wl [0, 1, 2, 3, 4, 6] Z ⟨⟨_, Z, cr, Z⟩, ⟨_, Z, cr, Z⟩, ⟨_, Z, cr, Z⟩, ⟨_, Z, ⟨vr, vr, trivial⟩, Z⟩, ⟨_, Z, cr, Z⟩, ⟨_, Z, Z⟩, trivial⟩ ⟨tm Z, tm Z, tm Z, tm Z, tm Z, tm Z, tm Z, tm Z, tm Z, trivial⟩⟩
   ·intro n378
    have h := h379
    refine aw_region (xy Z (xz (.i (IntKind.wrap .i64 (s360.i + 1))) Z (xy Z (xe ?_))))
    cases h
    exact ⟨_, n378, Z, wl [0, 1, 2, 3, 4, 5] Z ⟨⟨_, Z, cr, Z⟩, ⟨_, Z, cr, Z⟩, ⟨_, Z, cr, Z⟩, ⟨_, Z, cr, Z⟩, ⟨_, Z, cr, Z⟩, ⟨_, Z, Z⟩, trivial⟩ ⟨tm Z, tm Z, tm Z, tm Z, tm Z, tm Z, tm Z, tm Z, (AEv.le (tm Z) vr), trivial⟩⟩
  ·refine aw_exit ?_
   cases h
   have h := congrArg some (hx362 _ rfl)
   cases h
   exact ⟨n361, wi [1, 2, 3, 4, 5] Z⟩
 ·intro n298
  have h := h299
  refine aw_seq (aw_planR (by decide +kernel) [[(2, 0, false)], [(3, 0, false)], [], [(0, 0, true)], [(1, 0, true)], []] [[3], [4], [], [], []] [[[(p199, .cells [.sl .full 3 (([] : List api.File).map api.File.av), .sl .full 3 (([] : List api.Fault).map api.Fault.av)])], [(p199, .cells [.sl .no 3 (d.Files.map api.File.av), .sl (.own n298) 3 (s297.2.1.map api.Fault.av)])]], [[(p200, .cells [.str ([] : List UInt8), .i 0, .i 0])], [(p200, .cells [.str s297.2.2.1, .i s297.2.2.2.1, .i s297.2.2.2.2])]], [[(p201, .cells [.sl .no 3 (d.Files.map api.File.av), .sl (.own n298) 3 (s297.2.1.map api.Fault.av)])]], [[(p202, .cells [.str s297.2.2.1, .i s297.2.2.2.1, .i s297.2.2.2.2])]], [[(n298, .spare)]]] [.agg [.sl .no 3 (d.Files.map api.File.av), .sl (.own n298) 3 (s297.2.1.map api.Fault.av)], .agg [.str s297.2.2.1, .i s297.2.2.2.1, .i s297.2.2.2.2], .bool s297.1, .un, .un, .bool s297.1] (by decide +kernel) Z Z ?_ ?_)
  ·exact ⟨stepg_plain Z (op_loadN (i := 0) Z isAgg25 sizeOf25 (tm Z) Z (nb Z) Z ⟨Z, Z⟩), stepg_plain Z (op_loadN (i := 0) Z isAgg79 sizeOf79 (tm Z) Z (nb Z) Z ⟨Z, Z⟩), ym Z Z Z, stepg_plain Z (op_store (i := 0) (cs' := [.sl .no 3 (d.Files.map api.File.av), .sl (.own n298) 3 (s297.2.1.map api.Fault.av)]) Z sizeOf25 (tm Z) (v := .agg [.sl .no 3 (d.Files.map api.File.av), .sl (.own n298) 3 (s297.2.1.map api.Fault.av)]) (tm Z) Z Z Z (nb Z) Z ⟨Z, Z⟩), stepg_plain Z (op_store (i := 0) (cs' := [.str s297.2.2.1, .i s297.2.2.2.1, .i s297.2.2.2.2]) Z sizeOf79 (tm Z) (v := .agg [.str s297.2.2.1, .i s297.2.2.2.1, .i s297.2.2.2.2]) (tm Z) Z Z Z (nb Z) Z ⟨Z, Z⟩), ym Z Z Z, trivial⟩
  refine aw_ret ?_
  cases h
  exact rq [.agg [.sl .no 3 (d.Files.map api.File.av), .sl (.own n298) 3 (s297.2.1.map api.Fault.av)], .agg [.str s297.2.2.1, .i s297.2.2.2.1, .i s297.2.2.2.2], .bool s297.1] ⟨n298, Z, Z⟩ (AV.Le.tup cr) ⟨(CellOk.agg 0 (tm Z) Z isAgg25 sizeOf25 (nb Z) Z), (CellOk.agg 1 (tm Z) Z isAgg79 sizeOf79 (nb Z) Z), (tm Z), trivial⟩ (wi [4] Z)

theorem mewsref16.Sync.ok {d : api.Disk} {name : List UInt8} {r : api.Disk × Int} (h : mewsref16.Sync d name = some r) : Go.Lift.Spec prog 34 [.agg [.sl .no 3 (d.Files.map api.File.av), .sl .no 3 (d.Faults.map api.Fault.av)], .str name] [] (fun v H => v = .tup [.agg [.sl .no 3 (r.1.Files.map api.File.av), .sl .no 3 (r.1.Faults.map api.Fault.av)], .i r.2] ∧ H = []) := by
 unfold mewsref16.Sync at h
 refine Go.Lift.Spec.of_body (rs := [.cell 4 25, .tmp 5]) func34 Z Z (nb Z) Z (xr (xc Z (op_box (cs := [.sl .no 3 (d.Files.map api.File.av), .sl .no 3 (d.Faults.map api.Fault.av)]) (v := .agg [.sl .no 3 (d.Files.map api.File.av), .sl .no 3 (d.Faults.map api.Fault.av)]) Z (tm Z) Z Z ?_)))
 intro p12
 refine xc Z (op_alloc (cs := [.sl .full 3 (([] : List api.File).map api.File.av), .sl .full 3 (([] : List api.Fault).map api.Fault.av)]) (v := .agg [.sl .full 3 (([] : List api.File).map api.File.av), .sl .full 3 (([] : List api.Fault).map api.Fault.av)]) Z zeroValue25 Z Z Z ?_)
 intro p13
 refine xz (.i 0) Z (xe (xr (xL 1 isAgg25 sizeOf25 Z (xy Z ?_))))
 obtain ⟨r14, r14e, h⟩ := bind_some h
 refine xk (mewsref16.Find.ok r14e) call31 Z ?_
 rintro _ _ ⟨rfl, rfl⟩
 refine xy Z (xz (.agg [.str r14.1.Name, .str r14.1.Data, .i r14.1.Synced]) Z (xz (.bool r14.2) Z (xc Z (op_alloc (cs := [.str ([] : List UInt8), .str ([] : List UInt8), .i 0]) (v := .agg [.str ([] : List UInt8), .str ([] : List UInt8), .i 0]) Z zeroValue60 Z Z Z ?_))))
 intro p15
 refine xs 0 [.str r14.1.Name, .str r14.1.Data, .i r14.1.Synced] sizeOf60 Z (xy Z (xe (aw_seq (xr (xy Z (xz (.bool (!r14.2)) Z (xe (cb h (tm Z) (fun _ h => ?_) (fun _ h => ?_)))))))))
 ·refine xr (xL 2 isAgg25 sizeOf25 Z (xs 1 [.sl .no 3 (d.Files.map api.File.av), .sl .no 3 (d.Faults.map api.Fault.av)] sizeOf25 Z (xz (.i 8) Z (xe (aw_ret ?_)))))
  cases h
  exact rq [.agg [.sl .no 3 (d.Files.map api.File.av), .sl .no 3 (d.Faults.map api.Fault.av)], .i 8] ⟨Z, Z⟩ (AV.Le.tup cr) ⟨(CellOk.agg 1 (tm Z) Z isAgg25 sizeOf25 (nb Z) Z), (tm Z), trivial⟩ w0
 ·refine aw_skip (xr (xL 2 isAgg25 sizeOf25 Z (xy Z ?_)))
  obtain ⟨r16, r16e, h⟩ := bind_some h
  refine xk (mewsref16.Meets.ok r16e) call62 Z ?_
  rintro _ _ ⟨t17, rfl, rfl⟩
  refine xy Z (xz (.agg [.sl .no 3 (r16.1.Files.map api.File.av), .sl (.own t17) 3 (r16.1.Faults.map api.Fault.av)]) Z (xz (.agg [.str r16.2.1.Name, .i r16.2.1.Kind, .i r16.2.1.Short]) Z (xz (.bool r16.2.2) Z (xc Z (op_alloc (cs := [.str ([] : List UInt8), .i 0, .i 0]) (v := .agg [.str ([] : List UInt8), .i 0, .i 0]) Z zeroValue79 Z Z Z ?_)))))
  intro p18
  refine xs 4 [.sl .no 3 (r16.1.Files.map api.File.av), .sl (.own t17) 3 (r16.1.Faults.map api.Fault.av)] sizeOf25 Z (xs 0 [.str r16.2.1.Name, .i r16.2.1.Kind, .i r16.2.1.Short] sizeOf79 Z (xy Z (xe (aw_seq (xr (xy Z (xe (cb h (tm Z) (fun _ h => ?_) (fun _ h => ?_)))))))))
  ·refine xr (xL 4 isAgg25 sizeOf25 Z (xs 3 [.sl .no 3 (r16.1.Files.map api.File.av), .sl (.own t17) 3 (r16.1.Faults.map api.Fault.av)] sizeOf25 Z (xz (.i 15) Z (xe (aw_ret ?_)))))
   cases h
   exact rq [.agg [.sl .no 3 (r16.1.Files.map api.File.av), .sl (.own t17) 3 (r16.1.Faults.map api.Fault.av)], .i 15] ⟨Z, Z⟩ (AV.Le.tup ⟨(AV.Le.agg ⟨vr, (AV.Le.forget _ _ _), trivial⟩), vr, trivial⟩) ⟨(CellOk.agg 3 (tm Z) Z isAgg25 sizeOf25 (nb Z) Z), (tm Z), trivial⟩ w0
  ·refine aw_skip (xr (xa (.ptr p15 1) Z (fa Z underlying60 Z sizeOf9 Z Z Z) (xl 2 isAgg9 Z (xa (.i (r14.1.Data.length : Int)) Z (pu_strLen Z underlying9 (tm Z)) (xa (.ptr p15 2) Z (fa Z underlying60 Z sizeOf3 Z Z Z) (xs 2 [.str r14.1.Name, .str r14.1.Data, .i (r14.1.Data.length : Int)] sizeOf3 Z (xe (aw_seq ?_))))))))
   refine aw_region (xL 4 isAgg25 sizeOf25 Z (xL 2 isAgg60 sizeOf60 Z ?_))
   obtain ⟨r19, r19e, h⟩ := bind_some h
   refine xc Z (op_call (vs := [.agg [.sl .no 3 (r16.1.Files.map api.File.av), .sl .no 3 (r16.1.Faults.map api.Fault.av)], .agg [.str r14.1.Name, .str r14.1.Data, .i (r14.1.Data.length : Int)]]) (H := []) Z call61 ⟨(AEv.le (tm Z) (AV.Le.agg ⟨vr, (AV.Le.forget _ _ _), trivial⟩)), (tm Z), trivial⟩ (List.Perm.refl _) (mewsref16.with_.ok r19e) ?_)
   rintro _ _ ⟨t20, rfl, rfl⟩
   refine xs 4 [.sl (.own t20) 3 (r19.Files.map api.File.av), .sl .no 3 (r19.Faults.map api.Fault.av)] sizeOf25 Z (xz (.i 0) Z (xe (aw_ret ?_)))
   cases h
   exact rq [.agg [.sl (.own t20) 3 (r19.Files.map api.File.av), .sl .no 3 (r19.Faults.map api.Fault.av)], .i 0] ⟨Z, Z⟩ (AV.Le.tup ⟨(AV.Le.agg ⟨(AV.Le.forget _ _ _), vr, trivial⟩), vr, trivial⟩) ⟨(CellOk.agg 4 (tm Z) Z isAgg25 sizeOf25 (nb Z) Z), (tm Z), trivial⟩ w0

theorem mewsref18.Load.ok {d : api.Disk} {name : List UInt8} {r : api.Disk × (List api.Unit) × Int} (h : mewsref18.Load d name = some r) : Go.Lift.Spec prog 9 [.agg [.sl .no 3 (d.Files.map api.File.av), .sl .no 3 (d.Faults.map api.Fault.av)], .str name] [] (fun v H => ∃ n0, v = .tup [.agg [.sl .no 3 (r.1.Files.map api.File.av), .sl .no 3 (r.1.Faults.map api.Fault.av)], .sl (.own n0) 1 (r.2.1.map api.Unit.av), .i r.2.2] ∧ H = [(n0, .spare)]) := by
 unfold mewsref18.Load at h
 refine Go.Lift.Spec.of_body (rs := [.cell 4 25, .tmp 5, .tmp 6]) func9 Z Z (nb Z) Z (xr (xc Z (op_box (cs := [.sl .no 3 (d.Files.map api.File.av), .sl .no 3 (d.Faults.map api.Fault.av)]) (v := .agg [.sl .no 3 (d.Files.map api.File.av), .sl .no 3 (d.Faults.map api.Fault.av)]) Z (tm Z) Z Z ?_)))
 intro p15
 refine xc Z (op_alloc (cs := [.sl .full 3 (([] : List api.File).map api.File.av), .sl .full 3 (([] : List api.Fault).map api.Fault.av)]) (v := .agg [.sl .full 3 (([] : List api.File).map api.File.av), .sl .full 3 (([] : List api.Fault).map api.Fault.av)]) Z zeroValue25 Z Z Z ?_)
 intro p16
 refine xa (.sl .full 1 (([] : List api.Unit).map api.Unit.av)) Z (pu_assign Z (AEv.nil 1 (by decide))) (xz (.i 0) Z (xe (xr (xL 1 isAgg25 sizeOf25 Z (xy Z ?_)))))
 obtain ⟨c17, h⟩ := need_of h
 refine xa (.str (name ++ [46, 110, 101, 119])) Z (pu_strAdd Z (tm Z) (AEv.const Z) c17) ?_
 obtain ⟨r18, r18e, h⟩ := bind_some h
 refine xk (mewsref16.Remove.ok r18e) call30 Z ?_
 rintro _ _ ⟨t19, rfl, rfl⟩
 refine xs 2 [.sl (.own t19) 3 (r18.Files.map api.File.av), .sl .no 3 (r18.Faults.map api.Fault.av)] sizeOf25 Z (xe (xr (xL 2 isAgg25 sizeOf25 Z (xy Z ?_))))
 obtain ⟨r20, r20e, h⟩ := bind_some h
 refine xc Z (op_call (vs := [.agg [.sl .no 3 (r18.Files.map api.File.av), .sl .no 3 (r18.Faults.map api.Fault.av)], .str name]) (H := []) Z call31 ⟨(AEv.le (tm Z) (AV.Le.agg ⟨(AV.Le.forget _ _ _), vr, trivial⟩)), (tm Z), trivial⟩ (List.Perm.refl _) (mewsref16.Find.ok r20e) ?_)
 rintro _ _ ⟨rfl, rfl⟩
 refine xy Z (xz (.agg [.str r20.1.Name, .str r20.1.Data, .i r20.1.Synced]) Z (xz (.bool r20.2) Z (xc Z (op_alloc (cs := [.str ([] : List UInt8), .str ([] : List UInt8), .i 0]) (v := .agg [.str ([] : List UInt8), .str ([] : List UInt8), .i 0]) Z zeroValue60 Z Z Z ?_))))
 intro p21
 refine xs 0 [.str r20.1.Name, .str r20.1.Data, .i r20.1.Synced] sizeOf60 Z (xy Z (xe (aw_seq (xr (xy Z (xz (.bool (!r20.2)) Z (xe (cb h (tm Z) (fun _ h => ?_) (fun _ h => ?_)))))))))
 ·refine xr (xL 3 isAgg25 sizeOf25 Z (xs 2 [.sl (.own t19) 3 (r18.Files.map api.File.av), .sl .no 3 (r18.Faults.map api.Fault.av)] sizeOf25 Z (xa (.sl .full 1 (([] : List api.Unit).map api.Unit.av)) Z (pu_assign Z (AEv.nil 1 (by decide))) (xz (.i 0) Z (xe (aw_claim 5 (tm Z) fun t22 => (aw_ret ?_)))))))
  cases h
  exact rq [.agg [.sl (.own t19) 3 (r18.Files.map api.File.av), .sl .no 3 (r18.Faults.map api.Fault.av)], .sl (.own t22) 1 (([] : List api.Unit).map api.Unit.av), .i 0] ⟨t22, Z, Z⟩ (AV.Le.tup ⟨(AV.Le.agg ⟨(AV.Le.forget _ _ _), vr, trivial⟩), vr, vr, trivial⟩) ⟨(CellOk.agg 3 (tm Z) Z isAgg25 sizeOf25 (nb Z) Z), (tm Z), (tm Z), trivial⟩ (wi [0] Z)
 ·refine aw_skip (xr (xa (.ptr p21 1) Z (fa Z underlying60 Z sizeOf9 Z Z Z) (xl 0 isAgg9 Z ?_)))
  obtain ⟨r23, r23e, h⟩ := bind_some h
  refine xk (mewsref15.All.ok r23e) call32 Z ?_
  rintro _ _ ⟨t24, rfl, rfl⟩
  refine xy Z (xz (.sl (.own t24) 1 (r23.1.map api.Unit.av)) Z (xz (.i r23.2) Z (xy Z (xy Z (xe (xr (xL 4 isAgg25 sizeOf25 Z (xy Z ?_))))))))
  refine xy Z ?_
  obtain ⟨r25, r25e, h⟩ := bind_some h
  refine xc Z (op_call (vs := [.agg [.sl .no 3 (r18.Files.map api.File.av), .sl .no 3 (r18.Faults.map api.Fault.av)], .str name, .i r23.2]) (H := []) Z call33 ⟨(AEv.le (tm Z) (AV.Le.agg ⟨(AV.Le.forget _ _ _), vr, trivial⟩)), (tm Z), (tm Z), trivial⟩ (List.Perm.refl _) (mewsref16.Cut.ok r25e) ?_)
  rintro _ _ ⟨rfl, rfl⟩
  refine xy Z (xz (.agg [.sl .no 3 (r25.1.Files.map api.File.av), .sl .no 3 (r25.1.Faults.map api.Fault.av)]) Z (xz (.i r25.2) Z (xs 4 [.sl .no 3 (r25.1.Files.map api.File.av), .sl .no 3 (r25.1.Faults.map api.Fault.av)] sizeOf25 Z (xe (aw_seq (xr (xa (.ptr p21 2) Z (fa Z underlying60 Z sizeOf3 Z Z Z) (xl 1 isAgg3 Z ?_))))))))
  refine xy Z (xz (.bool (decide (r23.2 ≤ r20.1.Synced))) Z (xe (cd h (tm Z) (fun _ h => ?_) (fun _ h => ?_))))
  ·refine xr (xL 4 isAgg25 sizeOf25 Z (xy Z (xs 3 [.sl .no 3 (r25.1.Files.map api.File.av), .sl .no 3 (r25.1.Faults.map api.Fault.av)] sizeOf25 Z (xy Z (xz (.i 0) Z (xe (aw_ret ?_)))))))
   cases h
   exact rq [.agg [.sl .no 3 (r25.1.Files.map api.File.av), .sl .no 3 (r25.1.Faults.map api.Fault.av)], .sl (.own t24) 1 (r23.1.map api.Unit.av), .i 0] ⟨t24, Z, Z⟩ (AV.Le.tup cr) ⟨(CellOk.agg 3 (tm Z) Z isAgg25 sizeOf25 (nb Z) Z), (tm Z), (tm Z), trivial⟩ (wi [0] Z)
  ·refine aw_skip (xr (xL 4 isAgg25 sizeOf25 Z (xy Z ?_)))
   obtain ⟨r26, r26e, h⟩ := bind_some h
   refine xk (mewsref16.Sync.ok r26e) call34 Z ?_
   rintro _ _ ⟨rfl, rfl⟩
   refine xy Z (xz (.agg [.sl .no 3 (r26.1.Files.map api.File.av), .sl .no 3 (r26.1.Faults.map api.Fault.av)]) Z (xz (.i r26.2) Z (xs 4 [.sl .no 3 (r26.1.Files.map api.File.av), .sl .no 3 (r26.1.Faults.map api.Fault.av)] sizeOf25 Z (xy Z (xe (aw_seq (xr (xy Z ?_))))))))
   refine xz (.bool (!decide (r26.2 = 0))) Z (xe (aw_cond (tm Z) (fun hb28 => ?_) (fun hb28 => ?_)))
   ·replace h := ite_f (ndec_t hb28) h
    refine xr (xL 4 isAgg25 sizeOf25 Z (xy Z (xs 3 [.sl .no 3 (r26.1.Files.map api.File.av), .sl .no 3 (r26.1.Faults.map api.Fault.av)] sizeOf25 Z (xa (.sl .full 1 (([] : List api.Unit).map api.Unit.av)) Z (pu_assign Z (AEv.nil 1 (by decide))) (xy Z (xe (aw_claim 5 (tm Z) fun t27 => (aw_ret ?_))))))))
    cases h
    exact rq [.agg [.sl .no 3 (r26.1.Files.map api.File.av), .sl .no 3 (r26.1.Faults.map api.Fault.av)], .sl (.own t27) 1 (([] : List api.Unit).map api.Unit.av), .i r26.2] ⟨t27, Z, Z⟩ (AV.Le.tup cr) ⟨(CellOk.agg 4 (tm Z) Z isAgg25 sizeOf25 (nb Z) Z), (tm Z), (tm Z), trivial⟩ (wi [0] Z)
   ·replace h := ite_t (ndec_f hb28) h
    refine aw_skip (xr (xL 4 isAgg25 sizeOf25 Z (xy Z (xs 3 [.sl .no 3 (r26.1.Files.map api.File.av), .sl .no 3 (r26.1.Faults.map api.Fault.av)] sizeOf25 Z (xy Z (xz (.i 0) Z (xe (aw_ret ?_))))))))
    cases h
    exact rq [.agg [.sl .no 3 (r26.1.Files.map api.File.av), .sl .no 3 (r26.1.Faults.map api.Fault.av)], .sl (.own t24) 1 (r23.1.map api.Unit.av), .i 0] ⟨t24, Z, Z⟩ (AV.Le.tup cr) ⟨(CellOk.agg 3 (tm Z) Z isAgg25 sizeOf25 (nb Z) Z), (tm Z), (tm Z), trivial⟩ (wi [0] Z)

theorem mewsref16.Same.ok {a : api.Disk} {b : api.Disk} {r : Bool} (h : mewsref16.Same a b = some r) : Go.Lift.Spec prog 10 [.agg [.sl .no 3 (a.Files.map api.File.av), .sl .no 3 (a.Faults.map api.Fault.av)], .agg [.sl .no 3 (b.Files.map api.File.av), .sl .no 3 (b.Faults.map api.Fault.av)]] [] (fun v H => v = .bool r ∧ H = []) := by
 unfold mewsref16.Same at h
 refine Go.Lift.Spec.of_body (rs := [.tmp 4]) func10 Z Z (nb Z) Z (xr (xc Z (op_box (cs := [.sl .no 3 (a.Files.map api.File.av), .sl .no 3 (a.Faults.map api.Fault.av)]) (v := .agg [.sl .no 3 (a.Files.map api.File.av), .sl .no 3 (a.Faults.map api.Fault.av)]) Z (tm Z) Z Z ?_)))
 intro p141
 refine xc Z (op_box (cs := [.sl .no 3 (b.Files.map api.File.av), .sl .no 3 (b.Faults.map api.Fault.av)]) (v := .agg [.sl .no 3 (b.Files.map api.File.av), .sl .no 3 (b.Faults.map api.Fault.av)]) Z (tm Z) Z Z ?_)
 intro p142
 refine xz (.bool false) Z (xe (aw_seq ?_))
 obtain ⟨r143, r143e, h⟩ := bind_some h
 obtain ⟨r145, r145e, h⟩ := bind_some h
 refine aw_reserve fun p144 => (aw_reserve fun p146 => (aw_planR (by decide +kernel) [[(3, 0, false)], [(1, 0, true)], [(2, 0, false)], [(0, 0, true)], [], []] [[3], [1], [], []] [[[(p146, .resv)], [(p146, .spare)]], [[(p144, .resv)], [(p144, .spare)]], [[(p142, .cells [.sl .no 3 (b.Files.map api.File.av), .sl .no 3 (b.Faults.map api.Fault.av)])]], [[(p141, .cells [.sl .no 3 (a.Files.map api.File.av), .sl .no 3 (a.Faults.map api.Fault.av)])]]] [.agg [.sl .no 3 (a.Files.map api.File.av), .sl .no 3 (a.Faults.map api.Fault.av)], .sl (.own p144) 3 (r143.map api.File.av), .agg [.sl .no 3 (b.Files.map api.File.av), .sl .no 3 (b.Faults.map api.Fault.av)], .sl (.own p146) 3 (r145.map api.File.av), .sl (.own p144) 3 (r143.map api.File.av), .sl (.own p146) 3 (r145.map api.File.av)] (by decide +kernel) Z Z ?_ ?_))
 ·exact ⟨stepg_plain Z (op_loadN (i := 0) Z isAgg25 sizeOf25 (tm Z) Z (nb Z) Z ⟨Z, Z⟩), stepg_plain Z (aop_settleS (op_call (vs := [.agg [.sl .no 3 (a.Files.map api.File.av), .sl .no 3 (a.Faults.map api.Fault.av)]]) (H := []) (R := [(p144, .resv)]) Z call35 ⟨(tm Z), trivial⟩ (List.Perm.refl _) (mewsref16.Files.ok r143e) (by rintro _ _ ⟨t, rfl, rfl⟩; exact ⟨t, Z, Z⟩)) ⟨Z, Z⟩), stepg_plain Z (op_loadN (i := 0) Z isAgg25 sizeOf25 (tm Z) Z (nb Z) Z ⟨Z, Z⟩), stepg_plain Z (aop_settleS (op_call (vs := [.agg [.sl .no 3 (b.Files.map api.File.av), .sl .no 3 (b.Faults.map api.Fault.av)]]) (H := []) (R := [(p146, .resv)]) Z call35 ⟨(tm Z), trivial⟩ (List.Perm.refl _) (mewsref16.Files.ok r145e) (by rintro _ _ ⟨t, rfl, rfl⟩; exact ⟨t, Z, Z⟩)) ⟨Z, Z⟩), ym Z Z Z, ym Z Z Z, trivial⟩
 refine aw_seq ?_
 obtain ⟨s148, s148e, h149⟩ := letO_of h
 refine aw_meet (ν := Unit) (fun v => [(2, .ptr p141 0), (3, .ptr p142 0), (5, .sl (.own p144) 3 (r143.map api.File.av)), (28, .bool s148)]) (fun v => [(p141, .cells [.sl .no 3 (a.Files.map api.File.av), .sl .no 3 (a.Faults.map api.Fault.av)]), (p142, .cells [.sl .no 3 (b.Files.map api.File.av), .sl .no 3 (b.Faults.map api.Fault.av)]), (p144, .spare)]) ?_ ?_
 ·have h := s148e.symm
  refine aw_region (xy Z (xa (.i (r143.length : Int)) Z (pu_lenM Z underlying22 (tm Z)) (xy Z (xa (.i (r145.length : Int)) Z (pu_lenM Z underlying22 (tm Z)) (xz (.bool (!decide ((r143.length : Int) = (r145.length : Int)))) Z (xy Z ?_))))))
  rcases Bool.eq_false_or_eq_true (!decide ((r143.length : Int) = (r145.length : Int))) with hb151 | hb151
  ·replace h := ite_f (ndec_t hb151) h
   refine aops_known 20 Z hb151 (xu Z (xu Z (xu Z (xu Z (xu Z (xu Z (xu Z (xz (.bool true) Z (xe ?_)))))))))
   subst h
   exact ⟨(), wi [3, 2, 1] Z⟩
  ·replace h := ite_t (ndec_f hb151) h
   refine aops_known 20 Z hb151 (xp (.ptr p141 1) Z Z (fa Z underlying25 Z sizeOf23 Z Z Z) (xg Z Z (op_load1 (i := 3) Z isAgg23 (tm Z) Z Z (xp (.i (a.Faults.length : Int)) Z Z (pu_lenM Z underlying23 (tm Z)) (xp (.ptr p142 1) Z Z (fa Z underlying25 Z sizeOf23 Z Z Z) (xg Z Z (op_load1 (i := 2) Z isAgg23 (tm Z) Z Z (xp (.i (b.Faults.length : Int)) Z Z (pu_lenM Z underlying23 (tm Z)) (xp (.bool (!decide ((a.Faults.length : Int) = (b.Faults.length : Int)))) Z Z (pe Z) (xz (.bool (!decide ((a.Faults.length : Int) = (b.Faults.length : Int)))) Z (xe ?_)))))))))))
   subst h
   exact ⟨(), wi [3, 2, 1] Z⟩
 ·intro _
  have h := h149
  refine aw_cond (b := s148) (tm Z) (fun hb280 => ?_) (fun hb280 => ?_)
  ·replace h := ite_t hb280 h
   refine xr (xz (.bool false) Z (xe (aw_ret ?_)))
   cases h
   exact rt ⟨Z, Z⟩ Z w0
  ·replace h := ite_fb hb280 h
   refine aw_skip ?_
   obtain ⟨s279, s279e, h195⟩ := bind_some h
   refine aw_join (σ := Unit) (ν := Unit) (fun u v => [(2, .ptr p141 0), (3, .ptr p142 0)]) (fun u v => [(p141, .cells [.sl .no 3 (a.Files.map api.File.av), .sl .no 3 (a.Faults.map api.Fault.av)]), (p142, .cells [.sl .no 3 (b.Files.map api.File.av), .sl .no 3 (b.Faults.map api.Fault.av)])]) (fun u => s279 = .inl u) ?_ ?_
   ·intro s194
    intro _
    rintro rfl
    have h := onSum_inl h195
    obtain ⟨s278, s278e, h258⟩ := bind_some h
    refine aw_join (σ := Unit) (ν := Unit) (fun u v => []) (fun u v => []) (fun u => s278 = .inl u) ?_ ?_
    ·intro s257
     intro _
     rintro rfl
     have h := onSum_inl h258
     refine xr (xz (.bool true) Z (xe (aw_ret ?_)))
     cases h
     exact rt ⟨Z, Z⟩ Z w0
    ·have h := s278e
     refine xr (xz (.i 0) Z (xe (aw_block (aw_while (σ := mewsref16.Same.S2) (ν := Unit) (mewsref16.Same.body2 a b) (fun s270 v => [(2, .ptr p141 0), (3, .ptr p142 0), (10, .i s270.i)]) (fun s270 v => [(p141, .cells [.sl .no 3 (a.Files.map api.File.av), .sl .no 3 (a.Faults.map api.Fault.av)]), (p142, .cells [.sl .no 3 (b.Files.map api.File.av), .sl .no 3 (b.Faults.map api.Fault.av)])]) ⟨0⟩ () _ h (wi [0, 1] Z) ?_))))
     rintro s270 _ x272 h hx271
     unfold mewsref16.Same.body2 at h
     refine aw_seq (xr (xy Z (xa (.ptr p141 1) Z (fa Z underlying25 Z sizeOf23 Z Z Z) (xl 0 isAgg23 Z (xa (.i (a.Faults.length : Int)) Z (pu_lenM Z underlying23 (tm Z)) (xz (.bool (decide (s270.i < (a.Faults.length : Int)))) Z (xe (cd h (tm Z) (fun _ h => ?_) (fun _ h => ?_)))))))))
     ·refine aw_skip (aw_seq (aw_block (aw_seq ?_)))
      obtain ⟨c274, h⟩ := need_of h
      obtain ⟨c275, h⟩ := need_of h
      refine aw_planR (by decide +kernel) [[], [(0, 0, false)], [], [], [], [], [(1, 0, false)], [], [], [], []] [[], []] [[[(p141, .cells [.sl .no 3 (a.Files.map api.File.av), .sl .no 3 (a.Faults.map api.Fault.av)])]], [[(p142, .cells [.sl .no 3 (b.Files.map api.File.av), .sl .no 3 (b.Faults.map api.Fault.av)])]]] [.ptr p141 1, .sl .no 3 (a.Faults.map api.Fault.av), .i s270.i, .vptr [.str (ix a.Faults s270.i).Name, .i (ix a.Faults s270.i).Kind, .i (ix a.Faults s270.i).Short], .agg [.str (ix a.Faults s270.i).Name, .i (ix a.Faults s270.i).Kind, .i (ix a.Faults s270.i).Short], .ptr p142 1, .sl .no 3 (b.Faults.map api.Fault.av), .i s270.i, .vptr [.str (ix b.Faults s270.i).Name, .i (ix b.Faults s270.i).Kind, .i (ix b.Faults s270.i).Short], .agg [.str (ix b.Faults s270.i).Name, .i (ix b.Faults s270.i).Kind, .i (ix b.Faults s270.i).Short], .bool (!decide ((ix a.Faults s270.i) = (ix b.Faults s270.i)))] (by decide +kernel) Z Z ?_ ?_
      ·exact ⟨yp Z (fa Z underlying25 Z sizeOf23 Z Z Z), stepg_plain Z (op_load1 (i := 0) Z isAgg23 (tm Z) Z Z ⟨Z, Z⟩), ym Z Z Z, yp Z (pu_indexAddrM Z underlying23 sizeOf79 (tm Z) (tm Z) c274 Z), stepg_plain Z (op_loadVN Z isAgg79 sizeOf79 (tm Z) (nb Z) Z ⟨Z, Z⟩), yp Z (fa Z underlying25 Z sizeOf23 Z Z Z), stepg_plain Z (op_load1 (i := 0) Z isAgg23 (tm Z) Z Z ⟨Z, Z⟩), ym Z Z Z, yp Z (pu_indexAddrM Z underlying23 sizeOf79 (tm Z) (tm Z) c275 Z), stepg_plain Z (op_loadVN Z isAgg79 sizeOf79 (tm Z) (nb Z) Z ⟨Z, Z⟩), yp Z (APure.eq (pu_structNe (b := (decide ((ix a.Faults s270.i).Name = (ix b.Faults s270.i).Name) && (decide ((ix a.Faults s270.i).Kind = (ix b.Faults s270.i).Kind) && (decide ((ix a.Faults s270.i).Short = (ix b.Faults s270.i).Short) && true)))) Z underlying79 (by kernel_rfl) (by kernel_rfl) (tm Z) (tm Z) ⟨_, _, _, _, ⟨by decide, isAgg9, Z, Z, CEq.str underlying9⟩, ⟨_, _, _, _, ⟨by decide, isAgg3, Z, Z, CEq.int underlying3⟩, ⟨_, _, _, _, ⟨by decide, isAgg3, Z, Z, CEq.int underlying3⟩, Z, Z⟩, Z⟩, Z⟩) (congrArg (fun b => AV.bool (!b)) (api.Fault.eq_iff (ix a.Faults s270.i) (ix b.Faults s270.i)).symm)), trivial⟩
      refine aw_cond (b := (!decide ((ix a.Faults s270.i) = (ix b.Faults s270.i)))) (tm Z) (fun hb276 => ?_) (fun hb276 => ?_)
      ·replace h := ite_f (ndec_t hb276) h
       refine xr (xz (.bool false) Z (xe (aw_ret ?_)))
       cases h
       have h := congrArg some (hx271 _ rfl)
       cases h
       have h := onSum_inr h258
       cases h
       exact rt ⟨Z, Z⟩ Z w0
      ·replace h := ite_t (ndec_f hb276) h
       refine aw_skip (aw_region (xy Z (xz (.i (IntKind.wrap .i64 (s270.i + 1))) Z (xy Z (xe ?_)))))
       cases h
       exact ⟨_, (), Z, wl [0, 1] Z ⟨⟨_, Z, cr, Z⟩, ⟨_, Z, cr, Z⟩, trivial⟩ ⟨tm Z, tm Z, (AEv.le (tm Z) vr), trivial⟩⟩
     ·refine aw_exit ?_
      cases h
      have h := congrArg some (hx271 _ rfl)
      exact ⟨(), (), (some_of h).symm, w0⟩
   ·have h := s279e
    refine xr (xz (.i 0) Z (xe (aw_block (aw_while (σ := mewsref16.Same.S0) (ν := Unit) (mewsref16.Same.body0 r143 b) (fun s223 v => [(2, .ptr p141 0), (3, .ptr p142 0), (5, .sl (.own p144) 3 (r143.map api.File.av)), (7, .i s223.i)]) (fun s223 v => [(p141, .cells [.sl .no 3 (a.Files.map api.File.av), .sl .no 3 (a.Faults.map api.Fault.av)]), (p142, .cells [.sl .no 3 (b.Files.map api.File.av), .sl .no 3 (b.Faults.map api.Fault.av)]), (p144, .spare)]) ⟨0⟩ () _ h (wi [0, 1, 2] Z) ?_))))
    rintro s223 _ x225 h hx224
    unfold mewsref16.Same.body0 at h
    refine aw_seq (xr (xy Z (xy Z (xa (.i (r143.length : Int)) Z (pu_lenM Z underlying22 (tm Z)) (xz (.bool (decide (s223.i < (r143.length : Int)))) Z (xe (cd h (tm Z) (fun _ h => ?_) (fun _ h => ?_))))))))
    ·refine aw_skip (aw_seq (aw_block (aw_seq ?_)))
     obtain ⟨c227, h⟩ := need_of h
     obtain ⟨r228, r228e, h⟩ := bind_some h
     refine aw_reserve fun p229 => (aw_planR (by decide +kernel) [[(2, 0, false)], [], [], [], [], [], [], [], [], [], [(0, 0, true)], [(0, 1, true)], []] [[10, 11], [], [], []] [[[(p229, .resv)], [(p229, .cells [.str ([] : List UInt8), .str ([] : List UInt8), .i 0])], [(p229, .cells [.str r228.1.Name, .str r228.1.Data, .i r228.1.Synced])]], [[(p141, .cells [.sl .no 3 (a.Files.map api.File.av), .sl .no 3 (a.Faults.map api.Fault.av)])]], [[(p142, .cells [.sl .no 3 (b.Files.map api.File.av), .sl .no 3 (b.Faults.map api.Fault.av)])]], [[(p144, .spare)]]] [.agg [.sl .no 3 (b.Files.map api.File.av), .sl .no 3 (b.Faults.map api.Fault.av)], .sl (.own p144) 3 (r143.map api.File.av), .i s223.i, .vptr [.str (ix r143 s223.i).Name, .str (ix r143 s223.i).Data, .i (ix r143 s223.i).Synced], .vptr [.str (ix r143 s223.i).Name, .str (ix r143 s223.i).Data, .i (ix r143 s223.i).Synced], .str (ix r143 s223.i).Name, .tup [.agg [.str r228.1.Name, .str r228.1.Data, .i r228.1.Synced], .bool r228.2], .tup [.agg [.str r228.1.Name, .str r228.1.Data, .i r228.1.Synced], .bool r228.2], .agg [.str r228.1.Name, .str r228.1.Data, .i r228.1.Synced], .bool r228.2, .ptr p229 0, .un, .bool r228.2] (by decide +kernel) Z Z ?_ ?_)
     ·exact ⟨stepg_plain Z (op_loadN (i := 0) Z isAgg25 sizeOf25 (tm Z) Z (nb Z) Z ⟨Z, Z⟩), ym Z Z Z, ym Z Z Z, yp Z (pu_indexAddrM Z underlying22 sizeOf60 (tm Z) (tm Z) c227 Z), yp Z (fa Z underlying60 Z sizeOf9 Z Z Z), stepg_plain Z (op_loadV1 Z isAgg9 (tm Z) Z ⟨Z, Z⟩), stepg_plain Z (op_call (vs := [.agg [.sl .no 3 (b.Files.map api.File.av), .sl .no 3 (b.Faults.map api.Fault.av)], .str (ix r143 s223.i).Name]) (H := []) Z call31 ⟨(tm Z), (tm Z), trivial⟩ (R := []) (List.Perm.refl _) (mewsref16.Find.ok r228e) (by rintro _ _ ⟨rfl, rfl⟩; exact ⟨Z, Z⟩)), ym Z Z Z, yp Z (pe Z), yp Z (pe Z), stepg_plain Z (aop_settleP (op_alloc (cs := [.str ([] : List UInt8), .str ([] : List UInt8), .i 0]) (v := .agg [.str ([] : List UInt8), .str ([] : List UInt8), .i 0]) Z zeroValue60 Z Z Z fun t => ⟨t, Z, Z⟩) ⟨Z, Z⟩), stepg_plain Z (op_store (i := 0) (cs' := [.str r228.1.Name, .str r228.1.Data, .i r228.1.Synced]) Z sizeOf60 (tm Z) (v := .agg [.str r228.1.Name, .str r228.1.Data, .i r228.1.Synced]) (tm Z) Z Z Z (nb Z) Z ⟨Z, Z⟩), ym Z Z Z, trivial⟩
     obtain ⟨s232, s232e, h233⟩ := bind_some h
     refine aw_meet (ν := Unit) (fun v => [(2, .ptr p141 0), (3, .ptr p142 0), (5, .sl (.own p144) 3 (r143.map api.File.av)), (7, .i s223.i), (54, .bool s232)]) (fun v => [(p141, .cells [.sl .no 3 (a.Files.map api.File.av), .sl .no 3 (a.Faults.map api.Fault.av)]), (p142, .cells [.sl .no 3 (b.Files.map api.File.av), .sl .no 3 (b.Faults.map api.Fault.av)]), (p144, .spare)]) ?_ ?_
     ·have h := s232e
      rcases Bool.eq_false_or_eq_true (!r228.2) with hb235 | hb235
      ·replace h := ite_t hb235 h
       refine aw_planR (by decide +kernel) [[], [], [], [], [], [], [], [], [], []] [[], [], [], []] [[[(p229, .cells [.str r228.1.Name, .str r228.1.Data, .i r228.1.Synced])]], [[(p141, .cells [.sl .no 3 (a.Files.map api.File.av), .sl .no 3 (a.Faults.map api.Fault.av)])]], [[(p142, .cells [.sl .no 3 (b.Files.map api.File.av), .sl .no 3 (b.Faults.map api.Fault.av)])]], [[(p144, .spare)]]] [.bool r228.2, .bool (!r228.2), .bool true, .lit undef, .lit undef, .lit undef, .lit undef, .lit undef, .lit undef, .bool true] (by decide +kernel) Z Z ?_ ?_
       ·exact ⟨ym Z Z Z, yp Z (pe Z), AStepG.cast (ym Z Z Z) (congrArg AV.bool hb235), yx Z Z Z, yx Z Z Z, yx Z Z Z, yx Z Z Z, yx Z Z Z, yx Z Z Z, yp Z (pe Z), trivial⟩
       cases h
       exact ⟨(), wi [1, 2, 3] Z⟩
      ·replace h := ite_fb hb235 h
       obtain ⟨c236, h⟩ := need_of h
       refine aw_planR (by decide +kernel) [[], [], [], [(0, 0, false)], [], [], [], [], [], []] [[], [], [], []] [[[(p229, .cells [.str r228.1.Name, .str r228.1.Data, .i r228.1.Synced])]], [[(p141, .cells [.sl .no 3 (a.Files.map api.File.av), .sl .no 3 (a.Faults.map api.Fault.av)])]], [[(p142, .cells [.sl .no 3 (b.Files.map api.File.av), .sl .no 3 (b.Faults.map api.Fault.av)])]], [[(p144, .spare)]]] [.bool r228.2, .bool (!r228.2), .bool false, .agg [.str r228.1.Name, .str r228.1.Data, .i r228.1.Synced], .sl (.own p144) 3 (r143.map api.File.av), .i s223.i, .vptr [.str (ix r143 s223.i).Name, .str (ix r143 s223.i).Data, .i (ix r143 s223.i).Synced], .agg [.str (ix r143 s223.i).Name, .str (ix r143 s223.i).Data, .i (ix r143 s223.i).Synced], .bool (!decide (r228.1 = (ix r143 s223.i))), .bool (!decide (r228.1 = (ix r143 s223.i)))] (by decide +kernel) Z Z ?_ ?_
       ·exact ⟨ym Z Z Z, yp Z (pe Z), AStepG.cast (ym Z Z Z) (congrArg AV.bool hb235), yg Z Z (op_loadN (i := 0) Z isAgg60 sizeOf60 (tm Z) Z (nb Z) Z ⟨Z, Z⟩), yq Z Z (pe Z), yq Z Z (pe Z), yq Z Z (pu_indexAddrM Z underlying22 sizeOf60 (tm Z) (tm Z) c236 Z), yg Z Z (op_loadVN Z isAgg60 sizeOf60 (tm Z) (nb Z) Z ⟨Z, Z⟩), yq Z Z (APure.eq (pu_structNe (b := (decide (r228.1.Name = (ix r143 s223.i).Name) && (decide (r228.1.Data = (ix r143 s223.i).Data) && (decide (r228.1.Synced = (ix r143 s223.i).Synced) && true)))) Z underlying60 (by kernel_rfl) (by kernel_rfl) (tm Z) (tm Z) ⟨_, _, _, _, ⟨by decide, isAgg9, Z, Z, CEq.str underlying9⟩, ⟨_, _, _, _, ⟨by decide, isAgg9, Z, Z, CEq.str underlying9⟩, ⟨_, _, _, _, ⟨by decide, isAgg3, Z, Z, CEq.int underlying3⟩, Z, Z⟩, Z⟩, Z⟩) (congrArg (fun b => AV.bool (!b)) (api.File.eq_iff r228.1 (ix r143 s223.i)).symm)), yp Z (pe Z), trivial⟩
       cases h
       exact ⟨(), wi [1, 2, 3] Z⟩
     ·intro _
      have h := h233
      refine aw_cond (b := s232) (tm Z) (fun hb237 => ?_) (fun hb237 => ?_)
      ·replace h := ite_t hb237 h
       refine xr (xz (.bool false) Z (xe (aw_ret ?_)))
       cases h
       have h := congrArg some (hx224 _ rfl)
       cases h
       have h := onSum_inr h195
       cases h
       exact rt ⟨Z, Z⟩ Z w0
      ·replace h := ite_fb hb237 h
       refine aw_skip (aw_region (xy Z (xz (.i (IntKind.wrap .i64 (s223.i + 1))) Z (xy Z (xe ?_)))))
       cases h
       exact ⟨_, (), Z, wl [0, 1, 2] Z ⟨⟨_, Z, cr, Z⟩, ⟨_, Z, cr, Z⟩, ⟨_, Z, Z⟩, trivial⟩ ⟨tm Z, tm Z, tm Z, (AEv.le (tm Z) vr), trivial⟩⟩
    ·refine aw_exit ?_
     cases h
     have h := congrArg some (hx224 _ rfl)
     exact ⟨(), (), (some_of h).symm, wi [0, 1] Z⟩

theorem mewslaw18.RestoreLoads.ok {d : api.Disk} {name : List UInt8} {r : Bool} (h : mewslaw18.RestoreLoads d name = some r) : Go.Lift.Spec prog 3 [.agg [.sl .no 3 (d.Files.map api.File.av), .sl .no 3 (d.Faults.map api.Fault.av)], .str name] [] (fun v H => v = .bool r ∧ H = []) := by
 unfold mewslaw18.RestoreLoads at h
 refine Go.Lift.Spec.of_body (rs := [.tmp 4]) func3 Z Z (nb Z) Z (xr (xc Z (op_box (cs := [.sl .no 3 (d.Files.map api.File.av), .sl .no 3 (d.Faults.map api.Fault.av)]) (v := .agg [.sl .no 3 (d.Files.map api.File.av), .sl .no 3 (d.Faults.map api.Fault.av)]) Z (tm Z) Z Z ?_)))
 intro p38
 refine xz (.bool false) Z (xe (aw_seq ?_))
 obtain ⟨s41, s41e, h42⟩ := bind_some h
 refine aw_meet (ν := Unit) (fun v => [(1, .str name), (2, .ptr p38 0), (17, .bool s41)]) (fun v => [(p38, .cells [.sl .no 3 (d.Files.map api.File.av), .sl .no 3 (d.Faults.map api.Fault.av)])]) ?_ ?_
 ·have h := s41e
  refine aw_region (xL 0 isAgg25 sizeOf25 Z ?_)
  obtain ⟨r44, r44e, h⟩ := bind_some h
  refine xc Z (op_call (vs := [.agg [.sl .no 3 (d.Files.map api.File.av), .sl .no 3 (d.Faults.map api.Fault.av)], .sl .no 4 (([] : List mewslaw16.Op).map mewslaw16.Op.av)]) (H := []) Z call6 ⟨(tm Z), (AEv.le (AEv.nil 4 (by decide)) (AV.Le.forget _ _ _)), trivial⟩ (List.Perm.refl _) (mewslaw16.Far.ok r44e) ?_)
  rintro _ _ ⟨rfl, rfl⟩
  refine xy Z ?_
  rcases Bool.eq_false_or_eq_true r44 with hb45 | hb45
  ·replace h := ite_t hb45 h
   refine aops_known 13 Z hb45 (xu Z (xu Z (xu Z (xz (.bool true) Z (xe ?_)))))
   cases h
   exact ⟨(), wi [0] Z⟩
  ·replace h := ite_fb hb45 h
   refine aops_known 13 Z hb45 (xq Z Z Z Z (xp (.i (name.length : Int)) Z Z (pu_strLen Z underlying9 (tm Z)) (xp (.bool (decide (200 < (name.length : Int)))) Z Z (pe Z) (xz (.bool (decide (200 < (name.length : Int)))) Z (xe ?_)))))
   cases h
   exact ⟨(), wl [0] Z ⟨⟨_, Z, cr, Z⟩, trivial⟩ ⟨tm Z, tm Z, (AEv.le (tm Z) vr), trivial⟩⟩
 ·intro _
  have h := h42
  refine aw_cond (b := s41) (tm Z) (fun hb74 => ?_) (fun hb74 => ?_)
  ·replace h := ite_t hb74 h
   refine aw_seq (aw_region ?_)
   obtain ⟨r46, r46e, h⟩ := bind_some h
   refine xk (mewslaw18.alive.ok r46e) call7 Z ?_
   rintro _ _ ⟨rfl, rfl⟩
   refine xy Z (xe (aw_ret ?_))
   cases h
   exact rt ⟨Z, Z⟩ Z w0
  ·replace h := ite_fb hb74 h
   refine aw_skip (xr (xL 0 isAgg25 sizeOf25 Z (xy Z ?_)))
   obtain ⟨r47, r47e, h⟩ := bind_some h
   refine xk (restore.Load.ok r47e) call8 Z ?_
   rintro _ _ ⟨t48, rfl, rfl⟩
   refine xy Z (xz (.agg [.sl .no 3 (r47.1.Files.map api.File.av), .sl .no 3 (r47.1.Faults.map api.Fault.av)]) Z (xz (.sl (.own t48) 1 (r47.2.1.map api.Unit.av)) Z (xz (.i r47.2.2) Z (xc Z (op_alloc (cs := [.sl .full 3 (([] : List api.File).map api.File.av), .sl .full 3 (([] : List api.Fault).map api.Fault.av)]) (v := .agg [.sl .full 3 (([] : List api.File).map api.File.av), .sl .full 3 (([] : List api.Fault).map api.Fault.av)]) Z zeroValue25 Z Z Z ?_)))))
   intro p49
   refine xs 0 [.sl .no 3 (r47.1.Files.map api.File.av), .sl .no 3 (r47.1.Faults.map api.Fault.av)] sizeOf25 Z (xy Z (xy Z (xe (xr (xL 2 isAgg25 sizeOf25 Z (xy Z ?_))))))
   obtain ⟨r50, r50e, h⟩ := bind_some h
   refine xk (mewsref18.Load.ok r50e) call9 Z ?_
   rintro _ _ ⟨t51, rfl, rfl⟩
   refine xy Z (xz (.agg [.sl .no 3 (r50.1.Files.map api.File.av), .sl .no 3 (r50.1.Faults.map api.Fault.av)]) Z (xz (.sl (.own t51) 1 (r50.2.1.map api.Unit.av)) Z (xz (.i r50.2.2) Z (xc Z (op_alloc (cs := [.sl .full 3 (([] : List api.File).map api.File.av), .sl .full 3 (([] : List api.Fault).map api.Fault.av)]) (v := .agg [.sl .full 3 (([] : List api.File).map api.File.av), .sl .full 3 (([] : List api.Fault).map api.Fault.av)]) Z zeroValue25 Z Z Z ?_)))))
   intro p52
   refine xs 0 [.sl .no 3 (r50.1.Files.map api.File.av), .sl .no 3 (r50.1.Faults.map api.Fault.av)] sizeOf25 Z (xy Z (xy Z (xe ?_)))
   obtain ⟨s62, s62e, h63⟩ := bind_some h
   refine aw_meet (ν := Unit) (fun v => [(4, .bool s62)]) (fun v => []) ?_ ?_
   ·have h := s62e
    refine aw_region (xL 2 isAgg25 sizeOf25 Z (xL 0 isAgg25 sizeOf25 Z ?_))
    obtain ⟨r65, r65e, h⟩ := bind_some h
    refine xk (mewsref16.Same.ok r65e) call10 Z ?_
    rintro _ _ ⟨rfl, rfl⟩
    refine xy Z ?_
    rcases Bool.eq_false_or_eq_true r65 with hb66 | hb66
    ·replace h := ite_t hb66 h
     refine aops_known 36 Z hb66 (xq Z Z Z Z (xq Z Z Z Z ?_))
     obtain ⟨r67, r67e, h⟩ := bind_some h
     refine xg Z Z (op_call (vs := [.sl .no 1 (r47.2.1.map api.Unit.av), .sl .no 1 (r50.2.1.map api.Unit.av)]) (H := []) Z call11 ⟨(AEv.le (tm Z) (AV.Le.forget _ _ _)), (AEv.le (tm Z) (AV.Le.forget _ _ _)), trivial⟩ (List.Perm.refl _) (mewsref15.SameAll.ok r67e) ?_)
     rintro _ _ ⟨rfl, rfl⟩
     refine xz (.bool r67) Z (xy Z ?_)
     rcases Bool.eq_false_or_eq_true r67 with hb68 | hb68
     ·replace h := ite_t hb68 h
      refine aops_known 41 Z hb68 (xq Z Z Z Z (xq Z Z Z Z (xp (.bool (decide (r47.2.2 = r50.2.2))) Z Z (pe Z) (xz (.bool (decide (r47.2.2 = r50.2.2))) Z (xy Z ?_)))))
      rcases Bool.eq_false_or_eq_true (decide (r47.2.2 = r50.2.2)) with hb69 | hb69
      ·replace h := ite_t (dec_t hb69) h
       refine aops_known 46 Z hb69 (xq Z Z Z Z ?_)
       obtain ⟨r70, r70e, h⟩ := bind_some h
       refine xg Z Z (op_call (vs := [.str name]) (H := []) Z call12 ⟨(tm Z), trivial⟩ (List.Perm.refl _) (restore.Other.ok r70e) ?_)
       rintro _ _ ⟨rfl, rfl⟩
       refine xq Z Z Z Z ?_
       obtain ⟨c71, h⟩ := need_of h
       refine xp (.str (name ++ [46, 110, 101, 119])) Z Z (pu_strAdd Z (tm Z) (AEv.const Z) c71) (xp (.bool (decide (r70 = (name ++ [46, 110, 101, 119])))) Z Z (pu_str (v := .bool (decide (r70 = (name ++ [46, 110, 101, 119])))) Z Z (tm Z) (tm Z) Z) (xz (.bool (decide (r70 = (name ++ [46, 110, 101, 119])))) Z (xy Z ?_)))
       rcases Bool.eq_false_or_eq_true (decide (r70 = (name ++ [46, 110, 101, 119]))) with hb72 | hb72
       ·replace h := ite_t (dec_t hb72) h
        refine aops_known 53 Z hb72 ?_
        obtain ⟨r73, r73e, h⟩ := bind_some h
        refine xg Z Z (op_call (vs := []) (H := []) Z call7 trivial (List.Perm.refl _) (mewslaw18.alive.ok r73e) ?_)
        rintro _ _ ⟨rfl, rfl⟩
        refine xz (.bool r73) Z (xy Z (xe ?_))
        cases h
        exact ⟨(), wi [] Z⟩
       ·replace h := ite_f (dec_f hb72) h
        refine aops_known 53 Z hb72 (xu Z (xz (.bool false) Z (xy Z (xe ?_))))
        cases h
        exact ⟨(), wi [] Z⟩
      ·replace h := ite_f (dec_f hb69) h
       refine aops_known 46 Z hb69 (xu Z (xu Z (xu Z (xu Z (xu Z (xz (.bool false) Z (xy Z (xu Z (xz (.bool false) Z ?_)))))))))
       refine xy Z (xe ?_)
       cases h
       exact ⟨(), wi [] Z⟩
     ·replace h := ite_fb hb68 h
      refine aops_known 41 Z hb68 (xu Z (xu Z (xu Z (xz (.bool false) Z (xy Z (xu Z (xu Z (xu Z (xu Z ?_)))))))))
      refine xu Z (xz (.bool false) Z (xy Z (xu Z (xz (.bool false) Z (xy Z (xe ?_))))))
      cases h
      exact ⟨(), wi [] Z⟩
    ·replace h := ite_fb hb66 h
     refine aops_known 36 Z hb66 (xu Z (xu Z (xu Z (xz (.bool false) Z (xy Z (xu Z (xu Z (xu Z (xz (.bool false) Z ?_)))))))))
     refine xy Z (xu Z (xu Z (xu Z (xu Z (xu Z (xz (.bool false) Z (xy Z (xu Z (xz (.bool false) Z ?_)))))))))
     refine xy Z (xe ?_)
     cases h
     exact ⟨(), wi [] Z⟩
   ·intro _
    have h := h63
    refine aw_ret ?_
    cases h
    exact rt ⟨Z, Z⟩ Z w0

end Go.Pu
