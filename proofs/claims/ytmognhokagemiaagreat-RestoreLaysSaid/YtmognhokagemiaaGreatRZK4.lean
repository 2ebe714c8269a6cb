/- Printed by lift.py: the functions come to them. -/
import Derived.Test.YtmognhokagemiaaGreatLiftWS
import Derived.Test.YtmognhokagemiaaGreatRZK3
set_option maxRecDepth 100000
set_option maxHeartbeats 0
namespace Go.Pu
open Go.Lift Go.Proofs.Tryz Go.RowKit Go.Proofs

theorem mewsref16.Remove.ok {d name r} (h : mewsref16.Remove d name = some r) : Sp prog 30 [.agg [.sl .no 3 (m0L d.Files), .sl .no 3 (m1L d.Faults)], .str name] [] (fun v H => ∃ n0, v = .agg [.sl (.own n0) 3 (m0L r.Files), .sl .no 3 (m1L r.Faults)] ∧ H = [(n0, .spare)]) := by
 unfold mewsref16.Remove at h
 refine sb [.cell 4 25] func30 Z (xr (xb [.sl .no 3 (m0L d.Files), .sl .no 3 (m1L d.Faults)] Z fun p120 => xA (.agg [.sl .full 3 e0L, .sl .full 3 e1L]) zeroValue25 Z fun p121 => xe (xr (xf (.ptr p120 1) underlying25 sizeOf23 Z (xl 1 isAgg23 Z (xa (.agg [.sl .full 3 e0L, .sl .no 3 (m1L d.Faults)]) Z (pu_build (zs := [.sl .full 3 e0L, .sl .full 3 e1L]) (szs := [1, 1]) (aparts := [(1, .sl .no 3 (m1L d.Faults))]) (cs := [.sl .full 3 e0L, .sl .no 3 (m1L d.Faults)]) Z underlying25 zeroValue25 Z ⟨sizeOf22, sizeOf23, trivial⟩ ⟨Z, (tm Z), trivial⟩ Z) (xA (.agg [.sl .full 3 e0L, .sl .full 3 e1L]) zeroValue25 Z fun p122 => xs 0 [.sl .full 3 e0L, .sl .no 3 (m1L d.Faults)] sizeOf25 Z (xe (xr (xL 2 isAgg25 sizeOf25 Z ?_))))))))))
 obtain ⟨r123, r123e, h⟩ := bind_some h
 refine xk (mewsref16.Files.ok r123e) call35 Z ?_
 rintro _ _ ⟨t124, rfl, rfl⟩
 refine xy Z (xe ?_)
 obtain ⟨s180, s180e, h182⟩ := bind_some h
 refine aw_meet (ν := Nat) (fun v => [(4, .ptr p121 0), (5, .ptr p122 0)]) (fun v => [(p121, .cells [.sl .full 3 e0L, .sl .full 3 e1L]), (p122, .cells [.sl (.own v) 3 (m0L s180), .sl .no 3 (m1L d.Faults)]), (v, .spare)]) ?_ ?_
 have h := s180e
 refine xr (xz (.i 0) Z (xe (aw_block (aw_claimCell 1 0 Z Z fun t238 => (aw_while (σ := mewsref16.Remove.S0) (ν := Nat) (mewsref16.Remove.body0 r123 name) (fun s218 v => [(1, .str name), (4, .ptr p121 0), (5, .ptr p122 0), (6, .sl (.own t124) 3 (m0L r123)), (7, .i s218.i)]) (fun s218 v => [(p121, .cells [.sl .full 3 e0L, .sl .full 3 e1L]), (p122, .cells [.sl (.own v) 3 (m0L s218.c), .sl .no 3 (m1L d.Faults)]), (t124, .spare), (v, .spare)]) ⟨0, ([] : List api.File)⟩ t238 _ h (wi [3, 2, 1, 0] Z) ?_)))))
 rintro s218 n219 x221 h hx220
 unfold mewsref16.Remove.body0 at h
 refine aw_seq (xr (xy Z (xy Z (xa (.i (r123.length : Int)) Z (pu_lenM Z underlying22 (tm Z)) (xz (bd (s218.i < (r123.length : Int))) Z (xe (cd h Z (fun _ h => ?_) (fun _ h => ?_))))))))
 refine aw_skip ?_
 obtain ⟨s228, s228e, h230⟩ := bind_some h
 refine aw_meet (ν := Nat) (fun v => [(1, .str name), (4, .ptr p121 0), (5, .ptr p122 0), (6, .sl (.own t124) 3 (m0L r123)), (7, .i s218.i)]) (fun v => [(p121, .cells [.sl .full 3 e0L, .sl .full 3 e1L]), (p122, .cells [.sl (.own v) 3 (m0L s228), .sl .no 3 (m1L d.Faults)]), (t124, .spare), (v, .spare)]) ?_ ?_
 have h := s228e
 refine aw_block (xr (xy Z (xy Z ?_)))
 obtain ⟨c232, h⟩ := need_of h
 refine xa (.vptr [.str (ix r123 s218.i).Name, .str (ix r123 s218.i).Data, .i (ix r123 s218.i).Synced]) Z (pu_indexAddrM Z underlying22 sizeOf60 (tm Z) (tm Z) c232 Z) (xf (.vptr [.str (ix r123 s218.i).Name, .str (ix r123 s218.i).Data, .i (ix r123 s218.i).Synced]) underlying60 sizeOf9 Z (xc Z (op_loadV1 Z isAgg9 (tm Z) Z (xy Z (xa (bn ((ix r123 s218.i).Name = name)) Z (pu_str (v := bn ((ix r123 s218.i).Name = name)) Z Z (tm Z) (tm Z) Z) (xe (cn h Z (fun _ h => ?_) (fun _ h => ?_))))))))
 obtain ⟨c233, h⟩ := need_of h
 obtain ⟨c234, h⟩ := need_of h
 refine aw_reserve fun p235 => (aw_planR (by decide +kernel) [[], [(2, 0, false)], [], [], [], [], [], [(4, 0, true), (0, 0, true)], [], [(2, 0, true)]] [[7], [], [9], [], [7]] [[[(p235, .resv)], [(p235, .spare)]], [[(p121, .cells [.sl .full 3 e0L, .sl .full 3 e1L])]], [[(p122, .cells [.sl (.own n219) 3 (m0L s218.c), .sl .no 3 (m1L d.Faults)])], [(p122, .cells [.sl (.own p235) 3 (m0L (s218.c ++ [(ix r123 s218.i)])), .sl .no 3 (m1L d.Faults)])]], [[(t124, .spare)]], [[(n219, .spare)], []]] [.ptr p122 0, .sl (.own n219) 3 (m0L s218.c), .sl (.own t124) 3 (m0L r123), .i s218.i, .vptr [.str (ix r123 s218.i).Name, .str (ix r123 s218.i).Data, .i (ix r123 s218.i).Synced], .agg [.str (ix r123 s218.i).Name, .str (ix r123 s218.i).Data, .i (ix r123 s218.i).Synced], .sl .full 3 ([(ix r123 s218.i)].map api.File.av), .sl (.own p235) 3 (m0L (s218.c ++ [(ix r123 s218.i)])), .ptr p122 0, .un] (by decide +kernel) Z Z ?_ ?_)
 exact ⟨yp Z (fa Z underlying25 Z sizeOf22 Z Z Z), stepg_plain Z (op_load1 (i := 0) Z isAgg22 (tm Z) Z Z ⟨Z, Z⟩), ym Z Z Z, ym Z Z Z, yp Z (pu_indexAddrM Z underlying22 sizeOf60 (tm Z) (tm Z) c233 Z), stepg_plain Z (op_loadVN Z isAgg60 sizeOf60 (tm Z) (nb Z) Z ⟨Z, Z⟩), stepg_plain Z (op_buildSlice (xs := ([(ix r123 s218.i)] : List api.File).map api.File.av) (aparts := [(0, .agg [.str (ix r123 s218.i).Name, .str (ix r123 s218.i).Data, .i (ix r123 s218.i).Synced])]) Z underlying22 sizeOf60 zeroValue60 (by decide) (by decide) ⟨Z, (tm Z), trivial⟩ Z Z Z ⟨Z, Z⟩), stepg_plain Z (aop_settleS (op_appendOM (q := 0) Z underlying22 underlying22 (.inl Z) typeInfo60 Z Z Z (by decide) (tm Z) Z (given_sl (tm Z)) c234 fun t => ⟨t, Z, Z⟩) ⟨Z, Z⟩), yp Z (fa Z underlying25 Z sizeOf22 Z Z Z), stepg_plain Z (op_store (i := 0) (cs' := [.sl (.own p235) 3 (m0L (s218.c ++ [(ix r123 s218.i)])), .sl .no 3 (m1L d.Faults)]) Z sizeOf22 (tm Z) (v := .sl (.own p235) 3 (m0L (s218.c ++ [(ix r123 s218.i)]))) (tm Z) Z Z Z (nb Z) Z ⟨Z, Z⟩), trivial⟩
 cases h
 exact ⟨p235, wl [1, 2, 3, 0] Z ⟨⟨_, Z, cr, Z⟩, ⟨_, Z, ⟨vr, vr, trivial⟩, Z⟩, ⟨_, Z, Z⟩, ⟨_, Z, Z⟩, trivial⟩ ⟨tm Z, tm Z, tm Z, tm Z, tm Z, trivial⟩⟩
 refine aw_skip ?_
 cases h
 exact ⟨n219, wi [0, 1, 2, 3] Z⟩
 intro n229
 have h := h230
 refine aw_region (xy Z (xz (.i (w64 (s218.i + 1))) Z (xy Z (xe ?_))))
 cases h
 exact ⟨_, n229, Z, wi [0, 1, 2, 3] Z⟩
 refine aw_exit ?_
 cases h
 cases congrArg some (hx220 _ rfl)
 exact ⟨n219, wi [0, 1, 3] Z⟩
 intro n181
 have h := h182
 refine xr (xL 1 isAgg25 sizeOf25 Z (xs 0 [.sl (.own n181) 3 (m0L s180), .sl .no 3 (m1L d.Faults)] sizeOf25 Z (xe (aw_ret ?_))))
 cases h
 exact rq [.agg [.sl (.own n181) 3 (m0L s180), .sl .no 3 (m1L d.Faults)]] ⟨n181, Z, Z⟩ vr ⟨(CellOk.agg 0 (tm Z) Z isAgg25 sizeOf25 (nb Z) Z), trivial⟩ (wi [2] Z)

theorem mewsref16.with_.ok {d f r} (h : mewsref16.with_ d f = some r) : Sp prog 61 [.agg [.sl .no 3 (m0L d.Files), .sl .no 3 (m1L d.Faults)], .agg [.str f.Name, .str f.Data, .i f.Synced]] [] (fun v H => ∃ n0, v = .agg [.sl (.own n0) 3 (m0L r.Files), .sl .no 3 (m1L r.Faults)] ∧ H = [(n0, .spare)]) := by
 unfold mewsref16.with_ at h
 refine sb [.cell 4 25] func61 Z (xr (xb [.sl .no 3 (m0L d.Files), .sl .no 3 (m1L d.Faults)] Z fun p153 => xb [.str f.Name, .str f.Data, .i f.Synced] Z fun p154 => xA (.agg [.sl .full 3 e0L, .sl .full 3 e1L]) zeroValue25 Z fun p155 => xe (xr (xf (.ptr p153 1) underlying25 sizeOf23 Z (xl 2 isAgg23 Z (xa (.agg [.sl .full 3 e0L, .sl .no 3 (m1L d.Faults)]) Z (pu_build (zs := [.sl .full 3 e0L, .sl .full 3 e1L]) (szs := [1, 1]) (aparts := [(1, .sl .no 3 (m1L d.Faults))]) (cs := [.sl .full 3 e0L, .sl .no 3 (m1L d.Faults)]) Z underlying25 zeroValue25 Z ⟨sizeOf22, sizeOf23, trivial⟩ ⟨Z, (tm Z), trivial⟩ Z) (xA (.agg [.sl .full 3 e0L, .sl .full 3 e1L]) zeroValue25 Z fun p156 => xs 0 [.sl .full 3 e0L, .sl .no 3 (m1L d.Faults)] sizeOf25 Z (xe (xr (xL 3 isAgg25 sizeOf25 Z ?_))))))))))
 obtain ⟨r157, r157e, h⟩ := bind_some h
 refine xk (mewsref16.Files.ok r157e) call35 Z ?_
 rintro _ _ ⟨t158, rfl, rfl⟩
 refine xy Z (xe (xr (xz (.bool false) Z (xe ?_))))
 obtain ⟨s225, s225e, h227⟩ := bind_some h
 refine aw_meet (ν := Nat) (fun v => [(3, .ptr p154 0), (4, .ptr p155 0), (5, .ptr p156 0), (7, .bool s225.1)]) (fun v => [(p154, .cells [.str f.Name, .str f.Data, .i f.Synced]), (p155, .cells [.sl .full 3 e0L, .sl .full 3 e1L]), (p156, .cells [.sl (.own v) 3 (m0L s225.2), .sl .no 3 (m1L d.Faults)]), (v, .spare)]) ?_ ?_
 have h := s225e
 refine xr (xz (.i 0) Z (xe (aw_block (aw_claimCell 1 0 Z Z fun t294 => (aw_while (σ := mewsref16.with_.S0) (ν := Nat) (mewsref16.with_.body0 r157 f) (fun s270 v => [(3, .ptr p154 0), (4, .ptr p155 0), (5, .ptr p156 0), (6, .sl (.own t158) 3 (m0L r157)), (7, .bool s270.met), (8, .i s270.i)]) (fun s270 v => [(p154, .cells [.str f.Name, .str f.Data, .i f.Synced]), (p155, .cells [.sl .full 3 e0L, .sl .full 3 e1L]), (p156, .cells [.sl (.own v) 3 (m0L s270.c), .sl .no 3 (m1L d.Faults)]), (t158, .spare), (v, .spare)]) ⟨false, 0, ([] : List api.File)⟩ t294 _ h (wi [4, 3, 2, 1, 0] Z) ?_)))))
 rintro s270 n271 x273 h hx272
 unfold mewsref16.with_.body0 at h
 refine aw_seq (xr (xy Z (xy Z (xa (.i (r157.length : Int)) Z (pu_lenM Z underlying22 (tm Z)) (xz (bd (s270.i < (r157.length : Int))) Z (xe (cd h Z (fun _ h => ?_) (fun _ h => ?_))))))))
 refine aw_skip ?_
 obtain ⟨s282, s282e, h284⟩ := bind_some h
 refine aw_meet (ν := Nat) (fun v => [(3, .ptr p154 0), (4, .ptr p155 0), (5, .ptr p156 0), (6, .sl (.own t158) 3 (m0L r157)), (7, .bool s282.1), (8, .i s270.i)]) (fun v => [(p154, .cells [.str f.Name, .str f.Data, .i f.Synced]), (p155, .cells [.sl .full 3 e0L, .sl .full 3 e1L]), (p156, .cells [.sl (.own v) 3 (m0L s282.2), .sl .no 3 (m1L d.Faults)]), (t158, .spare), (v, .spare)]) ?_ ?_
 have h := s282e
 refine aw_block (aw_seq ?_)
 obtain ⟨c286, h⟩ := need_of h
 refine aw_planR (by decide +kernel) [[], [], [], [], [], [], [(0, 0, false)], []] [[], [], [], [], []] [[[(p154, .cells [.str f.Name, .str f.Data, .i f.Synced])]], [[(p155, .cells [.sl .full 3 e0L, .sl .full 3 e1L])]], [[(p156, .cells [.sl (.own n271) 3 (m0L s270.c), .sl .no 3 (m1L d.Faults)])]], [[(t158, .spare)]], [[(n271, .spare)]]] [.sl (.own t158) 3 (m0L r157), .i s270.i, .vptr [.str (ix r157 s270.i).Name, .str (ix r157 s270.i).Data, .i (ix r157 s270.i).Synced], .vptr [.str (ix r157 s270.i).Name, .str (ix r157 s270.i).Data, .i (ix r157 s270.i).Synced], .str (ix r157 s270.i).Name, .ptr p154 0, .str f.Name, bd ((ix r157 s270.i).Name = f.Name)] (by decide +kernel) Z Z ?_ ?_
 exact ⟨ym Z Z Z, ym Z Z Z, yp Z (pu_indexAddrM Z underlying22 sizeOf60 (tm Z) (tm Z) c286 Z), yp Z (fa Z underlying60 Z sizeOf9 Z Z Z), stepg_plain Z (op_loadV1 Z isAgg9 (tm Z) Z ⟨Z, Z⟩), yp Z (fa Z underlying60 Z sizeOf9 Z Z Z), stepg_plain Z (op_load1 (i := 0) Z isAgg9 (tm Z) Z Z ⟨Z, Z⟩), yp Z (pu_str (v := bd ((ix r157 s270.i).Name = f.Name)) Z Z (tm Z) (tm Z) Z), trivial⟩
 refine aw_cond (b := decide ((ix r157 s270.i).Name = f.Name)) (tm Z) (fun hb292 => ?_) (fun hb292 => ?_)
 replace h := ite_t (dec_t hb292) h
 refine xr (xf (.ptr p156 0) underlying25 sizeOf22 Z (xl 2 isAgg22 Z (xL 0 isAgg60 sizeOf60 Z (xc Z (op_buildSlice (xs := ([f] : List api.File).map api.File.av) (aparts := [(0, .agg [.str f.Name, .str f.Data, .i f.Synced])]) Z underlying22 sizeOf60 zeroValue60 (by decide) (by decide) ⟨Z, (tm Z), trivial⟩ Z Z Z ?_)))))
 obtain ⟨c287, h⟩ := need_of h
 refine xc Z (op_appendOM (q := 4) Z underlying22 underlying22 (.inl Z) typeInfo60 Z Z Z (by decide) (tm Z) Z (given_sl (tm Z)) c287 ?_)
 intro t288
 refine xf (.ptr p156 0) underlying25 sizeOf22 Z (xs 2 [.sl (.own t288) 3 (m0L (s270.c ++ [f])), .sl .no 3 (m1L d.Faults)] sizeOf22 Z (xe (aw_region (xz (.bool true) Z (xe ?_)))))
 cases h
 exact ⟨t288, wl [0, 1, 2, 3, 4] Z ⟨⟨_, Z, cr, Z⟩, ⟨_, Z, cr, Z⟩, ⟨_, Z, ⟨vr, vr, trivial⟩, Z⟩, ⟨_, Z, Z⟩, ⟨_, Z, Z⟩, trivial⟩ ⟨tm Z, tm Z, tm Z, tm Z, tm Z, tm Z, trivial⟩⟩
 replace h := ite_f (dec_f hb292) h
 obtain ⟨c289, h⟩ := need_of h
 obtain ⟨c290, h⟩ := need_of h
 refine aw_reserve fun p291 => (aw_planR (by decide +kernel) [[], [(3, 0, false)], [], [], [], [], [], [(5, 0, true), (0, 0, true)], [], [(3, 0, true)]] [[7], [], [], [9], [], [7]] [[[(p291, .resv)], [(p291, .spare)]], [[(p154, .cells [.str f.Name, .str f.Data, .i f.Synced])]], [[(p155, .cells [.sl .full 3 e0L, .sl .full 3 e1L])]], [[(p156, .cells [.sl (.own n271) 3 (m0L s270.c), .sl .no 3 (m1L d.Faults)])], [(p156, .cells [.sl (.own p291) 3 (m0L (s270.c ++ [(ix r157 s270.i)])), .sl .no 3 (m1L d.Faults)])]], [[(t158, .spare)]], [[(n271, .spare)], []]] [.ptr p156 0, .sl (.own n271) 3 (m0L s270.c), .sl (.own t158) 3 (m0L r157), .i s270.i, .vptr [.str (ix r157 s270.i).Name, .str (ix r157 s270.i).Data, .i (ix r157 s270.i).Synced], .agg [.str (ix r157 s270.i).Name, .str (ix r157 s270.i).Data, .i (ix r157 s270.i).Synced], .sl .full 3 ([(ix r157 s270.i)].map api.File.av), .sl (.own p291) 3 (m0L (s270.c ++ [(ix r157 s270.i)])), .ptr p156 0, .un] (by decide +kernel) Z Z ?_ ?_)
 exact ⟨yp Z (fa Z underlying25 Z sizeOf22 Z Z Z), stepg_plain Z (op_load1 (i := 0) Z isAgg22 (tm Z) Z Z ⟨Z, Z⟩), ym Z Z Z, ym Z Z Z, yp Z (pu_indexAddrM Z underlying22 sizeOf60 (tm Z) (tm Z) c289 Z), stepg_plain Z (op_loadVN Z isAgg60 sizeOf60 (tm Z) (nb Z) Z ⟨Z, Z⟩), stepg_plain Z (op_buildSlice (xs := ([(ix r157 s270.i)] : List api.File).map api.File.av) (aparts := [(0, .agg [.str (ix r157 s270.i).Name, .str (ix r157 s270.i).Data, .i (ix r157 s270.i).Synced])]) Z underlying22 sizeOf60 zeroValue60 (by decide) (by decide) ⟨Z, (tm Z), trivial⟩ Z Z Z ⟨Z, Z⟩), stepg_plain Z (aop_settleS (op_appendOM (q := 0) Z underlying22 underlying22 (.inl Z) typeInfo60 Z Z Z (by decide) (tm Z) Z (given_sl (tm Z)) c290 fun t => ⟨t, Z, Z⟩) ⟨Z, Z⟩), yp Z (fa Z underlying25 Z sizeOf22 Z Z Z), stepg_plain Z (op_store (i := 0) (cs' := [.sl (.own p291) 3 (m0L (s270.c ++ [(ix r157 s270.i)])), .sl .no 3 (m1L d.Faults)]) Z sizeOf22 (tm Z) (v := .sl (.own p291) 3 (m0L (s270.c ++ [(ix r157 s270.i)]))) (tm Z) Z Z Z (nb Z) Z ⟨Z, Z⟩), trivial⟩
 cases h
 exact ⟨p291, wl [1, 2, 3, 4, 0] Z ⟨⟨_, Z, cr, Z⟩, ⟨_, Z, cr, Z⟩, ⟨_, Z, ⟨vr, vr, trivial⟩, Z⟩, ⟨_, Z, Z⟩, ⟨_, Z, Z⟩, trivial⟩ ⟨tm Z, tm Z, tm Z, tm Z, tm Z, tm Z, trivial⟩⟩
 intro n283
 have h := h284
 refine aw_region (xy Z (xz (.i (w64 (s270.i + 1))) Z (xy Z (xe ?_))))
 cases h
 exact ⟨_, n283, Z, wi [0, 1, 2, 3, 4] Z⟩
 refine aw_exit ?_
 cases h
 cases congrArg some (hx272 _ rfl)
 exact ⟨n271, wi [0, 1, 2, 4] Z⟩
 intro n226
 have h := h227
 obtain ⟨s298, s298e, h300⟩ := bind_some h
 refine aw_meet (ν := Nat) (fun v => [(4, .ptr p155 0), (5, .ptr p156 0)]) (fun v => [(p155, .cells [.sl .full 3 e0L, .sl .full 3 e1L]), (p156, .cells [.sl (.own v) 3 (m0L s298), .sl .no 3 (m1L d.Faults)]), (v, .spare)]) ?_ ?_
 have h := s298e
 refine xr (xy Z (xz (.bool (!s225.1)) Z (xe (cb h Z (fun _ h => ?_) (fun _ h => ?_)))))
 refine aw_region (xf (.ptr p156 0) underlying25 sizeOf22 Z (xl 2 isAgg22 Z (xL 0 isAgg60 sizeOf60 Z (xc Z (op_buildSlice (xs := ([f] : List api.File).map api.File.av) (aparts := [(0, .agg [.str f.Name, .str f.Data, .i f.Synced])]) Z underlying22 sizeOf60 zeroValue60 (by decide) (by decide) ⟨Z, (tm Z), trivial⟩ Z Z Z ?_)))))
 obtain ⟨c302, h⟩ := need_of h
 refine xc Z (op_appendOM (q := 3) Z underlying22 underlying22 (.inl Z) typeInfo60 Z Z Z (by decide) (tm Z) Z (given_sl (tm Z)) c302 ?_)
 intro t303
 refine xf (.ptr p156 0) underlying25 sizeOf22 Z (xs 2 [.sl (.own t303) 3 (m0L (s225.2 ++ [f])), .sl .no 3 (m1L d.Faults)] sizeOf22 Z (xe ?_))
 cases h
 exact ⟨t303, wl [1, 2, 3] Z ⟨⟨_, Z, cr, Z⟩, ⟨_, Z, ⟨vr, vr, trivial⟩, Z⟩, ⟨_, Z, Z⟩, trivial⟩ ⟨tm Z, tm Z, trivial⟩⟩
 refine aw_skip ?_
 cases h
 exact ⟨n226, wi [1, 2, 3] Z⟩
 intro n299
 have h := h300
 refine xr (xL 1 isAgg25 sizeOf25 Z (xs 0 [.sl (.own n299) 3 (m0L s298), .sl .no 3 (m1L d.Faults)] sizeOf25 Z (xe (aw_ret ?_))))
 cases h
 exact rq [.agg [.sl (.own n299) 3 (m0L s298), .sl .no 3 (m1L d.Faults)]] ⟨n299, Z, Z⟩ vr ⟨(CellOk.agg 0 (tm Z) Z isAgg25 sizeOf25 (nb Z) Z), trivial⟩ (wi [2] Z)

theorem mewsref16.Meets.ok {d name kind r} (h : mewsref16.Meets d name kind = some r) : Sp prog 62 [.agg [.sl .no 3 (m0L d.Files), .sl .no 3 (m1L d.Faults)], .str name, .i kind] [] (fun v H => ∃ n0, v = .tup [.agg [.sl .no 3 (m0L r.1.Files), .sl (.own n0) 3 (m1L r.1.Faults)], .agg [.str r.2.1.Name, .i r.2.1.Kind, .i r.2.1.Short], .bool r.2.2] ∧ H = [(n0, .spare)]) := by
 unfold mewsref16.Meets at h
 refine sb [.cell 6 25, .cell 7 79, .tmp 8] func62 Z (xr (xb [.sl .no 3 (m0L d.Files), .sl .no 3 (m1L d.Faults)] Z fun p198 => xA (.agg [.sl .full 3 e0L, .sl .full 3 e1L]) zeroValue25 Z fun p199 => xA (.agg [.str nS, .i 0, .i 0]) zeroValue79 Z fun p200 => xz (.bool false) Z (xe (xr (xf (.ptr p198 0) underlying25 sizeOf22 Z (xl 2 isAgg22 Z (xa (.agg [.sl .no 3 (m0L d.Files), .sl .full 3 e1L]) Z (pu_build (zs := [.sl .full 3 e0L, .sl .full 3 e1L]) (szs := [1, 1]) (aparts := [(0, .sl .no 3 (m0L d.Files))]) (cs := [.sl .no 3 (m0L d.Files), .sl .full 3 e1L]) Z underlying25 zeroValue25 Z ⟨sizeOf22, sizeOf23, trivial⟩ ⟨Z, (tm Z), trivial⟩ Z) (xA (.agg [.sl .full 3 e0L, .sl .full 3 e1L]) zeroValue25 Z fun p201 => xs 0 [.sl .no 3 (m0L d.Files), .sl .full 3 e1L] sizeOf25 Z (xe (xr (xA (.agg [.str nS, .i 0, .i 0]) zeroValue79 Z fun p202 => xe (xr (xz (.bool false) Z (xe ?_))))))))))))))
 obtain ⟨s297, s297e, h299⟩ := bind_some h
 refine aw_meet (ν := Nat) (fun v => [(6, .ptr p199 0), (7, .ptr p200 0), (9, .ptr p201 0), (10, .ptr p202 0), (11, .bool s297.1)]) (fun v => [(p199, .cells [.sl .full 3 e0L, .sl .full 3 e1L]), (p200, .cells [.str nS, .i 0, .i 0]), (p201, .cells [.sl .no 3 (m0L d.Files), .sl (.own v) 3 (m1L s297.2.1)]), (p202, .cells [.str s297.2.2.1, .i s297.2.2.2.1, .i s297.2.2.2.2]), (v, .spare)]) ?_ ?_
 have h := s297e
 refine xr (xz (.i 0) Z (xe (aw_block (aw_claimCell 1 1 Z Z fun t394 => (aw_while (σ := mewsref16.Meets.S0) (ν := Nat) (mewsref16.Meets.body0 d name kind) (fun s360 v => [(1, .str name), (2, .i kind), (3, .ptr p198 0), (6, .ptr p199 0), (7, .ptr p200 0), (9, .ptr p201 0), (10, .ptr p202 0), (11, .bool s360.is), (12, .i s360.i)]) (fun s360 v => [(p198, .cells [.sl .no 3 (m0L d.Files), .sl .no 3 (m1L d.Faults)]), (p199, .cells [.sl .full 3 e0L, .sl .full 3 e1L]), (p200, .cells [.str nS, .i 0, .i 0]), (p201, .cells [.sl .no 3 (m0L d.Files), .sl (.own v) 3 (m1L s360.c)]), (p202, .cells [.str s360.c2, .i s360.c3, .i s360.c4]), (v, .spare)]) ⟨false, 0, ([] : List api.Fault), nS, 0, 0⟩ t394 _ h (wi [5, 4, 3, 2, 1, 0] Z) ?_)))))
 rintro s360 n361 x363 h hx362
 unfold mewsref16.Meets.body0 at h
 refine aw_seq (xr (xy Z (xf (.ptr p198 1) underlying25 sizeOf23 Z (xl 0 isAgg23 Z (xa (.i (d.Faults.length : Int)) Z (pu_lenM Z underlying23 (tm Z)) (xz (bd (s360.i < (d.Faults.length : Int))) Z (xe (cd h Z (fun _ h => ?_) (fun _ h => ?_)))))))))
 refine aw_skip ?_
 obtain ⟨s377, s377e, h379⟩ := bind_some h
 refine aw_meet (ν := Nat) (fun v => [(1, .str name), (2, .i kind), (3, .ptr p198 0), (6, .ptr p199 0), (7, .ptr p200 0), (9, .ptr p201 0), (10, .ptr p202 0), (11, .bool s377.1), (12, .i s360.i)]) (fun v => [(p198, .cells [.sl .no 3 (m0L d.Files), .sl .no 3 (m1L d.Faults)]), (p199, .cells [.sl .full 3 e0L, .sl .full 3 e1L]), (p200, .cells [.str nS, .i 0, .i 0]), (p201, .cells [.sl .no 3 (m0L d.Files), .sl (.own v) 3 (m1L s377.2.1)]), (p202, .cells [.str s377.2.2.1, .i s377.2.2.2.1, .i s377.2.2.2.2]), (v, .spare)]) ?_ ?_
 have h := s377e
 refine aw_block (xr (xf (.ptr p198 1) underlying25 sizeOf23 Z (xl 0 isAgg23 Z (xy Z ?_))))
 obtain ⟨c381, h⟩ := need_of h
 refine xa (.vptr [.str (ix d.Faults s360.i).Name, .i (ix d.Faults s360.i).Kind, .i (ix d.Faults s360.i).Short]) Z (pu_indexAddrM Z underlying23 sizeOf79 (tm Z) (tm Z) c381 Z) (xc Z (op_loadVN Z isAgg79 sizeOf79 (tm Z) (nb Z) Z (xA (.agg [.str nS, .i 0, .i 0]) zeroValue79 Z fun p382 => xs 0 [.str (ix d.Faults s360.i).Name, .i (ix d.Faults s360.i).Kind, .i (ix d.Faults s360.i).Short] sizeOf79 Z (xe ?_))))
 obtain ⟨s385, s385e, h386⟩ := letO_of h
 refine aw_meet (ν := Unit) (fun v => [(1, .str name), (2, .i kind), (3, .ptr p198 0), (6, .ptr p199 0), (7, .ptr p200 0), (9, .ptr p201 0), (10, .ptr p202 0), (11, .bool s360.is), (12, .i s360.i), (13, .ptr p382 0), (42, .bool s385)]) (fun v => [(p198, .cells [.sl .no 3 (m0L d.Files), .sl .no 3 (m1L d.Faults)]), (p199, .cells [.sl .full 3 e0L, .sl .full 3 e1L]), (p200, .cells [.str nS, .i 0, .i 0]), (p201, .cells [.sl .no 3 (m0L d.Files), .sl (.own n361) 3 (m1L s360.c)]), (p202, .cells [.str s360.c2, .i s360.c3, .i s360.c4]), (p382, .cells [.str (ix d.Faults s360.i).Name, .i (ix d.Faults s360.i).Kind, .i (ix d.Faults s360.i).Short]), (n361, .spare)]) ?_ ?_
 have h := s385e.symm
 refine aw_region (xy Z (xz (.bool (!s360.is)) Z (xy Z ?_)))
 rcases Bool.eq_false_or_eq_true (!s360.is) with hb388 | hb388
 replace h := ite_t hb388 h
 refine aops_known 31 Z hb388 (xp (.ptr p382 0) Z Z (fa Z underlying79 Z sizeOf9 Z Z Z) (xg Z Z (op_load1 (i := 0) Z isAgg9 (tm Z) Z Z (xq Z Z Z Z (xp (bd ((ix d.Faults s360.i).Name = name)) Z Z (pu_str (v := bd ((ix d.Faults s360.i).Name = name)) Z Z (tm Z) (tm Z) Z) (xz (bd ((ix d.Faults s360.i).Name = name)) Z (xy Z ?_)))))))
 rcases Bool.eq_false_or_eq_true (decide ((ix d.Faults s360.i).Name = name)) with hb389 | hb389
 replace h := ite_t (dec_t hb389) h
 refine aops_known 37 Z hb389 (xp (.ptr p382 1) Z Z (fa Z underlying79 Z sizeOf3 Z Z Z) (xg Z Z (op_load1 (i := 0) Z isAgg3 (tm Z) Z Z (xq Z Z Z Z (xp (bd ((ix d.Faults s360.i).Kind = kind)) Z Z (pe Z) (xz (bd ((ix d.Faults s360.i).Kind = kind)) Z (xe ?_)))))))
 subst h
 exact ⟨(), wi [1, 2, 3, 4, 5, 0, 6] Z⟩
 replace h := ite_f (dec_f hb389) h
 refine aops_known 37 Z hb389 (xu Z (xu Z (xu Z (xu Z (xz (.bool false) Z (xe ?_))))))
 subst h
 exact ⟨(), wi [1, 2, 3, 4, 5, 0, 6] Z⟩
 replace h := ite_fb hb388 h
 refine aops_known 31 Z hb388 (xu Z (xu Z (xu Z (xu Z (xz (.bool false) Z (xy Z (xu Z (xu Z (xu Z ?_)))))))))
 refine xu Z (xz (.bool false) Z (xe ?_))
 subst h
 exact ⟨(), wi [1, 2, 3, 4, 5, 0, 6] Z⟩
 intro _
 have h := h386
 refine aw_cond (b := s385) (tm Z) (fun hb392 => ?_) (fun hb392 => ?_)
 replace h := ite_t hb392 h
 refine aw_region (xL 5 isAgg79 sizeOf79 Z (xs 4 [.str (ix d.Faults s360.i).Name, .i (ix d.Faults s360.i).Kind, .i (ix d.Faults s360.i).Short] sizeOf79 Z (xz (.bool true) Z (xe ?_))))
 cases h
 exact ⟨n361, wi [0, 1, 2, 3, 4, 6] Z⟩
 replace h := ite_fb hb392 h
 refine aw_region (xf (.ptr p201 1) underlying25 sizeOf23 Z (xl 3 isAgg23 Z (xL 5 isAgg79 sizeOf79 Z (xc Z (op_buildSlice (xs := ([(ix d.Faults s360.i)] : List api.Fault).map api.Fault.av) (aparts := [(0, .agg [.str (ix d.Faults s360.i).Name, .i (ix d.Faults s360.i).Kind, .i (ix d.Faults s360.i).Short])]) Z underlying23 sizeOf79 zeroValue79 (by decide) (by decide) ⟨Z, (tm Z), trivial⟩ Z Z Z ?_)))))
 obtain ⟨c390, h⟩ := need_of h
 refine xc Z (op_appendOM (q := 6) Z underlying23 underlying23 (.inl Z) typeInfo79 Z Z Z (by decide) (tm Z) Z (given_sl (tm Z)) c390 ?_)
 intro t391
 refine xf (.ptr p201 1) underlying25 sizeOf23 Z (xs 3 [.sl .no 3 (m0L d.Files), .sl (.own t391) 3 (m1L (s360.c ++ [(ix d.Faults s360.i)]))] sizeOf23 Z (xe ?_))
 cases h
 exact ⟨t391, wl [0, 1, 2, 3, 4, 6] Z ⟨⟨_, Z, cr, Z⟩, ⟨_, Z, cr, Z⟩, ⟨_, Z, cr, Z⟩, ⟨_, Z, ⟨vr, vr, trivial⟩, Z⟩, ⟨_, Z, cr, Z⟩, ⟨_, Z, Z⟩, trivial⟩ ⟨tm Z, tm Z, tm Z, tm Z, tm Z, tm Z, tm Z, tm Z, tm Z, trivial⟩⟩
 intro n378
 have h := h379
 refine aw_region (xy Z (xz (.i (w64 (s360.i + 1))) Z (xy Z (xe ?_))))
 cases h
 exact ⟨_, n378, Z, wi [0, 1, 2, 3, 4, 5] Z⟩
 refine aw_exit ?_
 cases h
 cases congrArg some (hx362 _ rfl)
 exact ⟨n361, wi [1, 2, 3, 4, 5] Z⟩
 intro n298
 have h := h299
 refine aw_seq (aw_planR (by decide +kernel) [[(2, 0, false)], [(3, 0, false)], [], [(0, 0, true)], [(1, 0, true)], []] [[3], [4], [], [], []] [[[(p199, .cells [.sl .full 3 e0L, .sl .full 3 e1L])], [(p199, .cells [.sl .no 3 (m0L d.Files), .sl (.own n298) 3 (m1L s297.2.1)])]], [[(p200, .cells [.str nS, .i 0, .i 0])], [(p200, .cells [.str s297.2.2.1, .i s297.2.2.2.1, .i s297.2.2.2.2])]], [[(p201, .cells [.sl .no 3 (m0L d.Files), .sl (.own n298) 3 (m1L s297.2.1)])]], [[(p202, .cells [.str s297.2.2.1, .i s297.2.2.2.1, .i s297.2.2.2.2])]], [[(n298, .spare)]]] [.agg [.sl .no 3 (m0L d.Files), .sl (.own n298) 3 (m1L s297.2.1)], .agg [.str s297.2.2.1, .i s297.2.2.2.1, .i s297.2.2.2.2], .bool s297.1, .un, .un, .bool s297.1] (by decide +kernel) Z Z ?_ ?_)
 exact ⟨stepg_plain Z (op_loadN (i := 0) Z isAgg25 sizeOf25 (tm Z) Z (nb Z) Z ⟨Z, Z⟩), stepg_plain Z (op_loadN (i := 0) Z isAgg79 sizeOf79 (tm Z) Z (nb Z) Z ⟨Z, Z⟩), ym Z Z Z, stepg_plain Z (op_store (i := 0) (cs' := [.sl .no 3 (m0L d.Files), .sl (.own n298) 3 (m1L s297.2.1)]) Z sizeOf25 (tm Z) (v := .agg [.sl .no 3 (m0L d.Files), .sl (.own n298) 3 (m1L s297.2.1)]) (tm Z) Z Z Z (nb Z) Z ⟨Z, Z⟩), stepg_plain Z (op_store (i := 0) (cs' := [.str s297.2.2.1, .i s297.2.2.2.1, .i s297.2.2.2.2]) Z sizeOf79 (tm Z) (v := .agg [.str s297.2.2.1, .i s297.2.2.2.1, .i s297.2.2.2.2]) (tm Z) Z Z Z (nb Z) Z ⟨Z, Z⟩), ym Z Z Z, trivial⟩
 refine aw_ret ?_
 cases h
 exact rq [.agg [.sl .no 3 (m0L d.Files), .sl (.own n298) 3 (m1L s297.2.1)], .agg [.str s297.2.2.1, .i s297.2.2.2.1, .i s297.2.2.2.2], .bool s297.1] ⟨n298, Z, Z⟩ (AV.Le.tup cr) ⟨(CellOk.agg 0 (tm Z) Z isAgg25 sizeOf25 (nb Z) Z), (CellOk.agg 1 (tm Z) Z isAgg79 sizeOf79 (nb Z) Z), (tm Z), trivial⟩ (wi [4] Z)

theorem mewsref16.Sync.ok {d name r} (h : mewsref16.Sync d name = some r) : Sp prog 34 [.agg [.sl .no 3 (m0L d.Files), .sl .no 3 (m1L d.Faults)], .str name] [] (fun v H => v = .tup [.agg [.sl .no 3 (m0L r.1.Files), .sl .no 3 (m1L r.1.Faults)], .i r.2] ∧ H = []) := by
 unfold mewsref16.Sync at h
 refine sb [.cell 4 25, .tmp 5] func34 Z (xr (xb [.sl .no 3 (m0L d.Files), .sl .no 3 (m1L d.Faults)] Z fun p12 => xA (.agg [.sl .full 3 e0L, .sl .full 3 e1L]) zeroValue25 Z fun p13 => xz (.i 0) Z (xe (xr (xL 1 isAgg25 sizeOf25 Z (xy Z ?_))))))
 obtain ⟨r14, r14e, h⟩ := bind_some h
 refine xo (mewsref16.Find.ok r14e) call31 Z (xy Z (xz (.agg [.str r14.1.Name, .str r14.1.Data, .i r14.1.Synced]) Z (xz (.bool r14.2) Z (xA (.agg [.str nS, .str nS, .i 0]) zeroValue60 Z fun p15 => xs 0 [.str r14.1.Name, .str r14.1.Data, .i r14.1.Synced] sizeOf60 Z (xy Z (xe (aw_seq (xr (xy Z (xz (.bool (!r14.2)) Z (xe (cb h Z (fun _ h => ?_) (fun _ h => ?_)))))))))))))
 refine xr (xL 2 isAgg25 sizeOf25 Z (xs 1 [.sl .no 3 (m0L d.Files), .sl .no 3 (m1L d.Faults)] sizeOf25 Z (xz (.i 8) Z (xe (aw_ret ?_)))))
 cases h
 exact rq [.agg [.sl .no 3 (m0L d.Files), .sl .no 3 (m1L d.Faults)], .i 8] ⟨Z, Z⟩ (AV.Le.tup cr) ⟨(CellOk.agg 1 (tm Z) Z isAgg25 sizeOf25 (nb Z) Z), (tm Z), trivial⟩ w0
 refine aw_skip (xr (xL 2 isAgg25 sizeOf25 Z (xy Z ?_)))
 obtain ⟨r16, r16e, h⟩ := bind_some h
 refine xk (mewsref16.Meets.ok r16e) call62 Z ?_
 rintro _ _ ⟨t17, rfl, rfl⟩
 refine xy Z (xz (.agg [.sl .no 3 (m0L r16.1.Files), .sl (.own t17) 3 (m1L r16.1.Faults)]) Z (xz (.agg [.str r16.2.1.Name, .i r16.2.1.Kind, .i r16.2.1.Short]) Z (xz (.bool r16.2.2) Z (xA (.agg [.str nS, .i 0, .i 0]) zeroValue79 Z fun p18 => xs 4 [.sl .no 3 (m0L r16.1.Files), .sl (.own t17) 3 (m1L r16.1.Faults)] sizeOf25 Z (xs 0 [.str r16.2.1.Name, .i r16.2.1.Kind, .i r16.2.1.Short] sizeOf79 Z (xy Z (xe (aw_seq (xr (xy Z (xe (cb h Z (fun _ h => ?_) (fun _ h => ?_)))))))))))))
 refine xr (xL 4 isAgg25 sizeOf25 Z (xs 3 [.sl .no 3 (m0L r16.1.Files), .sl (.own t17) 3 (m1L r16.1.Faults)] sizeOf25 Z (xz (.i 15) Z (xe (aw_ret ?_)))))
 cases h
 exact rq [.agg [.sl .no 3 (m0L r16.1.Files), .sl (.own t17) 3 (m1L r16.1.Faults)], .i 15] ⟨Z, Z⟩ (AV.Le.tup ⟨(AV.Le.agg ⟨vr, (AV.Le.forget _ _ _), trivial⟩), vr, trivial⟩) ⟨(CellOk.agg 3 (tm Z) Z isAgg25 sizeOf25 (nb Z) Z), (tm Z), trivial⟩ w0
 refine aw_skip (xr (xf (.ptr p15 1) underlying60 sizeOf9 Z (xl 2 isAgg9 Z (xa (.i (r14.1.Data.length : Int)) Z (pu_strLen Z underlying9 (tm Z)) (xf (.ptr p15 2) underlying60 sizeOf3 Z (xs 2 [.str r14.1.Name, .str r14.1.Data, .i (r14.1.Data.length : Int)] sizeOf3 Z (xe (aw_seq ?_))))))))
 refine aw_region (xL 4 isAgg25 sizeOf25 Z (xL 2 isAgg60 sizeOf60 Z ?_))
 obtain ⟨r19, r19e, h⟩ := bind_some h
 refine xc Z (op_call (vs := [.agg [.sl .no 3 (m0L r16.1.Files), .sl .no 3 (m1L r16.1.Faults)], .agg [.str r14.1.Name, .str r14.1.Data, .i (r14.1.Data.length : Int)]]) (H := []) Z call61 ⟨(AEv.le (tm Z) (AV.Le.agg ⟨vr, (AV.Le.forget _ _ _), trivial⟩)), (tm Z), trivial⟩ (List.Perm.refl _) (mewsref16.with_.ok r19e) ?_)
 rintro _ _ ⟨t20, rfl, rfl⟩
 refine xs 4 [.sl (.own t20) 3 (m0L r19.Files), .sl .no 3 (m1L r19.Faults)] sizeOf25 Z (xz (.i 0) Z (xe (aw_ret ?_)))
 cases h
 exact rq [.agg [.sl (.own t20) 3 (m0L r19.Files), .sl .no 3 (m1L r19.Faults)], .i 0] ⟨Z, Z⟩ (AV.Le.tup ⟨(AV.Le.agg ⟨(AV.Le.forget _ _ _), vr, trivial⟩), vr, trivial⟩) ⟨(CellOk.agg 4 (tm Z) Z isAgg25 sizeOf25 (nb Z) Z), (tm Z), trivial⟩ w0

theorem mewsref16.Same.ok {a b r} (h : mewsref16.Same a b = some r) : Sp prog 10 [.agg [.sl .no 3 (m0L a.Files), .sl .no 3 (m1L a.Faults)], .agg [.sl .no 3 (m0L b.Files), .sl .no 3 (m1L b.Faults)]] [] (fun v H => v = .bool r ∧ H = []) := by
 unfold mewsref16.Same at h
 refine sb [.tmp 4] func10 Z (xr (xb [.sl .no 3 (m0L a.Files), .sl .no 3 (m1L a.Faults)] Z fun p141 => xb [.sl .no 3 (m0L b.Files), .sl .no 3 (m1L b.Faults)] Z fun p142 => xz (.bool false) Z (xe (aw_seq ?_))))
 obtain ⟨r143, r143e, h⟩ := bind_some h
 obtain ⟨r145, r145e, h⟩ := bind_some h
 refine aw_reserve fun p144 => (aw_reserve fun p146 => (aw_planR (by decide +kernel) [[(3, 0, false)], [(1, 0, true)], [(2, 0, false)], [(0, 0, true)], [], []] [[3], [1], [], []] [[[(p146, .resv)], [(p146, .spare)]], [[(p144, .resv)], [(p144, .spare)]], [[(p142, .cells [.sl .no 3 (m0L b.Files), .sl .no 3 (m1L b.Faults)])]], [[(p141, .cells [.sl .no 3 (m0L a.Files), .sl .no 3 (m1L a.Faults)])]]] [.agg [.sl .no 3 (m0L a.Files), .sl .no 3 (m1L a.Faults)], .sl (.own p144) 3 (m0L r143), .agg [.sl .no 3 (m0L b.Files), .sl .no 3 (m1L b.Faults)], .sl (.own p146) 3 (m0L r145), .sl (.own p144) 3 (m0L r143), .sl (.own p146) 3 (m0L r145)] (by decide +kernel) Z Z ?_ ?_))
 exact ⟨stepg_plain Z (op_loadN (i := 0) Z isAgg25 sizeOf25 (tm Z) Z (nb Z) Z ⟨Z, Z⟩), stepg_plain Z (aop_settleS (op_call (vs := [.agg [.sl .no 3 (m0L a.Files), .sl .no 3 (m1L a.Faults)]]) (H := []) (R := [(p144, .resv)]) Z call35 ⟨(tm Z), trivial⟩ (List.Perm.refl _) (mewsref16.Files.ok r143e) (by rintro _ _ ⟨t, rfl, rfl⟩; exact ⟨t, Z, Z⟩)) ⟨Z, Z⟩), stepg_plain Z (op_loadN (i := 0) Z isAgg25 sizeOf25 (tm Z) Z (nb Z) Z ⟨Z, Z⟩), stepg_plain Z (aop_settleS (op_call (vs := [.agg [.sl .no 3 (m0L b.Files), .sl .no 3 (m1L b.Faults)]]) (H := []) (R := [(p146, .resv)]) Z call35 ⟨(tm Z), trivial⟩ (List.Perm.refl _) (mewsref16.Files.ok r145e) (by rintro _ _ ⟨t, rfl, rfl⟩; exact ⟨t, Z, Z⟩)) ⟨Z, Z⟩), ym Z Z Z, ym Z Z Z, trivial⟩
 refine aw_seq ?_
 obtain ⟨s148, s148e, h149⟩ := letO_of h
 refine aw_meet (ν := Unit) (fun v => [(2, .ptr p141 0), (3, .ptr p142 0), (5, .sl (.own p144) 3 (m0L r143)), (28, .bool s148)]) (fun v => [(p141, .cells [.sl .no 3 (m0L a.Files), .sl .no 3 (m1L a.Faults)]), (p142, .cells [.sl .no 3 (m0L b.Files), .sl .no 3 (m1L b.Faults)]), (p144, .spare)]) ?_ ?_
 have h := s148e.symm
 refine aw_region (xy Z (xa (.i (r143.length : Int)) Z (pu_lenM Z underlying22 (tm Z)) (xy Z (xa (.i (r145.length : Int)) Z (pu_lenM Z underlying22 (tm Z)) (xz (bn ((r143.length : Int) = (r145.length : Int))) Z (xy Z ?_))))))
 rcases Bool.eq_false_or_eq_true (!decide ((r143.length : Int) = (r145.length : Int))) with hb151 | hb151
 replace h := ite_f (ndec_t hb151) h
 refine aops_known 20 Z hb151 (xu Z (xu Z (xu Z (xu Z (xu Z (xu Z (xu Z (xz (.bool true) Z (xe ?_)))))))))
 subst h
 exact ⟨(), wi [3, 2, 1] Z⟩
 replace h := ite_t (ndec_f hb151) h
 refine aops_known 20 Z hb151 (xp (.ptr p141 1) Z Z (fa Z underlying25 Z sizeOf23 Z Z Z) (xg Z Z (op_load1 (i := 3) Z isAgg23 (tm Z) Z Z (xp (.i (a.Faults.length : Int)) Z Z (pu_lenM Z underlying23 (tm Z)) (xp (.ptr p142 1) Z Z (fa Z underlying25 Z sizeOf23 Z Z Z) (xg Z Z (op_load1 (i := 2) Z isAgg23 (tm Z) Z Z (xp (.i (b.Faults.length : Int)) Z Z (pu_lenM Z underlying23 (tm Z)) (xp (bn ((a.Faults.length : Int) = (b.Faults.length : Int))) Z Z (pe Z) (xz (bn ((a.Faults.length : Int) = (b.Faults.length : Int))) Z (xe ?_)))))))))))
 subst h
 exact ⟨(), wi [3, 2, 1] Z⟩
 intro _
 have h := h149
 refine aw_cond (b := s148) (tm Z) (fun hb280 => ?_) (fun hb280 => ?_)
 replace h := ite_t hb280 h
 refine xr (xz (.bool false) Z (xe (aw_ret ?_)))
 cases h
 exact rt ⟨Z, Z⟩ Z w0
 replace h := ite_fb hb280 h
 refine aw_skip ?_
 obtain ⟨s279, s279e, h195⟩ := bind_some h
 refine aw_join (σ := Unit) (ν := Unit) (fun u v => [(2, .ptr p141 0), (3, .ptr p142 0)]) (fun u v => [(p141, .cells [.sl .no 3 (m0L a.Files), .sl .no 3 (m1L a.Faults)]), (p142, .cells [.sl .no 3 (m0L b.Files), .sl .no 3 (m1L b.Faults)])]) (fun u => s279 = .inl u) ?_ ?_
 intro s194
 intro _
 rintro rfl
 have h := onSum_inl h195
 obtain ⟨s278, s278e, h258⟩ := bind_some h
 refine aw_join (σ := Unit) (ν := Unit) (fun u v => []) (fun u v => []) (fun u => s278 = .inl u) ?_ ?_
 intro s257
 intro _
 rintro rfl
 have h := onSum_inl h258
 refine xr (xz (.bool true) Z (xe (aw_ret ?_)))
 cases h
 exact rt ⟨Z, Z⟩ Z w0
 have h := s278e
 refine xr (xz (.i 0) Z (xe (aw_block (aw_while (σ := mewsref16.Same.S2) (ν := Unit) (mewsref16.Same.body2 a b) (fun s270 v => [(2, .ptr p141 0), (3, .ptr p142 0), (10, .i s270.i)]) (fun s270 v => [(p141, .cells [.sl .no 3 (m0L a.Files), .sl .no 3 (m1L a.Faults)]), (p142, .cells [.sl .no 3 (m0L b.Files), .sl .no 3 (m1L b.Faults)])]) ⟨0⟩ () _ h (wi [0, 1] Z) ?_))))
 rintro s270 _ x272 h hx271
 unfold mewsref16.Same.body2 at h
 refine aw_seq (xr (xy Z (xf (.ptr p141 1) underlying25 sizeOf23 Z (xl 0 isAgg23 Z (xa (.i (a.Faults.length : Int)) Z (pu_lenM Z underlying23 (tm Z)) (xz (bd (s270.i < (a.Faults.length : Int))) Z (xe (cd h Z (fun _ h => ?_) (fun _ h => ?_)))))))))
 refine aw_skip (aw_seq (aw_block (aw_seq ?_)))
 obtain ⟨c274, h⟩ := need_of h
 obtain ⟨c275, h⟩ := need_of h
 refine aw_planR (by decide +kernel) [[], [(0, 0, false)], [], [], [], [], [(1, 0, false)], [], [], [], []] [[], []] [[[(p141, .cells [.sl .no 3 (m0L a.Files), .sl .no 3 (m1L a.Faults)])]], [[(p142, .cells [.sl .no 3 (m0L b.Files), .sl .no 3 (m1L b.Faults)])]]] [.ptr p141 1, .sl .no 3 (m1L a.Faults), .i s270.i, .vptr [.str (ix a.Faults s270.i).Name, .i (ix a.Faults s270.i).Kind, .i (ix a.Faults s270.i).Short], .agg [.str (ix a.Faults s270.i).Name, .i (ix a.Faults s270.i).Kind, .i (ix a.Faults s270.i).Short], .ptr p142 1, .sl .no 3 (m1L b.Faults), .i s270.i, .vptr [.str (ix b.Faults s270.i).Name, .i (ix b.Faults s270.i).Kind, .i (ix b.Faults s270.i).Short], .agg [.str (ix b.Faults s270.i).Name, .i (ix b.Faults s270.i).Kind, .i (ix b.Faults s270.i).Short], bn ((ix a.Faults s270.i) = (ix b.Faults s270.i))] (by decide +kernel) Z Z ?_ ?_
 exact ⟨yp Z (fa Z underlying25 Z sizeOf23 Z Z Z), stepg_plain Z (op_load1 (i := 0) Z isAgg23 (tm Z) Z Z ⟨Z, Z⟩), ym Z Z Z, yp Z (pu_indexAddrM Z underlying23 sizeOf79 (tm Z) (tm Z) c274 Z), stepg_plain Z (op_loadVN Z isAgg79 sizeOf79 (tm Z) (nb Z) Z ⟨Z, Z⟩), yp Z (fa Z underlying25 Z sizeOf23 Z Z Z), stepg_plain Z (op_load1 (i := 0) Z isAgg23 (tm Z) Z Z ⟨Z, Z⟩), ym Z Z Z, yp Z (pu_indexAddrM Z underlying23 sizeOf79 (tm Z) (tm Z) c275 Z), stepg_plain Z (op_loadVN Z isAgg79 sizeOf79 (tm Z) (nb Z) Z ⟨Z, Z⟩), yp Z (APure.eq (pu_structNe (b := (decide ((ix a.Faults s270.i).Name = (ix b.Faults s270.i).Name) && (decide ((ix a.Faults s270.i).Kind = (ix b.Faults s270.i).Kind) && (decide ((ix a.Faults s270.i).Short = (ix b.Faults s270.i).Short) && true)))) Z underlying79 (by kernel_rfl) (by kernel_rfl) (tm Z) (tm Z) ⟨_, _, _, _, ⟨by decide, isAgg9, Z, Z, CEq.str underlying9⟩, ⟨_, _, _, _, ⟨by decide, isAgg3, Z, Z, CEq.int underlying3⟩, ⟨_, _, _, _, ⟨by decide, isAgg3, Z, Z, CEq.int underlying3⟩, Z, Z⟩, Z⟩, Z⟩) (congrArg (fun b => AV.bool (!b)) (api.Fault.eq_iff (ix a.Faults s270.i) (ix b.Faults s270.i)).symm)), trivial⟩
 refine aw_cond (b := (!decide ((ix a.Faults s270.i) = (ix b.Faults s270.i)))) (tm Z) (fun hb276 => ?_) (fun hb276 => ?_)
 replace h := ite_f (ndec_t hb276) h
 refine xr (xz (.bool false) Z (xe (aw_ret ?_)))
 cases h
 cases congrArg some (hx271 _ rfl)
 cases onSum_inr h258
 exact rt ⟨Z, Z⟩ Z w0
 replace h := ite_t (ndec_f hb276) h
 refine aw_skip (aw_region (xy Z (xz (.i (w64 (s270.i + 1))) Z (xy Z (xe ?_)))))
 cases h
 exact ⟨_, (), Z, wi [0, 1] Z⟩
 refine aw_exit ?_
 cases h
 have h := congrArg some (hx271 _ rfl)
 exact ⟨(), (), (some_of h).symm, w0⟩
 have h := s279e
 refine xr (xz (.i 0) Z (xe (aw_block (aw_while (σ := mewsref16.Same.S0) (ν := Unit) (mewsref16.Same.body0 r143 b) (fun s223 v => [(2, .ptr p141 0), (3, .ptr p142 0), (5, .sl (.own p144) 3 (m0L r143)), (7, .i s223.i)]) (fun s223 v => [(p141, .cells [.sl .no 3 (m0L a.Files), .sl .no 3 (m1L a.Faults)]), (p142, .cells [.sl .no 3 (m0L b.Files), .sl .no 3 (m1L b.Faults)]), (p144, .spare)]) ⟨0⟩ () _ h (wi [0, 1, 2] Z) ?_))))
 rintro s223 _ x225 h hx224
 unfold mewsref16.Same.body0 at h
 refine aw_seq (xr (xy Z (xy Z (xa (.i (r143.length : Int)) Z (pu_lenM Z underlying22 (tm Z)) (xz (bd (s223.i < (r143.length : Int))) Z (xe (cd h Z (fun _ h => ?_) (fun _ h => ?_))))))))
 refine aw_skip (aw_seq (aw_block (aw_seq ?_)))
 obtain ⟨c227, h⟩ := need_of h
 obtain ⟨r228, r228e, h⟩ := bind_some h
 refine aw_reserve fun p229 => (aw_planR (by decide +kernel) [[(2, 0, false)], [], [], [], [], [], [], [], [], [], [(0, 0, true)], [(0, 1, true)], []] [[10, 11], [], [], []] [[[(p229, .resv)], [(p229, .cells [.str nS, .str nS, .i 0])], [(p229, .cells [.str r228.1.Name, .str r228.1.Data, .i r228.1.Synced])]], [[(p141, .cells [.sl .no 3 (m0L a.Files), .sl .no 3 (m1L a.Faults)])]], [[(p142, .cells [.sl .no 3 (m0L b.Files), .sl .no 3 (m1L b.Faults)])]], [[(p144, .spare)]]] [.agg [.sl .no 3 (m0L b.Files), .sl .no 3 (m1L b.Faults)], .sl (.own p144) 3 (m0L r143), .i s223.i, .vptr [.str (ix r143 s223.i).Name, .str (ix r143 s223.i).Data, .i (ix r143 s223.i).Synced], .vptr [.str (ix r143 s223.i).Name, .str (ix r143 s223.i).Data, .i (ix r143 s223.i).Synced], .str (ix r143 s223.i).Name, .tup [.agg [.str r228.1.Name, .str r228.1.Data, .i r228.1.Synced], .bool r228.2], .tup [.agg [.str r228.1.Name, .str r228.1.Data, .i r228.1.Synced], .bool r228.2], .agg [.str r228.1.Name, .str r228.1.Data, .i r228.1.Synced], .bool r228.2, .ptr p229 0, .un, .bool r228.2] (by decide +kernel) Z Z ?_ ?_)
 exact ⟨stepg_plain Z (op_loadN (i := 0) Z isAgg25 sizeOf25 (tm Z) Z (nb Z) Z ⟨Z, Z⟩), ym Z Z Z, ym Z Z Z, yp Z (pu_indexAddrM Z underlying22 sizeOf60 (tm Z) (tm Z) c227 Z), yp Z (fa Z underlying60 Z sizeOf9 Z Z Z), stepg_plain Z (op_loadV1 Z isAgg9 (tm Z) Z ⟨Z, Z⟩), stepg_plain Z (op_call (vs := [.agg [.sl .no 3 (m0L b.Files), .sl .no 3 (m1L b.Faults)], .str (ix r143 s223.i).Name]) (H := []) Z call31 ⟨(tm Z), (tm Z), trivial⟩ (R := []) (List.Perm.refl _) (mewsref16.Find.ok r228e) (by rintro _ _ ⟨rfl, rfl⟩; exact ⟨Z, Z⟩)), ym Z Z Z, yp Z (pe Z), yp Z (pe Z), stepg_plain Z (aop_settleP (op_alloc (cs := [.str nS, .str nS, .i 0]) (v := .agg [.str nS, .str nS, .i 0]) Z zeroValue60 Z Z Z fun t => ⟨t, Z, Z⟩) ⟨Z, Z⟩), stepg_plain Z (op_store (i := 0) (cs' := [.str r228.1.Name, .str r228.1.Data, .i r228.1.Synced]) Z sizeOf60 (tm Z) (v := .agg [.str r228.1.Name, .str r228.1.Data, .i r228.1.Synced]) (tm Z) Z Z Z (nb Z) Z ⟨Z, Z⟩), ym Z Z Z, trivial⟩
 obtain ⟨s232, s232e, h233⟩ := bind_some h
 refine aw_meet (ν := Unit) (fun v => [(2, .ptr p141 0), (3, .ptr p142 0), (5, .sl (.own p144) 3 (m0L r143)), (7, .i s223.i), (54, .bool s232)]) (fun v => [(p141, .cells [.sl .no 3 (m0L a.Files), .sl .no 3 (m1L a.Faults)]), (p142, .cells [.sl .no 3 (m0L b.Files), .sl .no 3 (m1L b.Faults)]), (p144, .spare)]) ?_ ?_
 have h := s232e
 rcases Bool.eq_false_or_eq_true (!r228.2) with hb235 | hb235
 replace h := ite_t hb235 h
 refine aw_planR (by decide +kernel) [[], [], [], [], [], [], [], [], [], []] [[], [], [], []] [[[(p229, .cells [.str r228.1.Name, .str r228.1.Data, .i r228.1.Synced])]], [[(p141, .cells [.sl .no 3 (m0L a.Files), .sl .no 3 (m1L a.Faults)])]], [[(p142, .cells [.sl .no 3 (m0L b.Files), .sl .no 3 (m1L b.Faults)])]], [[(p144, .spare)]]] [.bool r228.2, .bool (!r228.2), .bool true, .lit undef, .lit undef, .lit undef, .lit undef, .lit undef, .lit undef, .bool true] (by decide +kernel) Z Z ?_ ?_
 exact ⟨ym Z Z Z, yp Z (pe Z), AStepG.cast (ym Z Z Z) (congrArg AV.bool hb235), yx Z Z Z, yx Z Z Z, yx Z Z Z, yx Z Z Z, yx Z Z Z, yx Z Z Z, yp Z (pe Z), trivial⟩
 cases h
 exact ⟨(), wi [1, 2, 3] Z⟩
 replace h := ite_fb hb235 h
 obtain ⟨c236, h⟩ := need_of h
 refine aw_planR (by decide +kernel) [[], [], [], [(0, 0, false)], [], [], [], [], [], []] [[], [], [], []] [[[(p229, .cells [.str r228.1.Name, .str r228.1.Data, .i r228.1.Synced])]], [[(p141, .cells [.sl .no 3 (m0L a.Files), .sl .no 3 (m1L a.Faults)])]], [[(p142, .cells [.sl .no 3 (m0L b.Files), .sl .no 3 (m1L b.Faults)])]], [[(p144, .spare)]]] [.bool r228.2, .bool (!r228.2), .bool false, .agg [.str r228.1.Name, .str r228.1.Data, .i r228.1.Synced], .sl (.own p144) 3 (m0L r143), .i s223.i, .vptr [.str (ix r143 s223.i).Name, .str (ix r143 s223.i).Data, .i (ix r143 s223.i).Synced], .agg [.str (ix r143 s223.i).Name, .str (ix r143 s223.i).Data, .i (ix r143 s223.i).Synced], bn (r228.1 = (ix r143 s223.i)), bn (r228.1 = (ix r143 s223.i))] (by decide +kernel) Z Z ?_ ?_
 exact ⟨ym Z Z Z, yp Z (pe Z), AStepG.cast (ym Z Z Z) (congrArg AV.bool hb235), yg Z Z (op_loadN (i := 0) Z isAgg60 sizeOf60 (tm Z) Z (nb Z) Z ⟨Z, Z⟩), yq Z Z (pe Z), yq Z Z (pe Z), yq Z Z (pu_indexAddrM Z underlying22 sizeOf60 (tm Z) (tm Z) c236 Z), yg Z Z (op_loadVN Z isAgg60 sizeOf60 (tm Z) (nb Z) Z ⟨Z, Z⟩), yq Z Z (APure.eq (pu_structNe (b := (decide (r228.1.Name = (ix r143 s223.i).Name) && (decide (r228.1.Data = (ix r143 s223.i).Data) && (decide (r228.1.Synced = (ix r143 s223.i).Synced) && true)))) Z underlying60 (by kernel_rfl) (by kernel_rfl) (tm Z) (tm Z) ⟨_, _, _, _, ⟨by decide, isAgg9, Z, Z, CEq.str underlying9⟩, ⟨_, _, _, _, ⟨by decide, isAgg9, Z, Z, CEq.str underlying9⟩, ⟨_, _, _, _, ⟨by decide, isAgg3, Z, Z, CEq.int underlying3⟩, Z, Z⟩, Z⟩, Z⟩) (congrArg (fun b => AV.bool (!b)) (api.File.eq_iff r228.1 (ix r143 s223.i)).symm)), yp Z (pe Z), trivial⟩
 cases h
 exact ⟨(), wi [1, 2, 3] Z⟩
 intro _
 have h := h233
 refine aw_cond (b := s232) (tm Z) (fun hb237 => ?_) (fun hb237 => ?_)
 replace h := ite_t hb237 h
 refine xr (xz (.bool false) Z (xe (aw_ret ?_)))
 cases h
 cases congrArg some (hx224 _ rfl)
 cases onSum_inr h195
 exact rt ⟨Z, Z⟩ Z w0
 replace h := ite_fb hb237 h
 refine aw_skip (aw_region (xy Z (xz (.i (w64 (s223.i + 1))) Z (xy Z (xe ?_)))))
 cases h
 exact ⟨_, (), Z, wi [0, 1, 2] Z⟩
 refine aw_exit ?_
 cases h
 have h := congrArg some (hx224 _ rfl)
 exact ⟨(), (), (some_of h).symm, wi [0, 1] Z⟩

theorem mewsref15.Weight.ok {u_ r} (h : mewsref15.Weight u_ = some r) : Sp prog 43 [.agg [.sl .no 1 (m4L u_.Cmds)]] [] (fun v H => v = .i r ∧ H = []) := by
 unfold mewsref15.Weight at h
 refine sb [.tmp 2] func43 Z (xr (xb [.sl .no 1 (m4L u_.Cmds)] Z fun p503 => xz (.i 0) Z (xe (xr (xz (.i 0) Z (xe ?_))))))
 obtain ⟨s753, s753e, h754⟩ := bind_some h
 refine aw_meet (ν := Unit) (fun v => [(3, .i s753)]) (fun v => []) ?_ ?_
 have h := s753e
 refine xr (xz (.i 0) Z (xe (aw_block (aw_while (σ := mewsref15.Weight.S0) (ν := Unit) (mewsref15.Weight.body0 u_) (fun s920 v => [(1, .ptr p503 0), (3, .i s920.n), (4, .i s920.i)]) (fun s920 v => [(p503, .cells [.sl .no 1 (m4L u_.Cmds)])]) ⟨0, 0⟩ () _ h (wi [0] Z) ?_))))
 rintro s920 _ x922 h hx921
 unfold mewsref15.Weight.body0 at h
 refine aw_seq ?_
 obtain ⟨s925, s925e, h926⟩ := letO_of h
 refine aw_meet (ν := Unit) (fun v => [(1, .ptr p503 0), (3, .i s920.n), (4, .i s920.i), (14, .bool s925)]) (fun v => [(p503, .cells [.sl .no 1 (m4L u_.Cmds)])]) ?_ ?_
 have h := s925e.symm
 refine aw_region (xy Z (xf (.ptr p503 0) underlying68 sizeOf66 Z (xl 0 isAgg66 Z (xa (.i (u_.Cmds.length : Int)) Z (pu_lenM Z underlying66 (tm Z)) (xz (bd (s920.i < (u_.Cmds.length : Int))) Z (xy Z ?_))))))
 rcases Bool.eq_false_or_eq_true (decide (s920.i < (u_.Cmds.length : Int))) with hb928 | hb928
 replace h := ite_t (dec_t hb928) h
 refine aops_known 11 Z hb928 (xq Z Z Z Z (xp (bd (s920.n < 100000)) Z Z (pe Z) (xz (bd (s920.n < 100000)) Z (xe ?_))))
 subst h
 exact ⟨(), wi [0] Z⟩
 replace h := ite_f (dec_f hb928) h
 refine aops_known 11 Z hb928 (xu Z (xu Z (xz (.bool false) Z (xe ?_))))
 subst h
 exact ⟨(), wi [0] Z⟩
 intro _
 have h := h926
 refine aw_cond (b := s925) (tm Z) (fun hb1004 => ?_) (fun hb1004 => ?_)
 replace h := ite_t hb1004 h
 refine aw_skip ?_
 obtain ⟨s965, s965e, h966⟩ := bind_some h
 refine aw_meet (ν := Unit) (fun v => [(1, .ptr p503 0), (3, .i s965), (4, .i s920.i)]) (fun v => [(p503, .cells [.sl .no 1 (m4L u_.Cmds)])]) ?_ ?_
 have h := s965e
 refine aw_block (xr (xy Z (xz (.i (w64 (s920.n + 1))) Z (xy Z (xe (xr (xz (.i 0) Z ?_)))))))
 refine xe (aw_block (aw_while (σ := mewsref15.Weight.S2) (ν := Unit) (mewsref15.Weight.body2 s920 u_) (fun s990 v => [(1, .ptr p503 0), (3, .i s990.n), (4, .i s920.i), (5, .i s990.k)]) (fun s990 v => [(p503, .cells [.sl .no 1 (m4L u_.Cmds)])]) ⟨w64 (s920.n + 1), 0⟩ () _ h (wi [0] Z) ?_))
 rintro s990 _ x992 h hx991
 unfold mewsref15.Weight.body2 at h
 refine aw_seq ?_
 obtain ⟨s996, s996e, h997⟩ := bind_some h
 refine aw_meet (ν := Unit) (fun v => [(1, .ptr p503 0), (3, .i s990.n), (4, .i s920.i), (5, .i s990.k), (30, .bool s996)]) (fun v => [(p503, .cells [.sl .no 1 (m4L u_.Cmds)])]) ?_ ?_
 have h := s996e
 refine aw_region (xy Z (xf (.ptr p503 0) underlying68 sizeOf66 Z (xl 0 isAgg66 Z (xy Z ?_))))
 obtain ⟨c999, h⟩ := need_of h
 refine xa (.vptr [.sl .no 1 (m3L (ix u_.Cmds s920.i))]) Z (pu_indexAddrM Z underlying66 sizeOf65 (tm Z) (tm Z) c999 Z) (xc Z (op_loadV1 Z isAgg65 (tm Z) Z (xa (.i ((ix u_.Cmds s920.i).length : Int)) Z (pu_lenM Z underlying65 (tm Z)) (xz (bd (s990.k < ((ix u_.Cmds s920.i).length : Int))) Z (xy Z ?_)))))
 rcases Bool.eq_false_or_eq_true (decide (s990.k < ((ix u_.Cmds s920.i).length : Int))) with hb1000 | hb1000
 replace h := ite_t (dec_t hb1000) h
 refine aops_known 27 Z hb1000 (xq Z Z Z Z (xp (bd (s990.n < 100000)) Z Z (pe Z) (xz (bd (s990.n < 100000)) Z (xe ?_))))
 cases h
 exact ⟨(), wi [0] Z⟩
 replace h := ite_f (dec_f hb1000) h
 refine aops_known 27 Z hb1000 (xu Z (xu Z (xz (.bool false) Z (xe ?_))))
 cases h
 exact ⟨(), wi [0] Z⟩
 intro _
 have h := h997
 refine aw_cond (b := s996) (tm Z) (fun hb1003 => ?_) (fun hb1003 => ?_)
 replace h := ite_t hb1003 h
 refine aw_skip (aw_seq (aw_block (aw_region (xy Z (xf (.ptr p503 0) underlying68 sizeOf66 Z (xl 0 isAgg66 Z (xy Z ?_)))))))
 obtain ⟨c1001, h⟩ := need_of h
 refine xa (.vptr [.sl .no 1 (m3L (ix u_.Cmds s920.i))]) Z (pu_indexAddrM Z underlying66 sizeOf65 (tm Z) (tm Z) c1001 Z) (xc Z (op_loadV1 Z isAgg65 (tm Z) Z (xy Z ?_)))
 obtain ⟨c1002, h⟩ := need_of h
 refine xa (.vptr [.str (ix (ix u_.Cmds s920.i) s990.k)]) Z (pu_indexAddrM Z underlying65 sizeOf9 (tm Z) (tm Z) c1002 Z) (xc Z (op_loadV1 Z isAgg9 (tm Z) Z (xa (.i ((ix (ix u_.Cmds s920.i) s990.k).length : Int)) Z (pu_strLen Z underlying9 (tm Z)) (xz (.i (w64 (1 + ((ix (ix u_.Cmds s920.i) s990.k).length : Int)))) Z (xz (.i (w64 (s990.n + (w64 (1 + ((ix (ix u_.Cmds s920.i) s990.k).length : Int)))))) Z (xy Z (xe (aw_region (xy Z (xz (.i (w64 (s990.k + 1))) Z ?_))))))))))
 refine xy Z (xe ?_)
 cases h
 exact ⟨_, (), Z, wi [0] Z⟩
 replace h := ite_fb hb1003 h
 refine aw_exit ?_
 cases h
 cases congrArg some (hx991 _ rfl)
 exact ⟨(), wi [0] Z⟩
 intro _
 have h := h966
 refine aw_region (xy Z (xz (.i (w64 (s920.i + 1))) Z (xy Z (xe ?_))))
 cases h
 exact ⟨_, (), Z, wi [0] Z⟩
 replace h := ite_fb hb1004 h
 refine aw_exit ?_
 cases h
 cases congrArg some (hx921 _ rfl)
 exact ⟨(), wi [] Z⟩
 intro _
 have h := h754
 refine xr (xy Z (xy Z (xe (aw_ret ?_))))
 cases h
 exact rt ⟨Z, Z⟩ Z w0

theorem mewslaw15.Far.ok {l r} (h : mewslaw15.Far l = some r) : Sp prog 16 [.sl .no 1 (m7L l)] [] (fun v H => v = .bool r ∧ H = []) := by
 unfold mewslaw15.Far at h
 refine sb [.tmp 2] func16 Z (xr (xz (.bool false) Z (xe (xr (xz (.i 0) Z (xe ?_))))))
 obtain ⟨s92, s92e, h69⟩ := bind_some h
 refine aw_join (σ := Unit) (ν := Unit) (fun u v => [(0, .sl .no 1 (m7L l))]) (fun u v => []) (fun u => s92 = .inl u) ?_ ?_
 intro s68
 intro _
 rintro rfl
 have h := onSum_inl h69
 refine xr (xy Z (xa (.i (l.length : Int)) Z (pu_lenM Z underlying28 (tm Z)) (xz (bd (100 < (l.length : Int))) Z (xy Z (xe (aw_ret ?_))))))
 cases h
 exact rt ⟨Z, Z⟩ Z w0
 have h := s92e
 refine xr (xy Z (xa (.i (l.length : Int)) Z (pu_lenM Z underlying28 (tm Z)) (xz (.i 0) Z (xe (aw_block (aw_while (σ := mewslaw15.Far.S0) (ν := Unit) (mewslaw15.Far.body0 l) (fun s83 v => [(0, .sl .no 1 (m7L l)), (3, .i s83.n), (6, .sl .no 1 (m7L l)), (7, .i (l.length : Int)), (8, .i s83.t8)]) (fun s83 v => []) ⟨0, 0⟩ () _ h (wi [] Z) ?_))))))
 rintro s83 _ x85 h hx84
 unfold mewslaw15.Far.body0 at h
 refine xr (xz (bd (s83.t8 < (l.length : Int))) Z (xe (aw_seq (cd h Z (fun _ h => ?_) (fun _ h => ?_)))))
 refine aw_skip (aw_seq (aw_block (aw_seq (aw_region ?_))))
 obtain ⟨c87, h⟩ := need_of h
 refine xa (.vptr [.sl .no 1 (m4L (ix l s83.t8).Cmds)]) Z (pu_indexAddrM Z underlying28 sizeOf68 (tm Z) (tm Z) c87 Z) (xc Z (op_loadVN Z isAgg68 sizeOf68 (tm Z) (nb Z) Z (xA (.agg [.sl .full 1 e5L]) zeroValue68 Z fun p88 => xs 0 [.sl .no 1 (m4L (ix l s83.t8).Cmds)] sizeOf68 Z (xe (xr (xy Z (xL 0 isAgg68 sizeOf68 Z ?_)))))))
 obtain ⟨r89, r89e, h⟩ := bind_some h
 refine xo (mewsref15.Weight.ok r89e) call43 Z (xz (.i (w64 (s83.n + r89))) Z (xy Z (xe (xr (xy Z (xz (bd (4000 < (w64 (s83.n + r89)))) Z (xe (cd h Z (fun _ h => ?_) (fun _ h => ?_)))))))))
 refine xr (xz (.bool true) Z (xe (aw_ret ?_)))
 cases h
 cases congrArg some (hx84 _ rfl)
 cases onSum_inr h69
 exact rt ⟨Z, Z⟩ Z w0
 refine aw_skip (aw_region (xz (.i (w64 (s83.t8 + 1))) Z (xy Z (xe ?_))))
 cases h
 exact ⟨_, (), Z, wi [] Z⟩
 refine aw_exit ?_
 cases h
 have h := congrArg some (hx84 _ rfl)
 exact ⟨(), (), (some_of h).symm, wi [] Z⟩

theorem restore.bytes_1.ok {u_ text r} (h : restore.bytes_1 u_ text = some r) (o0 : Nat) : Sp prog 71 [.agg [.sl .no 1 (m4L u_.Cmds)], .aptr o0] [(o0, .abs (bldAbs 121 5 text))] (fun v H => v = .i r.1 ∧ H = [(o0, .abs (bldAbs 121 5 r.2))]) := by
 unfold restore.bytes_1 at h
 refine sb [.tmp 3] func71 Z (xr (xb [.sl .no 1 (m4L u_.Cmds)] Z fun p4 => xz (.i 0) Z (xe (xr (xL 0 isAgg68 sizeOf68 Z ?_)))))
 obtain ⟨r5, r5e, h⟩ := bind_some h
 refine xo (unit.Put.ok r5e) call24 Z (xy Z (xz (.str r5.1) Z (xz (.i r5.2) Z (xy Z (xy Z (xe (xr (xy Z ?_))))))))
 obtain ⟨c6, h⟩ := need_of h
 refine aops_weak (weak_pick [1, 0] (by decide) Z) (xo (bld.WriteString.ok c6 o0) call72 Z (xe (xr (xy Z (xy Z (xe (aw_ret ?_)))))))
 cases h
 exact rt ⟨Z, Z⟩ Z (wi [0] Z)

theorem restore.bytes.ok {l r} (h : restore.bytes l = some r) : Sp prog 44 [.sl .no 1 (m7L l)] [] (fun v H => v = .tup [.str r.1, .i r.2] ∧ H = []) := by
 unfold restore.bytes at h
 refine sb [.tmp 2, .tmp 3] func44 Z (xr (xa (.str nS) Z (pu_assign Z (AEv.const Z)) (xz (.i 0) Z (xe (xr (xc Z (op_allocBld (e := 5) Z zeroValue121 ?_)))))))
 intro p48
 refine xe (xr (xa (.fn 71 [.aptr p48]) Z (pu_makeFunc Z ⟨(tm Z), trivial⟩) (xy Z (xe ?_))))
 obtain ⟨s94, s94e, h71⟩ := bind_some h
 refine aw_join (σ := List UInt8) (ν := Unit) (fun u v => [(4, .aptr p48)]) (fun u v => [(p48, .abs (bldAbs 121 5 u))]) (fun u => s94 = .inl u) ?_ ?_
 intro s70
 intro _
 rintro rfl
 have h := onSum_inl h71
 refine xr (xo (bld.String.ok p48) call73 Z (xy Z (xz (.i 0) Z (xe (aw_ret ?_)))))
 cases h
 exact rt ⟨Z, Z⟩ Z w0
 have h := s94e
 refine xr (xy Z (xa (.i (l.length : Int)) Z (pu_lenM Z underlying28 (tm Z)) (xz (.i 0) Z (xe (aw_block (aw_while (σ := restore.bytes.S0) (ν := Unit) (restore.bytes.body0 l) (fun s85 v => [(4, .aptr p48), (5, .fn 71 [.aptr p48]), (10, .sl .no 1 (m7L l)), (11, .i (l.length : Int)), (12, .i s85.t12)]) (fun s85 v => [(p48, .abs (bldAbs 121 5 s85.b))]) ⟨0, nS⟩ () _ h (wi [0] Z) ?_))))))
 rintro s85 _ x87 h hx86
 unfold restore.bytes.body0 at h
 refine xr (xz (bd (s85.t12 < (l.length : Int))) Z (xe (aw_seq (cd h Z (fun _ h => ?_) (fun _ h => ?_)))))
 refine aw_skip (aw_seq (aw_block (aw_seq (aw_region ?_))))
 obtain ⟨c89, h⟩ := need_of h
 refine xa (.vptr [.sl .no 1 (m4L (ix l s85.t12).Cmds)]) Z (pu_indexAddrM Z underlying28 sizeOf68 (tm Z) (tm Z) c89 Z) (xc Z (op_loadVN Z isAgg68 sizeOf68 (tm Z) (nb Z) Z (xA (.agg [.sl .full 1 e5L]) zeroValue68 Z fun p90 => xs 0 [.sl .no 1 (m4L (ix l s85.t12).Cmds)] sizeOf68 Z (xe (xr (xy Z (xL 0 isAgg68 sizeOf68 Z ?_)))))))
 obtain ⟨r91, r91e, h⟩ := bind_some h
 refine aops_weak (weak_pick [1, 0] (by decide) Z) (xc Z (op_callV (vs := [.agg [.sl .no 1 (m4L (ix l s85.t12).Cmds)]]) (H := [(p48, .abs (bldAbs 121 5 s85.b))]) Z (tm Z) call71 ⟨(tm Z), trivial⟩ (List.Perm.refl _) (restore.bytes_1.ok r91e p48) ?_))
 rintro _ _ ⟨rfl, rfl⟩
 refine xy Z (xe (xr (xy Z (xz (bn (r91.1 = 0)) Z (xe (cn h Z (fun _ h => ?_) (fun _ h => ?_)))))))
 refine xr (xy Z (xa (.str nS) Z (pu_assign Z (AEv.const Z)) (xy Z (xe (aw_ret ?_)))))
 cases h
 cases congrArg some (hx86 _ rfl)
 cases onSum_inr h71
 exact rt ⟨Z, Z⟩ Z w0
 refine aw_skip (aw_region (xz (.i (w64 (s85.t12 + 1))) Z (xy Z (xe ?_))))
 cases h
 exact ⟨_, (), Z, wi [0] Z⟩
 refine aw_exit ?_
 cases h
 have h := congrArg some (hx86 _ rfl)
 exact ⟨s85.b, (), (some_of h).symm, wi [0] Z⟩

theorem disk.Write.ok {d name s_ r} (h : disk.Write d name s_ = some r) : Sp prog 45 [.agg [.sl .no 3 (m0L d.Files), .sl .no 3 (m1L d.Faults)], .str name, .str s_] [] (fun v H => ∃ n0 n1, v = .tup [.agg [.vec n0, .vec n1], .i r.2.1, .i r.2.2] ∧ H = [(n0, .vec 3 (m0L r.1.Files)), (n1, .vec 3 (m1L r.1.Faults))]) := by
 unfold disk.Write at h
 refine sb [.cell 6 25, .tmp 7, .tmp 8] func45 Z (xr (xb [.sl .no 3 (m0L d.Files), .sl .no 3 (m1L d.Faults)] Z fun p38 => xA (.agg [.sl .full 3 e0L, .sl .full 3 e1L]) zeroValue25 Z fun p39 => xz (.i 0) Z (xz (.i 0) Z (xe (xr (xL 1 isAgg25 sizeOf25 Z ?_))))))
 obtain ⟨r40, r40e, h⟩ := bind_some h
 refine xk (disk.own.ok r40e) call54 Z ?_
 rintro _ _ ⟨t41, t42, rfl, rfl⟩
 refine xs 3 [.vec t41, .vec t42] sizeOf25 Z (xe (xr (xz (.i 0) Z (xe ?_))))
 obtain ⟨s48, s48e, h50⟩ := bind_some h
 refine aw_meet (ν := Nat) (fun v => [(1, .str name), (2, .str s48.1), (3, .ptr p38 0), (6, .ptr p39 0), (9, .i s48.2.1)]) (fun v => [(p38, .cells [.vec t41, .vec v]), (p39, .cells [.sl .full 3 e0L, .sl .full 3 e1L]), (t41, .vec 3 (m0L r40.Files)), (v, .vec 3 (m1L s48.2.2))]) ?_ ?_
 have h := s48e
 refine xr (xy Z ?_)
 obtain ⟨r52, r52e, h⟩ := bind_some h
 refine aops_weak (weak_pick [3, 0, 1, 2] (by decide) Z) (xk (disk.meets_v.ok r52e p38 t41 t42) call58 Z ?_)
 rintro _ _ ⟨t53, rfl, rfl⟩
 refine xy Z (xz (.agg [.str r52.1.Name, .i r52.1.Kind, .i r52.1.Short]) Z (xz (.bool r52.2.1) Z (xA (.agg [.str nS, .i 0, .i 0]) zeroValue79 Z fun p54 => xs 0 [.str r52.1.Name, .i r52.1.Kind, .i r52.1.Short] sizeOf79 Z (xy Z (xe (xr (xy Z (xe (cb h Z (fun _ h => ?_) (fun _ h => ?_))))))))))
 refine aw_region (xy Z (xf (.ptr p54 2) underlying79 sizeOf3 Z (xl 0 isAgg3 Z (xa (.i (if r52.1.Short < 0 then 0 else r52.1.Short)) Z (pu_max2 Z (tm Z) (AEv.int _ _)) (xy Z (xa (.i (s_.length : Int)) Z (pu_strLen Z underlying9 (tm Z)) (xa (.i (if (s_.length : Int) < (if r52.1.Short < 0 then 0 else r52.1.Short) then (s_.length : Int) else (if r52.1.Short < 0 then 0 else r52.1.Short))) Z (pu_min2 Z (tm Z) (tm Z)) ?_)))))))
 obtain ⟨c55, h⟩ := need_of h
 refine xa (.str (sub s_ 0 (if (s_.length : Int) < (if r52.1.Short < 0 then 0 else r52.1.Short) then (s_.length : Int) else (if r52.1.Short < 0 then 0 else r52.1.Short)))) Z (pu_strSliceM Z underlying9 (tm Z) Z ⟨_, (tm Z)⟩ c55) (xy Z (xz (.i 15) Z (xe ?_)))
 cases h
 exact ⟨t53, wi [1, 4, 2, 3] Z⟩
 refine aw_skip ?_
 cases h
 exact ⟨t53, wi [1, 4, 2, 3] Z⟩
 intro n49
 have h := h50
 refine xr (xL 0 isAgg25 sizeOf25 Z (xy Z ?_))
 obtain ⟨r57, r57e, h⟩ := bind_some h
 refine aops_weak (weak_pick [2, 3, 0, 1] (by decide) Z) (xo (disk.find_v.ok r57e t41 n49) call41 Z (xy Z (xe ?_)))
 obtain ⟨s61, s61e, h63⟩ := bind_some h
 refine aw_meet (ν := Nat) (fun v => [(2, .str s48.1), (3, .ptr p38 0), (6, .ptr p39 0), (9, .i s48.2.1), (12, .i s61.1)]) (fun v => [(p38, .cells [.vec v, .vec n49]), (p39, .cells [.sl .full 3 e0L, .sl .full 3 e1L]), (v, .vec 3 (m0L s61.2)), (n49, .vec 3 (m1L s48.2.2))]) ?_ ?_
 have h := s61e
 refine xr (xy Z (xz (bd (r57 < 0)) Z (xe (cd h Z (fun _ h => ?_) (fun _ h => ?_)))))
 refine xr (xf (.ptr p38 0) underlying25 sizeOf22 Z (xl 2 isAgg22 Z (xc Z (op_lenVecM (i := 0) Z underlying22 (tm Z) Z (xy Z (xe (aw_region (xf (.ptr p38 0) underlying25 sizeOf22 Z (xl 2 isAgg22 Z ?_)))))))))
 refine xy Z (xa (.agg [.str name, .str nS, .i 0]) Z (pu_build (zs := [.str nS, .str nS, .i 0]) (szs := [1, 1, 1]) (aparts := [(0, .str name)]) (cs := [.str name, .str nS, .i 0]) Z underlying60 zeroValue60 Z ⟨sizeOf9, sizeOf9, sizeOf3, trivial⟩ ⟨Z, (tm Z), trivial⟩ Z) (xc Z (op_buildSlice (xs := ([({ Name := name, Data := nS, Synced := 0 } : api.File)] : List api.File).map api.File.av) (aparts := [(0, .agg [.str name, .str nS, .i 0])]) Z underlying22 sizeOf60 zeroValue60 (by decide) (by decide) ⟨Z, (tm Z), trivial⟩ Z Z Z ?_)))
 obtain ⟨c65, h⟩ := need_of h
 refine xc Z (op_appendVM (sz := 3) (q := 0) Z underlying22 underlying22 (.inl Z) typeInfo60 Z Z Z (by decide) (tm Z) Z (given_sl (tm Z)) c65 ?_)
 intro p66
 refine xf (.ptr p38 0) underlying25 sizeOf22 Z (xs 2 [.vec p66, .vec n49] sizeOf22 Z (xe ?_))
 cases h
 exact ⟨p66, wi [2, 3, 0, 1] Z⟩
 refine aw_skip ?_
 cases h
 exact ⟨t41, wi [2, 3, 0, 1] Z⟩
 intro n62
 have h := h63
 refine xr (xf (.ptr p38 0) underlying25 sizeOf22 Z (xl 0 isAgg22 Z (xy Z ?_)))
 obtain ⟨c68, h⟩ := need_of h
 refine xc Z (op_indexAddrVecM Z underlying22 sizeOf60 (tm Z) (j := 2) Z (tm Z) c68 (xy Z (xe (xr (xy Z (xy Z (xa (.eptr n62 (s61.1).toNat 0) Z (pu_nilCheck Z (tm Z) Z) ?_)))))))
 obtain ⟨c69, h⟩ := need_of h
 refine xc Z (op_loadENM (i := 2) (sz := 3) Z isAgg60 sizeOf60 (tm Z) Z c69 (by decide) Z ?_)
 obtain ⟨r70, r70e, h⟩ := bind_some h
 refine xo (disk.safe.ok r70e) call42 Z (xa (.eptr n62 (s61.1).toNat 0) Z (pu_nilCheck Z (tm Z) Z) (xf (.eptr n62 (s61.1).toNat 2) underlying60 sizeOf3 Z ?_))
 obtain ⟨c71, h⟩ := need_of h
 refine ac0 Z Z (op_storeEM (i := 2) (sz := 3) (y' := { (ix s61.2 s61.1) with Synced := r70 }) Z sizeOf3 (tm Z) (v := .i r70) (tm Z) Z c71 Z Z (by decide) Z (xe (xr (xy Z (xa (.eptr n62 (s61.1).toNat 0) Z (pu_nilCheck Z (tm Z) Z) (xf (.eptr n62 (s61.1).toNat 1) underlying60 sizeOf9 Z ?_))))))
 obtain ⟨c72, h⟩ := need_of h
 refine xc Z (op_loadE1M (i := 2) (sz := 3) Z isAgg9 (tm Z) Z c72 (by decide) Z (xy Z ?_))
 obtain ⟨c73, h⟩ := need_of h
 refine xa (.str ((ix (upd s61.2 s61.1 { (ix s61.2 s61.1) with Synced := r70 }) s61.1).Data ++ s48.1)) Z (pu_strAdd Z (tm Z) (tm Z) c73) (xa (.eptr n62 (s61.1).toNat 0) Z (pu_nilCheck Z (tm Z) Z) (xf (.eptr n62 (s61.1).toNat 1) underlying60 sizeOf9 Z ?_))
 obtain ⟨c74, h⟩ := need_of h
 refine ac0 Z Z (op_storeEM (i := 2) (sz := 3) (y' := ({ Name := (ix (upd s61.2 s61.1 { (ix s61.2 s61.1) with Synced := r70 }) s61.1).Name, Data := (ix (upd s61.2 s61.1 { (ix s61.2 s61.1) with Synced := r70 }) s61.1).Data ++ s48.1, Synced := (ix (upd s61.2 s61.1 { (ix s61.2 s61.1) with Synced := r70 }) s61.1).Synced } : api.File)) Z sizeOf9 (tm Z) (v := .str ((ix (upd s61.2 s61.1 { (ix s61.2 s61.1) with Synced := r70 }) s61.1).Data ++ s48.1)) (tm Z) Z c74 Z Z (by decide) Z (xe (xr (xL 0 isAgg25 sizeOf25 Z (xy Z (xa (.i (s48.1.length : Int)) Z (pu_strLen Z underlying9 (tm Z)) (xy Z (xs 1 [.vec n62, .vec n49] sizeOf25 Z (xy Z ?_)))))))))
 refine xy Z (xe (aw_ret ?_))
 cases h
 exact rq [.agg [.vec n62, .vec n49], .i (s48.1.length : Int), .i s48.2.1] ⟨n62, n49, Z, Z⟩ (AV.Le.tup cr) ⟨(CellOk.agg 1 (tm Z) Z isAgg25 sizeOf25 (nb Z) Z), (tm Z), (tm Z), trivial⟩ (wi [2, 3] Z)

theorem restore.Lay.ok {d name l r} (h : restore.Lay d name l = some r) : Sp prog 17 [.agg [.sl .no 3 (m0L d.Files), .sl .no 3 (m1L d.Faults)], .str name, .sl .no 1 (m7L l)] [] (fun v H => v = .tup [.agg [.sl .no 3 (m0L r.1.Files), .sl .no 3 (m1L r.1.Faults)], .i r.2.1, .i r.2.2] ∧ H = []) := by
 unfold restore.Lay at h
 refine sb [.cell 6 25, .tmp 7, .tmp 8] func17 Z (xr (xb [.sl .no 3 (m0L d.Files), .sl .no 3 (m1L d.Faults)] Z fun p7 => xA (.agg [.sl .full 3 e0L, .sl .full 3 e1L]) zeroValue25 Z fun p8 => xz (.i 0) Z (xz (.i 0) Z (xe (xr (xy Z ?_))))))
 obtain ⟨r9, r9e, h⟩ := bind_some h
 refine xo (restore.bytes.ok r9e) call44 Z (xy Z (xz (.str r9.1) Z (xz (.i r9.2) Z (xy Z (xy Z (xe (aw_seq (xr (xy Z ?_)))))))))
 refine xz (bn (r9.2 = 0)) Z (xe (cn h Z (fun _ h => ?_) (fun _ h => ?_)))
 refine xr (xL 1 isAgg25 sizeOf25 Z (xy Z (xs 0 [.sl .no 3 (m0L d.Files), .sl .no 3 (m1L d.Faults)] sizeOf25 Z (xz (.i 0) Z (xy Z (xe (aw_ret ?_)))))))
 cases h
 exact rq [.agg [.sl .no 3 (m0L d.Files), .sl .no 3 (m1L d.Faults)], .i 0, .i r9.2] ⟨Z, Z⟩ (AV.Le.tup cr) ⟨(CellOk.agg 0 (tm Z) Z isAgg25 sizeOf25 (nb Z) Z), (tm Z), (tm Z), trivial⟩ w0
 refine aw_skip (aw_seq ?_)
 obtain ⟨r10, r10e, h⟩ := bind_some h
 obtain ⟨r11, r11e, h⟩ := bind_some h
 refine aw_planR (by decide +kernel) [[(1, 0, false)], [], [], [], [], [], [], [], [(0, 0, true)], [], []] [[8], []] [[[(p8, .cells [.sl .full 3 e0L, .sl .full 3 e1L])], [(p8, .cells [.sl .no 3 (m0L r11.1.Files), .sl .no 3 (m1L r11.1.Faults)])]], [[(p7, .cells [.sl .no 3 (m0L d.Files), .sl .no 3 (m1L d.Faults)])]]] [.agg [.sl .no 3 (m0L d.Files), .sl .no 3 (m1L d.Faults)], .str name, .str r10, .str r9.1, .tup [.agg [.sl .no 3 (m0L r11.1.Files), .sl .no 3 (m1L r11.1.Faults)], .i r11.2.1, .i r11.2.2], .agg [.sl .no 3 (m0L r11.1.Files), .sl .no 3 (m1L r11.1.Faults)], .i r11.2.1, .i r11.2.2, .un, .i r11.2.1, .i r11.2.2] (by decide +kernel) Z Z ?_ ?_
 exact ⟨stepg_plain Z (op_loadN (i := 0) Z isAgg25 sizeOf25 (tm Z) Z (nb Z) Z ⟨Z, Z⟩), ym Z Z Z, stepg_plain Z (op_call (vs := [.str name]) (H := []) Z call12 ⟨(tm Z), trivial⟩ (R := []) (List.Perm.refl _) (restore.Other.ok r10e) (by rintro _ _ ⟨rfl, rfl⟩; exact ⟨Z, Z⟩)), ym Z Z Z, stepg_plain Z (op_call (vs := [.agg [.sl .no 3 (m0L d.Files), .sl .no 3 (m1L d.Faults)], .str r10, .str r9.1]) (H := []) Z call45 ⟨(tm Z), (tm Z), (tm Z), trivial⟩ (R := []) (List.Perm.refl _) (spec_pub (v' := .tup [.agg [.sl .no 3 (m0L r11.1.Files), .sl .no 3 (m1L r11.1.Faults)], .i r11.2.1, .i r11.2.2]) (disk.Write.ok r11e) (by rintro _ _ ⟨x0, x1, rfl, rfl⟩; exact (pubs_cons (v1 := .tup [.agg [.sl .no 3 (m0L r11.1.Files), .vec x1], .i r11.2.1, .i r11.2.2]) (PubTo.tup ⟨(PubTo.agg ⟨PubTo.vec, (PubTo.refl _), trivial⟩), (PubTo.refl _), (PubTo.refl _), trivial⟩) (pubs_cons (v1 := .tup [.agg [.sl .no 3 (m0L r11.1.Files), .sl .no 3 (m1L r11.1.Faults)], .i r11.2.1, .i r11.2.2]) (PubTo.tup ⟨(PubTo.agg ⟨(PubTo.refl _), PubTo.vec, trivial⟩), (PubTo.refl _), (PubTo.refl _), trivial⟩) (pubs_nil vr))))) (by rintro _ _ ⟨rfl, rfl⟩; exact ⟨Z, Z⟩)), yp Z (pe Z), yp Z (pe Z), yp Z (pe Z), stepg_plain Z (op_store (i := 0) (cs' := [.sl .no 3 (m0L r11.1.Files), .sl .no 3 (m1L r11.1.Faults)]) Z sizeOf25 (tm Z) (v := .agg [.sl .no 3 (m0L r11.1.Files), .sl .no 3 (m1L r11.1.Faults)]) (tm Z) Z Z Z (nb Z) Z ⟨Z, Z⟩), ym Z Z Z, ym Z Z Z, trivial⟩
 refine aw_ret ?_
 cases h
 exact rq [.agg [.sl .no 3 (m0L r11.1.Files), .sl .no 3 (m1L r11.1.Faults)], .i r11.2.1, .i r11.2.2] ⟨Z, Z⟩ (AV.Le.tup cr) ⟨(CellOk.agg 0 (tm Z) Z isAgg25 sizeOf25 (nb Z) Z), (tm Z), (tm Z), trivial⟩ w0

theorem mewsref16.Write.ok {d name s_ r} (h : mewsref16.Write d name s_ = some r) : Sp prog 46 [.agg [.sl .no 3 (m0L d.Files), .sl .no 3 (m1L d.Faults)], .str name, .str s_] [] (fun v H => ∃ n0, v = .tup [.agg [.sl (.own n0) 3 (m0L r.1.Files), .sl .no 3 (m1L r.1.Faults)], .i r.2.1, .i r.2.2] ∧ H = [(n0, .spare)]) := by
 unfold mewsref16.Write at h
 refine sb [.cell 6 25, .tmp 7, .tmp 8] func46 Z (xr (xb [.sl .no 3 (m0L d.Files), .sl .no 3 (m1L d.Faults)] Z fun p20 => xA (.agg [.sl .full 3 e0L, .sl .full 3 e1L]) zeroValue25 Z fun p21 => xz (.i 0) Z (xz (.i 0) Z (xe (xr (xL 1 isAgg25 sizeOf25 Z (xy Z ?_)))))))
 obtain ⟨r22, r22e, h⟩ := bind_some h
 refine xk (mewsref16.Meets.ok r22e) call62 Z ?_
 rintro _ _ ⟨t23, rfl, rfl⟩
 refine xy Z (xz (.agg [.sl .no 3 (m0L r22.1.Files), .sl (.own t23) 3 (m1L r22.1.Faults)]) Z (xz (.agg [.str r22.2.1.Name, .i r22.2.1.Kind, .i r22.2.1.Short]) Z (xz (.bool r22.2.2) Z (xA (.agg [.str nS, .i 0, .i 0]) zeroValue79 Z fun p24 => xs 3 [.sl .no 3 (m0L r22.1.Files), .sl (.own t23) 3 (m1L r22.1.Faults)] sizeOf25 Z (xs 0 [.str r22.2.1.Name, .i r22.2.1.Kind, .i r22.2.1.Short] sizeOf79 Z (xy Z (xe (xr (xz (.i 0) Z (xe ?_))))))))))
 obtain ⟨s28, s28e, h29⟩ := bind_some h
 refine aw_meet (ν := Unit) (fun v => [(1, .str name), (2, .str s28.1), (3, .ptr p20 0), (6, .ptr p21 0), (11, .i s28.2)]) (fun v => [(p20, .cells [.sl .no 3 (m0L r22.1.Files), .sl (.own t23) 3 (m1L r22.1.Faults)]), (p21, .cells [.sl .full 3 e0L, .sl .full 3 e1L]), (t23, .spare)]) ?_ ?_
 have h := s28e
 refine xr (xy Z (xe (cb h Z (fun _ h => ?_) (fun _ h => ?_))))
 refine xr (xy Z (xf (.ptr p24 2) underlying79 sizeOf3 Z (xl 0 isAgg3 Z (xy Z (xa (.i (s_.length : Int)) Z (pu_strLen Z underlying9 (tm Z)) ?_)))))
 obtain ⟨r31, r31e, h⟩ := bind_some h
 refine xo (mewsref16.between.ok r31e) call59 Z ?_
 obtain ⟨c32, h⟩ := need_of h
 refine xa (.str (sub s_ 0 r31)) Z (pu_strSliceM Z underlying9 (tm Z) Z ⟨_, (tm Z)⟩ c32) (xy Z (xe (aw_region (xz (.i 15) Z (xe ?_)))))
 cases h
 exact ⟨(), wi [3, 2, 1] Z⟩
 refine aw_skip ?_
 cases h
 exact ⟨(), wi [3, 2, 1] Z⟩
 intro _
 have h := h29
 refine xr (xL 0 isAgg25 sizeOf25 Z (xy Z ?_))
 obtain ⟨r34, r34e, h⟩ := bind_some h
 refine xc Z (op_call (vs := [.agg [.sl .no 3 (m0L r22.1.Files), .sl .no 3 (m1L r22.1.Faults)], .str name]) (H := []) Z call31 ⟨(AEv.le (tm Z) (AV.Le.agg ⟨vr, (AV.Le.forget _ _ _), trivial⟩)), (tm Z), trivial⟩ (List.Perm.refl _) (mewsref16.Find.ok r34e) ?_)
 rintro _ _ ⟨rfl, rfl⟩
 refine xy Z (xz (.agg [.str r34.1.Name, .str r34.1.Data, .i r34.1.Synced]) Z (xz (.bool r34.2) Z (xA (.agg [.str nS, .str nS, .i 0]) zeroValue60 Z fun p35 => xs 0 [.str r34.1.Name, .str r34.1.Data, .i r34.1.Synced] sizeOf60 Z (xy Z (xe (xr (xy Z (xf (.ptr p35 0) underlying60 sizeOf9 Z (xs 0 [.str name, .str r34.1.Data, .i r34.1.Synced] sizeOf9 Z (xe (aw_seq ?_)))))))))))
 refine aw_region (xf (.ptr p35 1) underlying60 sizeOf9 Z (xl 0 isAgg9 Z (xy Z ?_)))
 obtain ⟨c36, h⟩ := need_of h
 refine xa (.str (r34.1.Data ++ s28.1)) Z (pu_strAdd Z (tm Z) (tm Z) c36) (xf (.ptr p35 1) underlying60 sizeOf9 Z (xs 0 [.str name, .str (r34.1.Data ++ s28.1), .i r34.1.Synced] sizeOf9 Z (xe (xr (xL 1 isAgg25 sizeOf25 Z (xL 0 isAgg60 sizeOf60 Z ?_))))))
 obtain ⟨r37, r37e, h⟩ := bind_some h
 refine xc Z (op_call (vs := [.agg [.sl .no 3 (m0L r22.1.Files), .sl .no 3 (m1L r22.1.Faults)], .agg [.str name, .str (r34.1.Data ++ s28.1), .i r34.1.Synced]]) (H := []) Z call61 ⟨(AEv.le (tm Z) (AV.Le.agg ⟨vr, (AV.Le.forget _ _ _), trivial⟩)), (tm Z), trivial⟩ (List.Perm.refl _) (mewsref16.with_.ok r37e) ?_)
 rintro _ _ ⟨t38, rfl, rfl⟩
 refine xy Z (xa (.i (s28.1.length : Int)) Z (pu_strLen Z underlying9 (tm Z)) (xy Z (xs 3 [.sl (.own t38) 3 (m0L r37.Files), .sl .no 3 (m1L r37.Faults)] sizeOf25 Z (xy Z (xy Z (xe (aw_ret ?_)))))))
 cases h
 exact rq [.agg [.sl (.own t38) 3 (m0L r37.Files), .sl .no 3 (m1L r37.Faults)], .i (s28.1.length : Int), .i s28.2] ⟨t38, Z, Z⟩ (AV.Le.tup cr) ⟨(CellOk.agg 3 (tm Z) Z isAgg25 sizeOf25 (nb Z) Z), (tm Z), (tm Z), trivial⟩ (wi [0] Z)

theorem mewsref18.Lay.ok {d name l r} (h : mewsref18.Lay d name l = some r) : Sp prog 18 [.agg [.sl .no 3 (m0L d.Files), .sl .no 3 (m1L d.Faults)], .str name, .sl .no 1 (m7L l)] [] (fun v H => v = .tup [.agg [.sl .no 3 (m0L r.1.Files), .sl .no 3 (m1L r.1.Faults)], .i r.2.1, .i r.2.2] ∧ H = []) := by
 unfold mewsref18.Lay at h
 refine sb [.cell 6 25, .tmp 7, .tmp 8] func18 Z (xr (xb [.sl .no 3 (m0L d.Files), .sl .no 3 (m1L d.Faults)] Z fun p8 => xA (.agg [.sl .full 3 e0L, .sl .full 3 e1L]) zeroValue25 Z fun p9 => xz (.i 0) Z (xz (.i 0) Z (xe (xr (xy Z ?_))))))
 obtain ⟨r10, r10e, h⟩ := bind_some h
 refine xo (mewsref18.Bytes.ok r10e) call13 Z (xy Z (xz (.str r10.1) Z (xz (.i r10.2) Z (xy Z (xy Z (xe (aw_seq (xr (xy Z ?_)))))))))
 refine xz (bn (r10.2 = 0)) Z (xe (cn h Z (fun _ h => ?_) (fun _ h => ?_)))
 refine xr (xL 1 isAgg25 sizeOf25 Z (xy Z (xs 0 [.sl .no 3 (m0L d.Files), .sl .no 3 (m1L d.Faults)] sizeOf25 Z (xz (.i 0) Z (xy Z (xe (aw_ret ?_)))))))
 cases h
 exact rq [.agg [.sl .no 3 (m0L d.Files), .sl .no 3 (m1L d.Faults)], .i 0, .i r10.2] ⟨Z, Z⟩ (AV.Le.tup cr) ⟨(CellOk.agg 0 (tm Z) Z isAgg25 sizeOf25 (nb Z) Z), (tm Z), (tm Z), trivial⟩ w0
 refine aw_skip (xr (xL 1 isAgg25 sizeOf25 Z (xy Z ?_)))
 obtain ⟨c11, h⟩ := need_of h
 refine xa (.str (name ++ [46, 110, 101, 119])) Z (pu_strAdd Z (tm Z) (AEv.const Z) c11) (xy Z ?_)
 obtain ⟨r12, r12e, h⟩ := bind_some h
 refine xk (mewsref16.Write.ok r12e) call46 Z ?_
 rintro _ _ ⟨t13, rfl, rfl⟩
 refine xz (.agg [.sl (.own t13) 3 (m0L r12.1.Files), .sl .no 3 (m1L r12.1.Faults)]) Z (xz (.i r12.2.1) Z (xz (.i r12.2.2) Z (xs 1 [.sl (.own t13) 3 (m0L r12.1.Files), .sl .no 3 (m1L r12.1.Faults)] sizeOf25 Z (xy Z (xy Z (xe (aw_ret ?_)))))))
 cases h
 exact rq [.agg [.sl (.own t13) 3 (m0L r12.1.Files), .sl .no 3 (m1L r12.1.Faults)], .i r12.2.1, .i r12.2.2] ⟨Z, Z⟩ (AV.Le.tup ⟨(AV.Le.agg ⟨(AV.Le.forget _ _ _), vr, trivial⟩), vr, vr, trivial⟩) ⟨(CellOk.agg 1 (tm Z) Z isAgg25 sizeOf25 (nb Z) Z), (tm Z), (tm Z), trivial⟩ w0

theorem disk.Rename.ok {d from_ to r} (h : disk.Rename d from_ to = some r) : Sp prog 47 [.agg [.sl .no 3 (m0L d.Files), .sl .no 3 (m1L d.Faults)], .str from_, .str to] [] (fun v H => ∃ n0 n1, v = .tup [.agg [.vec n0, .vec n1], .i r.2] ∧ H = [(n0, .vec 3 (m0L r.1.Files)), (n1, .vec 3 (m1L r.1.Faults))]) := by
 unfold disk.Rename at h
 refine sb [.cell 6 25, .tmp 7] func47 Z (xr (xb [.sl .no 3 (m0L d.Files), .sl .no 3 (m1L d.Faults)] Z fun p237 => xA (.agg [.sl .full 3 e0L, .sl .full 3 e1L]) zeroValue25 Z fun p238 => xz (.i 0) Z (xe (xr (xL 1 isAgg25 sizeOf25 Z ?_)))))
 obtain ⟨r239, r239e, h⟩ := bind_some h
 refine xk (disk.own.ok r239e) call54 Z ?_
 rintro _ _ ⟨t240, t241, rfl, rfl⟩
 refine xs 3 [.vec t240, .vec t241] sizeOf25 Z (xe (xr (xL 3 isAgg25 sizeOf25 Z (xy Z ?_))))
 obtain ⟨r242, r242e, h⟩ := bind_some h
 refine xo (disk.find_v.ok r242e t240 t241) call41 Z (xy Z (xe (aw_seq (xr (xy Z (xz (bd (r242 < 0)) Z (xe (cd h Z (fun _ h => ?_) (fun _ h => ?_)))))))))
 refine xr (xL 3 isAgg25 sizeOf25 Z (xs 2 [.vec t240, .vec t241] sizeOf25 Z (xz (.i 8) Z (xe (aw_ret ?_)))))
 cases h
 exact rq [.agg [.vec t240, .vec t241], .i 8] ⟨t240, t241, Z, Z⟩ (AV.Le.tup cr) ⟨(CellOk.agg 2 (tm Z) Z isAgg25 sizeOf25 (nb Z) Z), (tm Z), trivial⟩ (wi [0, 1] Z)
 refine aw_skip (aw_seq (xr (xy Z ?_)))
 obtain ⟨r243, r243e, h⟩ := bind_some h
 refine aops_weak (weak_pick [3, 0, 1, 2] (by decide) Z) (xk (disk.meets_v.ok r243e p237 t240 t241) call58 Z ?_)
 rintro _ _ ⟨t244, rfl, rfl⟩
 refine xy Z (xz (.agg [.str r243.1.Name, .i r243.1.Kind, .i r243.1.Short]) Z (xz (.bool r243.2.1) Z (xA (.agg [.str nS, .i 0, .i 0]) zeroValue79 Z fun p245 => xs 0 [.str r243.1.Name, .i r243.1.Kind, .i r243.1.Short] sizeOf79 Z (xy Z (xe (xr (xy Z (xe (cb h Z (fun _ h => ?_) (fun _ h => ?_))))))))))
 refine xr (xL 1 isAgg25 sizeOf25 Z (xs 4 [.vec t240, .vec t244] sizeOf25 Z (xz (.i 15) Z (xe (aw_ret ?_)))))
 cases h
 exact rq [.agg [.vec t240, .vec t244], .i 15] ⟨t240, t244, Z, Z⟩ (AV.Le.tup cr) ⟨(CellOk.agg 4 (tm Z) Z isAgg25 sizeOf25 (nb Z) Z), (tm Z), trivial⟩ (wi [2, 3] Z)
 refine aw_skip (xr (xf (.ptr p237 0) underlying25 sizeOf22 Z (xl 1 isAgg22 Z (xy Z ?_))))
 obtain ⟨c246, h⟩ := need_of h
 refine xc Z (op_indexAddrVecM Z underlying22 sizeOf60 (tm Z) (j := 2) Z (tm Z) c246 ?_)
 obtain ⟨c247, h⟩ := need_of h
 refine xc Z (op_loadENM (i := 2) (sz := 3) Z isAgg60 sizeOf60 (tm Z) Z c247 (by decide) Z (xA (.agg [.str nS, .str nS, .i 0]) zeroValue60 Z fun p248 => xs 0 [.str (ix r239.Files r242).Name, .str (ix r239.Files r242).Data, .i (ix r239.Files r242).Synced] sizeOf60 Z (xe (xr (xy Z (xf (.ptr p248 0) underlying60 sizeOf9 Z (xs 0 [.str to, .str (ix r239.Files r242).Data, .i (ix r239.Files r242).Synced] sizeOf9 Z (xe (aw_seq (aw_region ?_))))))))))
 refine xa (.sl .full 3 e0L) Z (pu_assign Z (AEv.nil 3 (by decide))) (xe ?_)
 obtain ⟨s358, s358e, h360⟩ := bind_some h
 refine aw_meet (ν := Nat) (fun v => [(3, .ptr p237 0), (6, .ptr p238 0), (12, .vec v)]) (fun v => [(p237, .cells [.vec t240, .vec t244]), (p238, .cells [.sl .full 3 e0L, .sl .full 3 e1L]), (v, .vec 3 (m0L s358)), (t240, .vec 3 (m0L r239.Files)), (t244, .vec 3 (m1L r243.2.2.Faults))]) ?_ ?_
 have h := s358e
 refine xr (xf (.ptr p237 0) underlying25 sizeOf22 Z (xl 2 isAgg22 Z (xc Z (op_lenVecM (i := 3) Z underlying22 (tm Z) Z (xz (.i 0) Z (xe (aw_block (aw_vecNil 12 (tm Z) fun t470 => (aw_while (σ := disk.Rename.S0) (ν := Nat) (disk.Rename.body0 r239 r242 to from_) (fun s432 v => [(1, .str from_), (2, .str to), (3, .ptr p237 0), (6, .ptr p238 0), (8, .i r242), (11, .ptr p248 0), (12, .vec v), (38, .vec t240), (39, .i (r239.Files.length : Int)), (40, .i s432.t40)]) (fun s432 v => [(p237, .cells [.vec t240, .vec t244]), (p238, .cells [.sl .full 3 e0L, .sl .full 3 e1L]), (p248, .cells [.str to, .str (ix r239.Files r242).Data, .i (ix r239.Files r242).Synced]), (v, .vec 3 (m0L s432.v)), (t240, .vec 3 (m0L r239.Files)), (t244, .vec 3 (m1L r243.2.2.Faults))]) ⟨0, ([] : List api.File)⟩ t470 _ h (wi [3, 6, 1, 0, 4, 5] Z) ?_)))))))))
 rintro s432 n433 x435 h hx434
 unfold disk.Rename.body0 at h
 refine xr (xz (bd (s432.t40 < (r239.Files.length : Int))) Z (xe (aw_seq (cd h Z (fun _ h => ?_) (fun _ h => ?_)))))
 refine aw_skip ?_
 obtain ⟨s451, s451e, h453⟩ := bind_some h
 refine aw_meet (ν := Nat) (fun v => [(1, .str from_), (2, .str to), (3, .ptr p237 0), (6, .ptr p238 0), (8, .i r242), (11, .ptr p248 0), (12, .vec v), (38, .vec t240), (39, .i (r239.Files.length : Int)), (40, .i s432.t40)]) (fun v => [(p237, .cells [.vec t240, .vec t244]), (p238, .cells [.sl .full 3 e0L, .sl .full 3 e1L]), (p248, .cells [.str to, .str (ix r239.Files r242).Data, .i (ix r239.Files r242).Synced]), (v, .vec 3 (m0L s451)), (t240, .vec 3 (m0L r239.Files)), (t244, .vec 3 (m1L r243.2.2.Faults))]) ?_ ?_
 have h := s451e
 refine aw_block (xr (xy Z ?_))
 obtain ⟨c455, h⟩ := need_of h
 refine xc Z (op_indexAddrVecM Z underlying22 sizeOf60 (tm Z) (j := 4) Z (tm Z) c455 ?_)
 obtain ⟨c456, h⟩ := need_of h
 refine xc Z (op_loadENM (i := 4) (sz := 3) Z isAgg60 sizeOf60 (tm Z) Z c456 (by decide) Z (xA (.agg [.str nS, .str nS, .i 0]) zeroValue60 Z fun p457 => xy Z (xs 0 [.str (ix r239.Files s432.t40).Name, .str (ix r239.Files s432.t40).Data, .i (ix r239.Files s432.t40).Synced] sizeOf60 Z (xe (aw_block (xr (xy Z (xy Z (xz (bd (s432.t40 = r242)) Z (xy Z ?_))))))))))
 refine xe (cd h Z (fun _ h => ?_) (fun _ h => ?_))
 refine aw_region (xy Z (xL 3 isAgg60 sizeOf60 Z (xc Z (op_buildSlice (xs := ([{ (ix r239.Files r242) with Name := to }] : List api.File).map api.File.av) (aparts := [(0, .agg [.str to, .str (ix r239.Files r242).Data, .i (ix r239.Files r242).Synced])]) Z underlying22 sizeOf60 zeroValue60 (by decide) (by decide) ⟨Z, (tm Z), trivial⟩ Z Z Z ?_))))
 obtain ⟨c458, h⟩ := need_of h
 refine xc Z (op_appendVM (sz := 3) (q := 4) Z underlying22 underlying22 (.inl Z) typeInfo60 Z Z Z (by decide) (tm Z) Z (given_sl (tm Z)) c458 ?_)
 intro p459
 refine xy Z (xe ?_)
 cases h
 exact ⟨p459, wi [1, 2, 3, 4, 5, 6] Z⟩
 obtain ⟨s461, s461e, h462⟩ := letO_of h
 refine aw_meet (ν := Unit) (fun v => [(1, .str from_), (2, .str to), (3, .ptr p237 0), (6, .ptr p238 0), (8, .i r242), (11, .ptr p248 0), (12, .vec n433), (14, .ptr p457 0), (38, .vec t240), (39, .i (r239.Files.length : Int)), (40, .i s432.t40), (53, .bool s461)]) (fun v => [(p237, .cells [.vec t240, .vec t244]), (p238, .cells [.sl .full 3 e0L, .sl .full 3 e1L]), (p248, .cells [.str to, .str (ix r239.Files r242).Data, .i (ix r239.Files r242).Synced]), (n433, .vec 3 (m0L s432.v)), (p457, .cells [.str (ix r239.Files s432.t40).Name, .str (ix r239.Files s432.t40).Data, .i (ix r239.Files s432.t40).Synced]), (t240, .vec 3 (m0L r239.Files)), (t244, .vec 3 (m1L r243.2.2.Faults))]) ?_ ?_
 have h := s461e.symm
 refine aw_region (xf (.ptr p457 0) underlying60 sizeOf9 Z (xl 0 isAgg9 Z (xy Z (xa (bn ((ix r239.Files s432.t40).Name = to)) Z (pu_str (v := bn ((ix r239.Files s432.t40).Name = to)) Z Z (tm Z) (tm Z) Z) (xy Z ?_)))))
 rcases Bool.eq_false_or_eq_true (!decide ((ix r239.Files s432.t40).Name = to)) with hb464 | hb464
 replace h := ite_f (ndec_t hb464) h
 refine aops_known 58 Z hb464 (xp (.ptr p457 0) Z Z (fa Z underlying60 Z sizeOf9 Z Z Z) (xg Z Z (op_load1 (i := 0) Z isAgg9 (tm Z) Z Z (xq Z Z Z Z (xp (bn ((ix r239.Files s432.t40).Name = from_)) Z Z (pu_str (v := bn ((ix r239.Files s432.t40).Name = from_)) Z Z (tm Z) (tm Z) Z) (xz (bn ((ix r239.Files s432.t40).Name = from_)) Z (xy Z (xe ?_))))))))
 subst h
 exact ⟨(), wi [1, 2, 3, 4, 0, 5, 6] Z⟩
 replace h := ite_t (ndec_f hb464) h
 refine aops_known 58 Z hb464 (xu Z (xu Z (xu Z (xu Z (xz (.bool false) Z (xy Z (xe ?_)))))))
 subst h
 exact ⟨(), wi [1, 2, 3, 4, 0, 5, 6] Z⟩
 intro _
 have h := h462
 refine aw_cond (b := s461) (tm Z) (fun hb467 => ?_) (fun hb467 => ?_)
 replace h := ite_t hb467 h
 refine aw_region (xy Z (xL 4 isAgg60 sizeOf60 Z (xc Z (op_buildSlice (xs := ([(ix r239.Files s432.t40)] : List api.File).map api.File.av) (aparts := [(0, .agg [.str (ix r239.Files s432.t40).Name, .str (ix r239.Files s432.t40).Data, .i (ix r239.Files s432.t40).Synced])]) Z underlying22 sizeOf60 zeroValue60 (by decide) (by decide) ⟨Z, (tm Z), trivial⟩ Z Z Z ?_))))
 obtain ⟨c465, h⟩ := need_of h
 refine xc Z (op_appendVM (sz := 3) (q := 3) Z underlying22 underlying22 (.inl Z) typeInfo60 Z Z Z (by decide) (tm Z) Z (given_sl (tm Z)) c465 ?_)
 intro p466
 refine xy Z (xe ?_)
 cases h
 exact ⟨p466, wi [0, 1, 2, 3, 5, 6] Z⟩
 replace h := ite_fb hb467 h
 refine aw_skip ?_
 cases h
 exact ⟨n433, wi [0, 1, 2, 3, 5, 6] Z⟩
 intro n452
 have h := h453
 refine aw_region (xz (.i (w64 (s432.t40 + 1))) Z (xy Z (xe ?_)))
 cases h
 exact ⟨_, n452, Z, wi [0, 1, 2, 3, 4, 5] Z⟩
 refine aw_exit ?_
 cases h
 cases congrArg some (hx434 _ rfl)
 exact ⟨n433, wi [0, 1, 3, 4, 5] Z⟩
 intro n359
 have h := h360
 refine xr (xy Z (xf (.ptr p237 0) underlying25 sizeOf22 Z (xs 0 [.vec n359, .vec t244] sizeOf22 Z (xe (xr (xL 0 isAgg25 sizeOf25 Z (xs 1 [.vec n359, .vec t244] sizeOf25 Z ?_)))))))
 refine xz (.i 0) Z (xe (aw_ret ?_))
 cases h
 exact rq [.agg [.vec n359, .vec t244], .i 0] ⟨n359, t244, Z, Z⟩ (AV.Le.tup cr) ⟨(CellOk.agg 1 (tm Z) Z isAgg25 sizeOf25 (nb Z) Z), (tm Z), trivial⟩ (wi [2, 4] Z)

end Go.Pu
