/- Printed by lift.py: the functions come to them. -/
import Derived.Test.YtakmcdnailmhlaaLiftWS
import Derived.Test.YtakmcdnailmhlaaPAK5
set_option maxRecDepth 100000
set_option maxHeartbeats 0
namespace Go.Pu
open Go.Lift Go.Proofs.Try Go.RowKit Go.Proofs

theorem mewslaw49.ProjectParts.ok {c_ l r} (h : mewslaw49.ProjectParts c_ l = some r) : Sp prog 4 [.agg [.sl .no 14 (m0L c_.Tenants), .i c_.Quantum, .i c_.Deadline], .sl .no 9 (m1L l)] [] (fun v H => v = .bool r ∧ H = []) := by
 unfold mewslaw49.ProjectParts at h
 refine sb [.tmp 4] func4 Z (xr (xb [.sl .no 14 (m0L c_.Tenants), .i c_.Quantum, .i c_.Deadline] Z fun p3030 => xz (.bool false) Z (xe (aw_seq (xr (xL 0 isAgg24 sizeOf24 Z (xy Z ?_)))))))
 obtain ⟨r3031, r3031e, h⟩ := bind_some h
 refine xo (mewslaw46.Far.ok r3031e) call5 Z (xe (cb h Z (fun _ h => ?_) (fun _ h => ?_)))
 refine aw_seq (aw_region ?_)
 obtain ⟨r3032, r3032e, h⟩ := bind_some h
 refine xo (mewslaw49.alive.ok r3032e) call6 Z (xy Z (xe (aw_ret ?_)))
 cases h
 exact rt ⟨Z, Z⟩ Z w0
 refine aw_skip (xr (xc Z (op_allocArr (len := 9) (sz := 1) (zs := [.i 0, .i 0, .i 0, .i 0, .i 0, .i 0, .i 0, .i 0, .i 0]) (AV.int .i64) (0 : Int) Z zeroValue36 Z Z Z (by decide) Z ?_)))
 intro p3033
 refine xe (xr (xz (.i 0) Z (xe ?_)))
 obtain ⟨s4252, s4252e, h4253⟩ := bind_some h
 refine aw_meet (ν := Unit) (fun v => [(1, .sl .no 9 (m1L l)), (2, .ptr p3030 0), (5, .eptr p3033 0 0), (6, .i s4252.1)]) (fun v => [(p3030, .cells [.sl .no 14 (m0L c_.Tenants), .i c_.Quantum, .i c_.Deadline]), (p3033, .vec 1 (s4252.2.map (AV.int .i64)))]) ?_ ?_
 have h := s4252e
 refine xr (xf (.ptr p3030 0) underlying24 sizeOf22 Z (xl 1 isAgg22 Z (xa (.i (c_.Tenants.length : Int)) Z (pu_lenM Z underlying22 (tm Z)) (xz (.i 0) Z (xe (aw_block (aw_while (σ := mewslaw49.ProjectParts.S0) (ν := Unit) (mewslaw49.ProjectParts.body0 c_ l) (fun s5065 v => [(1, .sl .no 9 (m1L l)), (2, .ptr p3030 0), (5, .eptr p3033 0 0), (6, .i s5065.all_), (21, .i (c_.Tenants.length : Int)), (22, .i s5065.t22)]) (fun s5065 v => [(p3030, .cells [.sl .no 14 (m0L c_.Tenants), .i c_.Quantum, .i c_.Deadline]), (p3033, .vec 1 (s5065.v.map (AV.int .i64)))]) ⟨0, 0, List.replicate 9 (0 : Int)⟩ () _ h (wi [1, 0] Z) ?_)))))))
 rintro s5065 _ x5067 h hx5066
 unfold mewslaw49.ProjectParts.body0 at h
 refine xr (xz (bd (s5065.t22 < (c_.Tenants.length : Int))) Z (xe (aw_seq (cd h Z (fun _ h => ?_) (fun _ h => ?_)))))
 refine aw_skip ?_
 obtain ⟨s5269, s5269e, h5270⟩ := bind_some h
 refine aw_meet (ν := Unit) (fun v => [(1, .sl .no 9 (m1L l)), (2, .ptr p3030 0), (5, .eptr p3033 0 0), (6, .i s5269.1), (21, .i (c_.Tenants.length : Int)), (22, .i s5065.t22)]) (fun v => [(p3030, .cells [.sl .no 14 (m0L c_.Tenants), .i c_.Quantum, .i c_.Deadline]), (p3033, .vec 1 (s5269.2.map (AV.int .i64)))]) ?_ ?_
 have h := s5269e
 refine aw_block (xr (xy Z (xy Z (xe (xr (xL 0 isAgg24 sizeOf24 Z (xy Z ?_)))))))
 refine xy Z ?_
 obtain ⟨r5272, r5272e, h⟩ := bind_some h
 refine xk (project.Tenant.ok r5272e) call7 Z ?_
 rintro _ _ ⟨t5273, rfl, rfl⟩
 refine xy Z (xe (xr (xy Z (xa (.i (r5272.length : Int)) Z (pu_lenM Z underlying25 (tm Z)) (xz (.i 0) Z (xe (aw_block (aw_while (σ := mewslaw49.ProjectParts.S2) (ν := Unit) (mewslaw49.ProjectParts.body2 r5272) (fun s5404 v => [(1, .sl .no 9 (m1L l)), (2, .ptr p3030 0), (5, .eptr p3033 0 0), (6, .i s5404.all_), (21, .i (c_.Tenants.length : Int)), (22, .i s5065.t22), (29, .sl (.own t5273) 9 (m1L r5272)), (30, .i (r5272.length : Int)), (31, .i s5404.t31)]) (fun s5404 v => [(p3030, .cells [.sl .no 14 (m0L c_.Tenants), .i c_.Quantum, .i c_.Deadline]), (p3033, .vec 1 (s5404.v.map (AV.int .i64))), (t5273, .spare)]) ⟨s5065.all_, 0, s5065.v⟩ () _ h (wi [1, 2, 0] Z) ?_))))))))
 rintro s5404 _ x5406 h hx5405
 unfold mewslaw49.ProjectParts.body2 at h
 refine xr (xz (bd (s5404.t31 < (r5272.length : Int))) Z (xe (aw_seq (cd h Z (fun _ h => ?_) (fun _ h => ?_)))))
 refine aw_skip ?_
 obtain ⟨s5438, s5438e, h5439⟩ := bind_some h
 refine aw_meet (ν := Unit) (fun v => [(1, .sl .no 9 (m1L l)), (2, .ptr p3030 0), (5, .eptr p3033 0 0), (6, .i s5438.1), (21, .i (c_.Tenants.length : Int)), (22, .i s5065.t22), (29, .sl (.own t5273) 9 (m1L r5272)), (30, .i (r5272.length : Int)), (31, .i s5404.t31)]) (fun v => [(p3030, .cells [.sl .no 14 (m0L c_.Tenants), .i c_.Quantum, .i c_.Deadline]), (p3033, .vec 1 (s5438.2.map (AV.int .i64))), (t5273, .spare)]) ?_ ?_
 have h := s5438e
 refine aw_block (aw_seq (aw_region ?_))
 obtain ⟨c5441, h⟩ := need_of h
 refine xa (.vptr [.i (ix r5272 s5404.t31).Kind, .i (ix r5272 s5404.t31).Handle, .str (ix r5272 s5404.t31).S, .i (ix r5272 s5404.t31).N, .i (ix r5272 s5404.t31).Tenant, .str (ix r5272 s5404.t31).Fault.Name, .i (ix r5272 s5404.t31).Fault.Kind, .i (ix r5272 s5404.t31).Fault.Short, .sl .no 3 (m2L (ix r5272 s5404.t31).Lefts)]) Z (pu_indexAddrM Z underlying25 sizeOf41 (tm Z) (tm Z) c5441 Z) (xc Z (op_loadVN Z isAgg41 sizeOf41 (tm Z) (nb Z) Z (xA (.agg [.i 0, .i 0, .str nS, .i 0, .i 0, .str nS, .i 0, .i 0, .sl .full 3 e0L]) zeroValue41 Z fun p5442 => xs 0 (api.Event.ct .no (ix r5272 s5404.t31)) sizeOf41 Z (xe ?_))))
 obtain ⟨s5455, s5455e, h5456⟩ := bind_some h
 refine aw_meet (ν := Unit) (fun v => [(1, .sl .no 9 (m1L l)), (2, .ptr p3030 0), (5, .eptr p3033 0 0), (6, .i s5404.all_), (10, .ptr p5442 0), (21, .i (c_.Tenants.length : Int)), (22, .i s5065.t22), (29, .sl (.own t5273) 9 (m1L r5272)), (30, .i (r5272.length : Int)), (31, .i s5404.t31)]) (fun v => [(p3030, .cells [.sl .no 14 (m0L c_.Tenants), .i c_.Quantum, .i c_.Deadline]), (p3033, .vec 1 (s5455.map (AV.int .i64))), (p5442, .cells (api.Event.ct .no (ix r5272 s5404.t31))), (t5273, .spare)]) ?_ ?_
 have h := s5455e
 obtain ⟨s5459, s5459e, h5460⟩ := letO_of h
 refine aw_meet (ν := Unit) (fun v => [(1, .sl .no 9 (m1L l)), (2, .ptr p3030 0), (5, .eptr p3033 0 0), (6, .i s5404.all_), (10, .ptr p5442 0), (21, .i (c_.Tenants.length : Int)), (22, .i s5065.t22), (29, .sl (.own t5273) 9 (m1L r5272)), (30, .i (r5272.length : Int)), (31, .i s5404.t31), (42, .bool s5459)]) (fun v => [(p3030, .cells [.sl .no 14 (m0L c_.Tenants), .i c_.Quantum, .i c_.Deadline]), (p3033, .vec 1 (s5404.v.map (AV.int .i64))), (p5442, .cells (api.Event.ct .no (ix r5272 s5404.t31))), (t5273, .spare)]) ?_ ?_
 have h := s5459e.symm
 refine aw_region (xf (.ptr p5442 0) underlying41 sizeOf3 Z (xl 0 isAgg3 Z (xz (bd (1 ≤ (ix r5272 s5404.t31).Kind)) Z (xy Z ?_))))
 rcases Bool.eq_false_or_eq_true (decide (1 ≤ (ix r5272 s5404.t31).Kind)) with hb5462 | hb5462
 replace h := ite_t (dec_t hb5462) h
 refine aops_known 38 Z hb5462 (xp (.ptr p5442 0) Z Z (fa Z underlying41 Z sizeOf3 Z Z Z) (xg Z Z (op_load1 (i := 0) Z isAgg3 (tm Z) Z Z (xp (bd ((ix r5272 s5404.t31).Kind ≤ 8)) Z Z (pe Z) (xz (bd ((ix r5272 s5404.t31).Kind ≤ 8)) Z (xe ?_))))))
 subst h
 exact ⟨(), wi [1, 2, 0, 3] Z⟩
 replace h := ite_f (dec_f hb5462) h
 refine aops_known 38 Z hb5462 (xu Z (xu Z (xu Z (xz (.bool false) Z (xe ?_)))))
 subst h
 exact ⟨(), wi [1, 2, 0, 3] Z⟩
 intro _
 have h := h5460
 refine aw_cond (b := s5459) (tm Z) (fun hb5469 => ?_) (fun hb5469 => ?_)
 replace h := ite_t hb5469 h
 refine aw_region (xf (.ptr p5442 0) underlying41 sizeOf3 Z (xl 2 isAgg3 Z ?_))
 obtain ⟨c5463, h⟩ := need_of h
 obtain ⟨c5464, h⟩ := need_of h
 refine xc Z (op_indexAddrArr (len := 9) (j := 1) Z underlying36 sizeOf3 (tm Z) Z (tm Z) c5464 c5463 ?_)
 obtain ⟨c5465, h⟩ := need_of h
 refine xc Z (op_loadE1M (i := 1) (sz := 1) Z isAgg3 (tm Z) Z c5465 (by decide) Z (xz (.i (w64 ((ix s5404.v (ix r5272 s5404.t31).Kind) + 1))) Z ?_))
 obtain ⟨c5466, h⟩ := need_of h
 obtain ⟨c5467, h⟩ := need_of h
 refine xc Z (op_indexAddrArr (len := 9) (j := 1) Z underlying36 sizeOf3 (tm Z) Z (tm Z) c5467 c5466 ?_)
 obtain ⟨c5468, h⟩ := need_of h
 refine ac0 Z Z (op_storeEM (i := 1) (sz := 1) (y' := w64 ((ix s5404.v (ix r5272 s5404.t31).Kind) + 1)) Z sizeOf3 (tm Z) (v := .i (w64 ((ix s5404.v (ix r5272 s5404.t31).Kind) + 1))) (tm Z) Z c5468 Z Z (by decide) Z (xe ?_))
 cases h
 exact ⟨(), wi [0, 1, 2, 3] Z⟩
 replace h := ite_fb hb5469 h
 refine aw_skip ?_
 cases h
 exact ⟨(), wi [0, 1, 2, 3] Z⟩
 intro _
 have h := h5456
 refine xr (xf (.ptr p5442 0) underlying41 sizeOf3 Z (xl 2 isAgg3 Z (xz (bd ((ix r5272 s5404.t31).Kind = 2)) Z (xe (cd h Z (fun _ h => ?_) (fun _ h => ?_))))))
 refine aw_region (xy Z (xf (.ptr p5442 2) underlying41 sizeOf9 Z (xl 2 isAgg9 Z (xa (.i ((ix r5272 s5404.t31).S.length : Int)) Z (pu_strLen Z underlying9 (tm Z)) (xz (.i (w64 (s5404.all_ + ((ix r5272 s5404.t31).S.length : Int)))) Z (xy Z (xe ?_)))))))
 cases h
 exact ⟨(), wi [0, 1, 3] Z⟩
 refine aw_skip ?_
 cases h
 exact ⟨(), wi [0, 1, 3] Z⟩
 intro _
 have h := h5439
 refine aw_region (xz (.i (w64 (s5404.t31 + 1))) Z (xy Z (xe ?_)))
 cases h
 exact ⟨_, (), Z, wi [0, 1, 2] Z⟩
 refine aw_exit ?_
 cases h
 cases congrArg some (hx5405 _ rfl)
 exact ⟨(), wi [0, 1] Z⟩
 intro _
 have h := h5270
 refine aw_region (xz (.i (w64 (s5065.t22 + 1))) Z (xy Z (xe ?_)))
 cases h
 exact ⟨_, (), Z, wi [0, 1] Z⟩
 refine aw_exit ?_
 cases h
 cases congrArg some (hx5066 _ rfl)
 exact ⟨(), wi [0, 1] Z⟩
 intro _
 have h := h4253
 refine xr (xc Z (op_allocArr (len := 9) (sz := 1) (zs := [.i 0, .i 0, .i 0, .i 0, .i 0, .i 0, .i 0, .i 0, .i 0]) (AV.int .i64) (0 : Int) Z zeroValue36 Z Z Z (by decide) Z ?_))
 intro p5473
 refine xe (xr (xz (.i 0) Z (xe ?_)))
 obtain ⟨s5756, s5756e, h5757⟩ := bind_some h
 refine aw_meet (ν := Unit) (fun v => [(5, .eptr p3033 0 0), (6, .i s4252.1), (11, .eptr p5473 0 0), (12, .i s5756.1)]) (fun v => [(p3033, .vec 1 (s4252.2.map (AV.int .i64))), (p5473, .vec 1 (s5756.2.map (AV.int .i64)))]) ?_ ?_
 have h := s5756e
 refine xr (xy Z (xa (.i (l.length : Int)) Z (pu_lenM Z underlying25 (tm Z)) (xz (.i 0) Z (xe (aw_block (aw_while (σ := mewslaw49.ProjectParts.S4) (ν := Unit) (mewslaw49.ProjectParts.body4 l c_) (fun s5945 v => [(1, .sl .no 9 (m1L l)), (2, .ptr p3030 0), (5, .eptr p3033 0 0), (6, .i s4252.1), (11, .eptr p5473 0 0), (12, .i s5945.want), (59, .sl .no 9 (m1L l)), (60, .i (l.length : Int)), (61, .i s5945.t61)]) (fun s5945 v => [(p3030, .cells [.sl .no 14 (m0L c_.Tenants), .i c_.Quantum, .i c_.Deadline]), (p3033, .vec 1 (s4252.2.map (AV.int .i64))), (p5473, .vec 1 (s5945.v.map (AV.int .i64)))]) ⟨0, 0, List.replicate 9 (0 : Int)⟩ () _ h (wi [1, 2, 0] Z) ?_))))))
 rintro s5945 _ x5947 h hx5946
 unfold mewslaw49.ProjectParts.body4 at h
 refine xr (xz (bd (s5945.t61 < (l.length : Int))) Z (xe (aw_seq (cd h Z (fun _ h => ?_) (fun _ h => ?_)))))
 refine aw_skip ?_
 obtain ⟨s5993, s5993e, h5994⟩ := bind_some h
 refine aw_meet (ν := Unit) (fun v => [(1, .sl .no 9 (m1L l)), (2, .ptr p3030 0), (5, .eptr p3033 0 0), (6, .i s4252.1), (11, .eptr p5473 0 0), (12, .i s5993.1), (59, .sl .no 9 (m1L l)), (60, .i (l.length : Int)), (61, .i s5945.t61)]) (fun v => [(p3030, .cells [.sl .no 14 (m0L c_.Tenants), .i c_.Quantum, .i c_.Deadline]), (p3033, .vec 1 (s4252.2.map (AV.int .i64))), (p5473, .vec 1 (s5993.2.map (AV.int .i64)))]) ?_ ?_
 have h := s5993e
 refine aw_block (aw_seq (aw_region ?_))
 obtain ⟨c5996, h⟩ := need_of h
 refine xa (.vptr [.i (ix l s5945.t61).Kind, .i (ix l s5945.t61).Handle, .str (ix l s5945.t61).S, .i (ix l s5945.t61).N, .i (ix l s5945.t61).Tenant, .str (ix l s5945.t61).Fault.Name, .i (ix l s5945.t61).Fault.Kind, .i (ix l s5945.t61).Fault.Short, .sl .no 3 (m2L (ix l s5945.t61).Lefts)]) Z (pu_indexAddrM Z underlying25 sizeOf41 (tm Z) (tm Z) c5996 Z) (xc Z (op_loadVN Z isAgg41 sizeOf41 (tm Z) (nb Z) Z (xA (.agg [.i 0, .i 0, .str nS, .i 0, .i 0, .str nS, .i 0, .i 0, .sl .full 3 e0L]) zeroValue41 Z fun p5997 => xs 0 (api.Event.ct .no (ix l s5945.t61)) sizeOf41 Z (xe (aw_block ?_)))))
 obtain ⟨s5999, s5999e, h6000⟩ := letO_of h
 refine aw_meet (ν := Unit) (fun v => [(1, .sl .no 9 (m1L l)), (2, .ptr p3030 0), (5, .eptr p3033 0 0), (6, .i s4252.1), (11, .eptr p5473 0 0), (12, .i s5945.want), (14, .ptr p5997 0), (59, .sl .no 9 (m1L l)), (60, .i (l.length : Int)), (61, .i s5945.t61), (65, .bool s5999)]) (fun v => [(p3030, .cells [.sl .no 14 (m0L c_.Tenants), .i c_.Quantum, .i c_.Deadline]), (p3033, .vec 1 (s4252.2.map (AV.int .i64))), (p5473, .vec 1 (s5945.v.map (AV.int .i64))), (p5997, .cells (api.Event.ct .no (ix l s5945.t61)))]) ?_ ?_
 have h := s5999e.symm
 refine aw_region (xf (.ptr p5997 0) underlying41 sizeOf3 Z (xl 0 isAgg3 Z (xz (bd ((ix l s5945.t61).Kind < 1)) Z (xy Z ?_))))
 rcases Bool.eq_false_or_eq_true (decide ((ix l s5945.t61).Kind < 1)) with hb6002 | hb6002
 replace h := ite_t (dec_t hb6002) h
 refine aops_known 69 Z hb6002 (xu Z (xu Z (xu Z (xz (.bool true) Z (xy Z (xe ?_))))))
 subst h
 exact ⟨(), wi [1, 2, 3, 0] Z⟩
 replace h := ite_f (dec_f hb6002) h
 refine aops_known 69 Z hb6002 (xp (.ptr p5997 0) Z Z (fa Z underlying41 Z sizeOf3 Z Z Z) (xg Z Z (op_load1 (i := 0) Z isAgg3 (tm Z) Z Z (xp (bd (8 < (ix l s5945.t61).Kind)) Z Z (pe Z) (xz (bd (8 < (ix l s5945.t61).Kind)) Z (xy Z (xe ?_)))))))
 subst h
 exact ⟨(), wi [1, 2, 3, 0] Z⟩
 intro _
 have h := h6000
 refine aw_cond (b := s5999) (tm Z) (fun hb6039 => ?_) (fun hb6039 => ?_)
 replace h := ite_t hb6039 h
 refine aw_skip ?_
 cases h
 exact ⟨(), wi [0, 1, 2] Z⟩
 replace h := ite_fb hb6039 h
 obtain ⟨s6005, s6005e, h6006⟩ := letO_of h
 refine aw_meet (ν := Unit) (fun v => [(1, .sl .no 9 (m1L l)), (2, .ptr p3030 0), (5, .eptr p3033 0 0), (6, .i s4252.1), (11, .eptr p5473 0 0), (12, .i s5945.want), (14, .ptr p5997 0), (59, .sl .no 9 (m1L l)), (60, .i (l.length : Int)), (61, .i s5945.t61), (74, .bool s6005)]) (fun v => [(p3030, .cells [.sl .no 14 (m0L c_.Tenants), .i c_.Quantum, .i c_.Deadline]), (p3033, .vec 1 (s4252.2.map (AV.int .i64))), (p5473, .vec 1 (s5945.v.map (AV.int .i64))), (p5997, .cells (api.Event.ct .no (ix l s5945.t61)))]) ?_ ?_
 have h := s6005e.symm
 refine aw_region (xf (.ptr p5997 0) underlying41 sizeOf3 Z (xl 3 isAgg3 Z (xz (bd ((ix l s5945.t61).Kind = 5)) Z (xy Z ?_))))
 rcases Bool.eq_false_or_eq_true (decide ((ix l s5945.t61).Kind = 5)) with hb6008 | hb6008
 replace h := ite_t (dec_t hb6008) h
 refine aops_known 78 Z hb6008 (xu Z (xu Z (xu Z (xz (.bool true) Z (xy Z (xu Z (xu Z (xu Z (xz (.bool true) Z ?_)))))))))
 refine xy Z (xe ?_)
 subst h
 exact ⟨(), wi [0, 1, 2, 3] Z⟩
 replace h := ite_f (dec_f hb6008) h
 refine aops_known 78 Z hb6008 (xp (.ptr p5997 0) Z Z (fa Z underlying41 Z sizeOf3 Z Z Z) (xg Z Z (op_load1 (i := 3) Z isAgg3 (tm Z) Z Z (xp (bd ((ix l s5945.t61).Kind = 6)) Z Z (pe Z) (xz (bd ((ix l s5945.t61).Kind = 6)) Z (xy Z ?_))))))
 rcases Bool.eq_false_or_eq_true (decide ((ix l s5945.t61).Kind = 6)) with hb6009 | hb6009
 replace h := ite_t (dec_t hb6009) h
 refine aops_known 83 Z hb6009 (xu Z (xu Z (xu Z (xz (.bool true) Z (xy Z (xe ?_))))))
 subst h
 exact ⟨(), wi [0, 1, 2, 3] Z⟩
 replace h := ite_f (dec_f hb6009) h
 refine aops_known 83 Z hb6009 (xp (.ptr p5997 0) Z Z (fa Z underlying41 Z sizeOf3 Z Z Z) (xg Z Z (op_load1 (i := 3) Z isAgg3 (tm Z) Z Z (xp (bd ((ix l s5945.t61).Kind = 8)) Z Z (pe Z) (xz (bd ((ix l s5945.t61).Kind = 8)) Z (xy Z (xe ?_)))))))
 subst h
 exact ⟨(), wi [0, 1, 2, 3] Z⟩
 intro _
 have h := h6006
 refine aw_cond (b := s6005) (tm Z) (fun hb6038 => ?_) (fun hb6038 => ?_)
 replace h := ite_t hb6038 h
 obtain ⟨c6010, h⟩ := need_of h
 obtain ⟨c6011, h⟩ := need_of h
 obtain ⟨c6012, h⟩ := need_of h
 obtain ⟨c6013, h⟩ := need_of h
 obtain ⟨c6014, h⟩ := need_of h
 obtain ⟨c6015, h⟩ := need_of h
 refine aw_planR (by decide +kernel) [[], [(3, 0, false)], [(2, 0, false)], [(2, 0, false)], [], [(0, 0, false)], [], [], [(2, 0, false)], [(2, 0, true)]] [[], [], [9], []] [[[(p3030, .cells [.sl .no 14 (m0L c_.Tenants), .i c_.Quantum, .i c_.Deadline])]], [[(p3033, .vec 1 (s4252.2.map (AV.int .i64)))]], [[(p5473, .vec 1 (s5945.v.map (AV.int .i64)))], [(p5473, .vec 1 ((upd s5945.v (ix l s5945.t61).Kind (w64 ((ix s5945.v (ix l s5945.t61).Kind) + (c_.Tenants.length : Int)))).map (AV.int .i64)))]], [[(p5997, .cells (api.Event.ct .no (ix l s5945.t61)))]]] [.ptr p5997 0, .i (ix l s5945.t61).Kind, .eptr p5473 ((ix l s5945.t61).Kind).toNat 0, .i (ix s5945.v (ix l s5945.t61).Kind), .ptr p3030 0, .sl .no 14 (m0L c_.Tenants), .i (c_.Tenants.length : Int), .i (w64 ((ix s5945.v (ix l s5945.t61).Kind) + (c_.Tenants.length : Int))), .eptr p5473 ((ix l s5945.t61).Kind).toNat 0, .un] (by decide +kernel) Z Z ?_ ?_
 exact ⟨yp Z (fa Z underlying41 Z sizeOf3 Z Z Z), stepg_plain Z (op_load1 (i := 0) Z isAgg3 (tm Z) Z Z ⟨Z, Z⟩), stepg_plain Z (op_indexAddrArr (len := 9) (j := 0) Z underlying36 sizeOf3 (tm Z) Z (tm Z) c6011 c6010 ⟨Z, Z⟩), stepg_plain Z (op_loadE1M (i := 0) (sz := 1) Z isAgg3 (tm Z) Z c6012 (by decide) Z ⟨Z, Z⟩), yp Z (fa Z underlying24 Z sizeOf22 Z Z Z), stepg_plain Z (op_load1 (i := 0) Z isAgg22 (tm Z) Z Z ⟨Z, Z⟩), yp Z (pu_lenM Z underlying22 (tm Z)), yp Z (pe Z), stepg_plain Z (op_indexAddrArr (len := 9) (j := 0) Z underlying36 sizeOf3 (tm Z) Z (tm Z) c6014 c6013 ⟨Z, Z⟩), stepg_plain Z (op_storeEM (i := 0) (sz := 1) (y' := w64 ((ix s5945.v (ix l s5945.t61).Kind) + (c_.Tenants.length : Int))) Z sizeOf3 (tm Z) (v := .i (w64 ((ix s5945.v (ix l s5945.t61).Kind) + (c_.Tenants.length : Int)))) (tm Z) Z c6015 Z Z (by decide) Z ⟨Z, Z⟩), trivial⟩
 cases h
 exact ⟨(), wi [0, 1, 2] Z⟩
 replace h := ite_fb hb6038 h
 refine xr (xf (.ptr p5997 0) underlying41 sizeOf3 Z (xl 3 isAgg3 Z (xz (bd ((ix l s5945.t61).Kind = 7)) Z (xy Z (xe (cd h Z (fun _ h => ?_) (fun _ h => ?_)))))))
 obtain ⟨s6017, s6017e, h6018⟩ := letO_of h
 refine aw_meet (ν := Unit) (fun v => [(1, .sl .no 9 (m1L l)), (2, .ptr p3030 0), (5, .eptr p3033 0 0), (6, .i s4252.1), (11, .eptr p5473 0 0), (12, .i s5945.want), (14, .ptr p5997 0), (59, .sl .no 9 (m1L l)), (60, .i (l.length : Int)), (61, .i s5945.t61), (111, .bool s6017)]) (fun v => [(p3030, .cells [.sl .no 14 (m0L c_.Tenants), .i c_.Quantum, .i c_.Deadline]), (p3033, .vec 1 (s4252.2.map (AV.int .i64))), (p5473, .vec 1 (s5945.v.map (AV.int .i64))), (p5997, .cells (api.Event.ct .no (ix l s5945.t61)))]) ?_ ?_
 have h := s6017e.symm
 refine aw_region (xf (.ptr p5997 4) underlying41 sizeOf3 Z (xl 3 isAgg3 Z (xz (bd (0 ≤ (ix l s5945.t61).Tenant)) Z (xy Z ?_))))
 rcases Bool.eq_false_or_eq_true (decide (0 ≤ (ix l s5945.t61).Tenant)) with hb6020 | hb6020
 replace h := ite_t (dec_t hb6020) h
 refine aops_known 104 Z hb6020 (xp (.ptr p5997 4) Z Z (fa Z underlying41 Z sizeOf3 Z Z Z) (xg Z Z (op_load1 (i := 3) Z isAgg3 (tm Z) Z Z (xp (.ptr p3030 0) Z Z (fa Z underlying24 Z sizeOf22 Z Z Z) (xg Z Z (op_load1 (i := 0) Z isAgg22 (tm Z) Z Z (xp (.i (c_.Tenants.length : Int)) Z Z (pu_lenM Z underlying22 (tm Z)) (xp (bd ((ix l s5945.t61).Tenant < (c_.Tenants.length : Int))) Z Z (pe Z) (xz (bd ((ix l s5945.t61).Tenant < (c_.Tenants.length : Int))) Z (xe ?_))))))))))
 subst h
 exact ⟨(), wi [0, 1, 2, 3] Z⟩
 replace h := ite_f (dec_f hb6020) h
 refine aops_known 104 Z hb6020 (xu Z (xu Z (xu Z (xu Z (xu Z (xu Z (xz (.bool false) Z (xe ?_))))))))
 subst h
 exact ⟨(), wi [0, 1, 2, 3] Z⟩
 intro _
 have h := h6018
 refine aw_cond (b := s6017) (tm Z) (fun hb6027 => ?_) (fun hb6027 => ?_)
 replace h := ite_t hb6027 h
 refine aw_region (xf (.ptr p5997 0) underlying41 sizeOf3 Z (xl 3 isAgg3 Z ?_))
 obtain ⟨c6021, h⟩ := need_of h
 obtain ⟨c6022, h⟩ := need_of h
 refine xc Z (op_indexAddrArr (len := 9) (j := 2) Z underlying36 sizeOf3 (tm Z) Z (tm Z) c6022 c6021 ?_)
 obtain ⟨c6023, h⟩ := need_of h
 refine xc Z (op_loadE1M (i := 2) (sz := 1) Z isAgg3 (tm Z) Z c6023 (by decide) Z (xz (.i (w64 ((ix s5945.v (ix l s5945.t61).Kind) + 1))) Z ?_))
 obtain ⟨c6024, h⟩ := need_of h
 obtain ⟨c6025, h⟩ := need_of h
 refine xc Z (op_indexAddrArr (len := 9) (j := 2) Z underlying36 sizeOf3 (tm Z) Z (tm Z) c6025 c6024 ?_)
 obtain ⟨c6026, h⟩ := need_of h
 refine ac0 Z Z (op_storeEM (i := 2) (sz := 1) (y' := w64 ((ix s5945.v (ix l s5945.t61).Kind) + 1)) Z sizeOf3 (tm Z) (v := .i (w64 ((ix s5945.v (ix l s5945.t61).Kind) + 1))) (tm Z) Z c6026 Z Z (by decide) Z (xe ?_))
 cases h
 exact ⟨(), wi [0, 1, 2] Z⟩
 replace h := ite_fb hb6027 h
 refine aw_skip ?_
 cases h
 exact ⟨(), wi [0, 1, 2] Z⟩
 refine xr (xL 0 isAgg24 sizeOf24 Z (xy Z (xf (.ptr p5997 1) underlying41 sizeOf3 Z (xl 3 isAgg3 Z ?_))))
 obtain ⟨r6028, r6028e, h⟩ := bind_some h
 refine xo (mewsref49.Of.ok r6028e) call11 Z (xz (bd (0 ≤ r6028)) Z (xy Z (xe (cd h Z (fun _ h => ?_) (fun _ h => ?_)))))
 refine xr (xf (.ptr p5997 0) underlying41 sizeOf3 Z (xl 3 isAgg3 Z ?_))
 obtain ⟨c6029, h⟩ := need_of h
 obtain ⟨c6030, h⟩ := need_of h
 refine xc Z (op_indexAddrArr (len := 9) (j := 2) Z underlying36 sizeOf3 (tm Z) Z (tm Z) c6030 c6029 ?_)
 obtain ⟨c6031, h⟩ := need_of h
 refine xc Z (op_loadE1M (i := 2) (sz := 1) Z isAgg3 (tm Z) Z c6031 (by decide) Z (xz (.i (w64 ((ix s5945.v (ix l s5945.t61).Kind) + 1))) Z ?_))
 obtain ⟨c6032, h⟩ := need_of h
 obtain ⟨c6033, h⟩ := need_of h
 refine xc Z (op_indexAddrArr (len := 9) (j := 2) Z underlying36 sizeOf3 (tm Z) Z (tm Z) c6033 c6032 ?_)
 obtain ⟨c6034, h⟩ := need_of h
 refine ac0 Z Z (op_storeEM (i := 2) (sz := 1) (y' := w64 ((ix s5945.v (ix l s5945.t61).Kind) + 1)) Z sizeOf3 (tm Z) (v := .i (w64 ((ix s5945.v (ix l s5945.t61).Kind) + 1))) (tm Z) Z c6034 Z Z (by decide) Z (xe (xr (xf (.ptr p5997 0) underlying41 sizeOf3 Z (xl 3 isAgg3 Z (xz (bd ((ix l s5945.t61).Kind = 2)) Z (xe (cd h Z (fun _ h => ?_) (fun _ h => ?_)))))))))
 refine aw_region (xy Z (xf (.ptr p5997 2) underlying41 sizeOf9 Z (xl 3 isAgg9 Z (xa (.i ((ix l s5945.t61).S.length : Int)) Z (pu_strLen Z underlying9 (tm Z)) (xz (.i (w64 (s5945.want + ((ix l s5945.t61).S.length : Int)))) Z (xy Z (xe ?_)))))))
 cases h
 exact ⟨(), wi [0, 1, 2] Z⟩
 refine aw_skip ?_
 cases h
 exact ⟨(), wi [0, 1, 2] Z⟩
 refine aw_skip ?_
 cases h
 exact ⟨(), wi [0, 1, 2] Z⟩
 intro _
 have h := h5994
 refine aw_region (xz (.i (w64 (s5945.t61 + 1))) Z (xy Z (xe ?_)))
 cases h
 exact ⟨_, (), Z, wi [0, 1, 2] Z⟩
 refine aw_exit ?_
 cases h
 cases congrArg some (hx5946 _ rfl)
 exact ⟨(), wi [1, 2] Z⟩
 intro _
 have h := h5757
 obtain ⟨s6048, s6048e, h6049⟩ := bind_some h
 refine aw_meet (ν := Unit) (fun v => [(4, .bool s6048)]) (fun v => []) ?_ ?_
 have h := s6048e
 refine aw_region ?_
 obtain ⟨c6051, h⟩ := need_of h
 refine xc Z (op_loadArr (i := 0) (f := (AV.int .i64)) Z isAgg36 sizeOf36 (tm Z) Z c6051 (by decide) (fun _ => Z) ?_)
 obtain ⟨c6052, h⟩ := need_of h
 refine xc Z (op_loadArr (i := 1) (f := (AV.int .i64)) Z isAgg36 sizeOf36 (tm Z) Z c6052 (by decide) (fun _ => Z) ?_)
 obtain ⟨c6053, h⟩ := need_of h
 obtain ⟨c6054, h⟩ := need_of h
 refine xa (bd (s4252.2 = s5756.2)) Z (pu_eqV Z (by kernel_rfl) (tm Z) (tm Z) (VEq.ints underlying36 underlying3 isAgg3 sizeOf3 c6053 c6054) (by decide)) (xy Z ?_)
 rcases Bool.eq_false_or_eq_true (decide (s4252.2 = s5756.2)) with hb6055 | hb6055
 replace h := ite_t (dec_t hb6055) h
 refine aops_known 143 Z hb6055 (xq Z Z Z Z (xq Z Z Z Z (xp (bd (s4252.1 = s5756.1)) Z Z (pe Z) (xz (bd (s4252.1 = s5756.1)) Z (xy Z ?_)))))
 rcases Bool.eq_false_or_eq_true (decide (s4252.1 = s5756.1)) with hb6056 | hb6056
 replace h := ite_t (dec_t hb6056) h
 refine aops_known 148 Z hb6056 ?_
 obtain ⟨r6057, r6057e, h⟩ := bind_some h
 refine xg Z Z (op_call (vs := []) (H := []) Z call6 trivial (List.Perm.refl _) (mewslaw49.alive.ok r6057e) ?_)
 rintro _ _ ⟨rfl, rfl⟩
 refine xz (.bool r6057) Z (xy Z (xe ?_))
 cases h
 exact ⟨(), wi [] Z⟩
 replace h := ite_f (dec_f hb6056) h
 refine aops_known 148 Z hb6056 (xu Z (xz (.bool false) Z (xy Z (xe ?_))))
 cases h
 exact ⟨(), wi [] Z⟩
 replace h := ite_f (dec_f hb6055) h
 refine aops_known 143 Z hb6055 (xu Z (xu Z (xu Z (xz (.bool false) Z (xy Z (xu Z (xz (.bool false) Z (xy Z (xe ?_)))))))))
 cases h
 exact ⟨(), wi [] Z⟩
 intro _
 have h := h6049
 refine aw_ret ?_
 cases h
 exact rt ⟨Z, Z⟩ Z w0

end Go.Pu
