/- Printed by lift.py: the functions come to them. -/
import Derived.Test.YtakmcdnailmhlaaGreatLiftWS
import Derived.Test.YtakmcdnailmhlaaGreatPSK5
set_option maxRecDepth 100000
set_option maxHeartbeats 0
namespace Go.Pu
open Go.Lift Go.Proofs.Tryz Go.RowKit Go.Proofs

theorem mewsref49.Labels.ok {c_ l r} (h : mewsref49.Labels c_ l = some r) : Sp prog 7 [.agg [.sl .no 14 (m0L c_.Tenants), .i c_.Quantum, .i c_.Deadline], .sl .no 9 (m1L l)] [] (fun v H => ∃ n0, v = .sl (.own n0) 2 (m6L r) ∧ H = [(n0, .spare)]) := by
 unfold mewsref49.Labels at h
 refine sb [.tmp 4] func7 Z (xr (xb [.sl .no 14 (m0L c_.Tenants), .i c_.Quantum, .i c_.Deadline] Z fun p1054 => xa (.sl .full 2 e5L) Z (pu_assign Z (AEv.nil 2 (by decide))) (xe (xr (xa (.sl .full 2 e5L) Z (pu_assign Z (AEv.nil 2 (by decide))) (xe ?_))))))
 obtain ⟨s1579, s1579e, h1581⟩ := bind_some h
 refine aw_meet (ν := Nat) (fun v => [(5, .sl (.own v) 2 (m6L s1579))]) (fun v => [(v, .spare)]) ?_ ?_
 have h := s1579e
 refine xr (xz (.i 0) Z (xe (aw_block (aw_claim 5 (tm Z) fun t2106 => (aw_while (σ := mewsref49.Labels.S0) (ν := Nat) (mewsref49.Labels.body0 l c_) (fun s1930 v => [(1, .sl .no 9 (m1L l)), (2, .ptr p1054 0), (5, .sl (.own v) 2 (m6L s1930.out)), (6, .i s1930.i)]) (fun s1930 v => [(p1054, .cells [.sl .no 14 (m0L c_.Tenants), .i c_.Quantum, .i c_.Deadline]), (v, .spare)]) ⟨([] : List api.Label), 0⟩ t2106 _ h (wi [1, 0] Z) ?_)))))
 rintro s1930 n1931 x1933 h hx1932
 unfold mewsref49.Labels.body0 at h
 refine aw_seq (xr (xy Z (xy Z (xa (.i (l.length : Int)) Z (pu_lenM Z underlying25 (tm Z)) (xz (bd (s1930.i < (l.length : Int))) Z (xe (cd h Z (fun _ h => ?_) (fun _ h => ?_))))))))
 refine aw_skip ?_
 obtain ⟨s2018, s2018e, h2020⟩ := bind_some h
 refine aw_meet (ν := Nat) (fun v => [(1, .sl .no 9 (m1L l)), (2, .ptr p1054 0), (5, .sl (.own v) 2 (m6L s2018)), (6, .i s1930.i)]) (fun v => [(p1054, .cells [.sl .no 14 (m0L c_.Tenants), .i c_.Quantum, .i c_.Deadline]), (v, .spare)]) ?_ ?_
 have h := s2018e
 refine aw_block (xr (xy Z (xy Z ?_)))
 obtain ⟨c2022, h⟩ := need_of h
 refine xa (.vptr [.i (ix l s1930.i).Kind, .i (ix l s1930.i).Handle, .str (ix l s1930.i).S, .i (ix l s1930.i).N, .i (ix l s1930.i).Tenant, .str (ix l s1930.i).Fault.Name, .i (ix l s1930.i).Fault.Kind, .i (ix l s1930.i).Fault.Short, .sl .no 3 (m2L (ix l s1930.i).Lefts)]) Z (pu_indexAddrM Z underlying25 sizeOf40 (tm Z) (tm Z) c2022 Z) (xf (.vptr [.i (ix l s1930.i).Handle, .str (ix l s1930.i).S, .i (ix l s1930.i).N, .i (ix l s1930.i).Tenant, .str (ix l s1930.i).Fault.Name, .i (ix l s1930.i).Fault.Kind, .i (ix l s1930.i).Fault.Short, .sl .no 3 (m2L (ix l s1930.i).Lefts)]) underlying40 sizeOf3 Z (xc Z (op_loadV1 Z isAgg3 (tm Z) Z (xy Z (xe (aw_seq (xr (xy Z (xy Z ?_)))))))))
 obtain ⟨c2023, h⟩ := need_of h
 refine xa (.vptr [.i (ix l s1930.i).Kind, .i (ix l s1930.i).Handle, .str (ix l s1930.i).S, .i (ix l s1930.i).N, .i (ix l s1930.i).Tenant, .str (ix l s1930.i).Fault.Name, .i (ix l s1930.i).Fault.Kind, .i (ix l s1930.i).Fault.Short, .sl .no 3 (m2L (ix l s1930.i).Lefts)]) Z (pu_indexAddrM Z underlying25 sizeOf40 (tm Z) (tm Z) c2023 Z) (xf (.vptr [.i (ix l s1930.i).Kind, .i (ix l s1930.i).Handle, .str (ix l s1930.i).S, .i (ix l s1930.i).N, .i (ix l s1930.i).Tenant, .str (ix l s1930.i).Fault.Name, .i (ix l s1930.i).Fault.Kind, .i (ix l s1930.i).Fault.Short, .sl .no 3 (m2L (ix l s1930.i).Lefts)]) underlying40 sizeOf3 Z (xc Z (op_loadV1 Z isAgg3 (tm Z) Z (xz (bn ((ix l s1930.i).Kind = 1)) Z (xe (cn h Z (fun _ h => ?_) (fun _ h => ?_)))))))
 refine aw_exit ?_
 cases h
 exact ⟨n1931, wi [0, 1] Z⟩
 refine aw_skip (xr (xz (.i 0) Z (xe ?_)))
 obtain ⟨s2054, s2054e, h2055⟩ := bind_some h
 refine aw_meet (ν := Unit) (fun v => [(1, .sl .no 9 (m1L l)), (2, .ptr p1054 0), (5, .sl (.own n1931) 2 (m6L s1930.out)), (6, .i s1930.i), (7, .i (ix l s1930.i).Handle), (8, .i s2054)]) (fun v => [(p1054, .cells [.sl .no 14 (m0L c_.Tenants), .i c_.Quantum, .i c_.Deadline]), (n1931, .spare)]) ?_ ?_
 have h := s2054e
 refine aw_block (aw_while (σ := mewsref49.Labels.S2) (ν := Unit) (mewsref49.Labels.body2 s1930 l) (fun s2075 v => [(1, .sl .no 9 (m1L l)), (2, .ptr p1054 0), (5, .sl (.own n1931) 2 (m6L s1930.out)), (6, .i s1930.i), (7, .i (ix l s1930.i).Handle), (8, .i s2075.k)]) (fun s2075 v => [(p1054, .cells [.sl .no 14 (m0L c_.Tenants), .i c_.Quantum, .i c_.Deadline]), (n1931, .spare)]) ⟨0⟩ () _ h (wi [0, 1] Z) ?_)
 rintro s2075 _ x2077 h hx2076
 unfold mewsref49.Labels.body2 at h
 refine aw_seq ?_
 obtain ⟨s2081, s2081e, h2082⟩ := bind_some h
 refine aw_meet (ν := Unit) (fun v => [(1, .sl .no 9 (m1L l)), (2, .ptr p1054 0), (5, .sl (.own n1931) 2 (m6L s1930.out)), (6, .i s1930.i), (7, .i (ix l s1930.i).Handle), (8, .i s2075.k), (38, .bool s2081)]) (fun v => [(p1054, .cells [.sl .no 14 (m0L c_.Tenants), .i c_.Quantum, .i c_.Deadline]), (n1931, .spare)]) ?_ ?_
 have h := s2081e
 refine aw_region (xy Z (xy Z (xa (.i (s1930.out.length : Int)) Z (pu_lenM Z underlying28 (tm Z)) (xz (bd (s2075.k < (s1930.out.length : Int))) Z (xy Z ?_)))))
 rcases Bool.eq_false_or_eq_true (decide (s2075.k < (s1930.out.length : Int))) with hb2084 | hb2084
 replace h := ite_t (dec_t hb2084) h
 refine aops_known 30 Z hb2084 (xq Z Z Z Z (xq Z Z Z Z ?_))
 obtain ⟨c2085, h⟩ := need_of h
 refine xp (.vptr [.i (ix s1930.out s2075.k).Handle, .i (ix s1930.out s2075.k).Tenant]) Z Z (pu_indexAddrM Z underlying28 sizeOf31 (tm Z) (tm Z) c2085 Z) (xp (.vptr [.i (ix s1930.out s2075.k).Handle, .i (ix s1930.out s2075.k).Tenant]) Z Z (fa Z underlying31 Z sizeOf3 Z Z Z) (xg Z Z (op_loadV1 Z isAgg3 (tm Z) Z (xq Z Z Z Z (xp (bd ((ix s1930.out s2075.k).Handle < (ix l s1930.i).Handle)) Z Z (pe Z) (xz (bd ((ix s1930.out s2075.k).Handle < (ix l s1930.i).Handle)) Z (xe ?_)))))))
 cases h
 exact ⟨(), wi [0, 1] Z⟩
 replace h := ite_f (dec_f hb2084) h
 refine aops_known 30 Z hb2084 (xu Z (xu Z (xu Z (xu Z (xu Z (xu Z (xu Z (xz (.bool false) Z (xe ?_)))))))))
 cases h
 exact ⟨(), wi [0, 1] Z⟩
 intro _
 have h := h2082
 refine aw_cond (b := s2081) (tm Z) (fun hb2086 => ?_) (fun hb2086 => ?_)
 replace h := ite_t hb2086 h
 refine aw_skip (aw_block (aw_region (xy Z (xz (.i (w64 (s2075.k + 1))) Z (xy Z (xe ?_))))))
 cases h
 exact ⟨_, (), Z, wi [0, 1] Z⟩
 replace h := ite_fb hb2086 h
 refine aw_exit ?_
 cases h
 cases congrArg some (hx2076 _ rfl)
 exact ⟨(), wi [0, 1] Z⟩
 intro _
 have h := h2055
 refine aw_seq ?_
 obtain ⟨s2089, s2089e, h2090⟩ := bind_some h
 refine aw_meet (ν := Unit) (fun v => [(1, .sl .no 9 (m1L l)), (2, .ptr p1054 0), (5, .sl (.own n1931) 2 (m6L s1930.out)), (6, .i s1930.i), (7, .i (ix l s1930.i).Handle), (8, .i s2054), (53, .bool s2089)]) (fun v => [(p1054, .cells [.sl .no 14 (m0L c_.Tenants), .i c_.Quantum, .i c_.Deadline]), (n1931, .spare)]) ?_ ?_
 have h := s2089e
 refine aw_region (xy Z (xy Z (xa (.i (s1930.out.length : Int)) Z (pu_lenM Z underlying28 (tm Z)) (xz (bd (s2054 < (s1930.out.length : Int))) Z (xy Z ?_)))))
 rcases Bool.eq_false_or_eq_true (decide (s2054 < (s1930.out.length : Int))) with hb2092 | hb2092
 replace h := ite_t (dec_t hb2092) h
 refine aops_known 45 Z hb2092 (xq Z Z Z Z (xq Z Z Z Z ?_))
 obtain ⟨c2093, h⟩ := need_of h
 refine xp (.vptr [.i (ix s1930.out s2054).Handle, .i (ix s1930.out s2054).Tenant]) Z Z (pu_indexAddrM Z underlying28 sizeOf31 (tm Z) (tm Z) c2093 Z) (xp (.vptr [.i (ix s1930.out s2054).Handle, .i (ix s1930.out s2054).Tenant]) Z Z (fa Z underlying31 Z sizeOf3 Z Z Z) (xg Z Z (op_loadV1 Z isAgg3 (tm Z) Z (xq Z Z Z Z (xp (bd ((ix s1930.out s2054).Handle = (ix l s1930.i).Handle)) Z Z (pe Z) (xz (bd ((ix s1930.out s2054).Handle = (ix l s1930.i).Handle)) Z (xe ?_)))))))
 cases h
 exact ⟨(), wi [0, 1] Z⟩
 replace h := ite_f (dec_f hb2092) h
 refine aops_known 45 Z hb2092 (xu Z (xu Z (xu Z (xu Z (xu Z (xu Z (xu Z (xz (.bool false) Z (xe ?_)))))))))
 cases h
 exact ⟨(), wi [0, 1] Z⟩
 intro _
 have h := h2090
 refine aw_cond (b := s2089) (tm Z) (fun hb2103 => ?_) (fun hb2103 => ?_)
 replace h := ite_t hb2103 h
 refine aw_exit ?_
 cases h
 exact ⟨n1931, wi [0, 1] Z⟩
 replace h := ite_fb hb2103 h
 refine aw_skip ?_
 obtain ⟨c2094, h⟩ := need_of h
 obtain ⟨c2095, h⟩ := need_of h
 obtain ⟨r2097, r2097e, h⟩ := bind_some h
 obtain ⟨c2098, h⟩ := need_of h
 obtain ⟨c2100, h⟩ := need_of h
 obtain ⟨c2101, h⟩ := need_of h
 refine aw_reserve fun p2096 => (aw_reserve fun p2099 => (aw_reserve fun p2102 => (aw_planR (by decide +kernel) [[], [], [], [(2, 0, true)], [], [(3, 0, false)], [], [], [], [], [], [(2, 1, true), (1, 0, true)], [], [], [], [(1, 1, true), (0, 0, true)], []] [[15], [11, 15], [3, 11], [], []] [[[(p2102, .resv)], [(p2102, .spare)]], [[(p2099, .resv)], [(p2099, .spare)], []], [[(p2096, .resv)], [(p2096, .spare)], []], [[(p1054, .cells [.sl .no 14 (m0L c_.Tenants), .i c_.Quantum, .i c_.Deadline])]], [[(n1931, .spare)]]] [.sl (.own n1931) 2 (m6L s1930.out), .i s2054, .sl .no 2 (m6L (sub s1930.out 0 s2054)), .sl (.own p2096) 2 (m6L (([] : List api.Label) ++ (sub s1930.out 0 s2054))), .i (ix l s1930.i).Handle, .agg [.sl .no 14 (m0L c_.Tenants), .i c_.Quantum, .i c_.Deadline], .sl .no 9 (m1L l), .i (ix l s1930.i).Handle, .i r2097, .agg [.i (ix l s1930.i).Handle, .i r2097], .sl .full 2 ([({ Handle := (ix l s1930.i).Handle, Tenant := r2097 } : api.Label)].map api.Label.av), .sl (.own p2099) 2 (m6L ((([] : List api.Label) ++ (sub s1930.out 0 s2054)) ++ [({ Handle := (ix l s1930.i).Handle, Tenant := r2097 } : api.Label)])), .sl (.own n1931) 2 (m6L s1930.out), .i s2054, .sl .no 2 (m6L (sub s1930.out s2054 (s1930.out.length : Int))), .sl (.own p2102) 2 (m6L (((([] : List api.Label) ++ (sub s1930.out 0 s2054)) ++ [({ Handle := (ix l s1930.i).Handle, Tenant := r2097 } : api.Label)]) ++ (sub s1930.out s2054 (s1930.out.length : Int)))), .sl (.own p2102) 2 (m6L (((([] : List api.Label) ++ (sub s1930.out 0 s2054)) ++ [({ Handle := (ix l s1930.i).Handle, Tenant := r2097 } : api.Label)]) ++ (sub s1930.out s2054 (s1930.out.length : Int))))] (by decide +kernel) Z Z ?_ ?_)))
 exact ⟨ym Z Z Z, ym Z Z Z, yp Z (pu_sliceM Z underlying28 sizeOf31 (tm Z) Z ⟨_, (tm Z)⟩ c2094), stepg_plain Z (aop_settleS (op_appendFM Z underlying28 underlying28 (.inl Z) typeInfo31 Z Z Z (by decide) (AEv.nil 2 (by decide)) (given_sl (tm Z)) c2095 fun t => ⟨t, Z, Z⟩) ⟨Z, Z⟩), ym Z Z Z, stepg_plain Z (op_loadN (i := 0) Z isAgg24 sizeOf24 (tm Z) Z (nb Z) Z ⟨Z, Z⟩), ym Z Z Z, ym Z Z Z, stepg_plain Z (op_call (vs := [.agg [.sl .no 14 (m0L c_.Tenants), .i c_.Quantum, .i c_.Deadline], .sl .no 9 (m1L l), .i (ix l s1930.i).Handle]) (H := []) Z call12 ⟨(tm Z), (tm Z), (tm Z), trivial⟩ (R := []) (List.Perm.refl _) (mewsref49.Of.ok r2097e) (by rintro _ _ ⟨rfl, rfl⟩; exact ⟨Z, Z⟩)), yp Z (pu_build (zs := [.i 0, .i 0]) (szs := [1, 1]) (aparts := [(0, .i (ix l s1930.i).Handle), (1, .i r2097)]) (cs := [.i (ix l s1930.i).Handle, .i r2097]) Z underlying31 zeroValue31 Z ⟨sizeOf3, sizeOf3, trivial⟩ ⟨Z, (tm Z), ⟨Z, (tm Z), trivial⟩⟩ Z), stepg_plain Z (op_buildSlice (xs := ([({ Handle := (ix l s1930.i).Handle, Tenant := r2097 } : api.Label)] : List api.Label).map api.Label.av) (aparts := [(0, .agg [.i (ix l s1930.i).Handle, .i r2097])]) Z underlying28 sizeOf31 zeroValue31 (by decide) (by decide) ⟨Z, (tm Z), trivial⟩ Z Z Z ⟨Z, Z⟩), stepg_plain Z (aop_settleS (op_appendOM (q := 0) Z underlying28 underlying28 (.inl Z) typeInfo31 Z Z Z (by decide) (tm Z) Z (given_sl (tm Z)) c2098 fun t => ⟨t, Z, Z⟩) ⟨Z, Z⟩), ym Z Z Z, ym Z Z Z, yp Z (pu_sliceM Z underlying28 sizeOf31 (tm Z) ⟨_, (tm Z)⟩ Z c2100), stepg_plain Z (aop_settleS (op_appendOM (q := 0) Z underlying28 underlying28 (.inl Z) typeInfo31 Z Z Z (by decide) (tm Z) Z (given_sl (tm Z)) c2101 fun t => ⟨t, Z, Z⟩) ⟨Z, Z⟩), ym Z Z Z, trivial⟩
 cases h
 exact ⟨p2102, wi [1, 0] Z⟩
 intro n2019
 have h := h2020
 refine aw_region (xy Z (xz (.i (w64 (s1930.i + 1))) Z (xy Z (xe ?_))))
 cases h
 exact ⟨_, n2019, Z, wi [0, 1] Z⟩
 refine aw_exit ?_
 cases h
 cases congrArg some (hx1932 _ rfl)
 exact ⟨n1931, wi [1] Z⟩
 intro n1580
 have h := h1581
 refine xr (xy Z (xy Z (xe (aw_ret ?_))))
 cases h
 exact rt ⟨n1580, Z, Z⟩ Z (wi [0] Z)

theorem mewsref49.Tenant.ok {c_ l i r} (h : mewsref49.Tenant c_ l i = some r) : Sp prog 8 [.agg [.sl .no 14 (m0L c_.Tenants), .i c_.Quantum, .i c_.Deadline], .sl .no 9 (m1L l), .i i] [] (fun v H => ∃ n0, v = .sl (.own n0) 9 (m1L r) ∧ H = [(n0, .spare)]) := by
 unfold mewsref49.Tenant at h
 refine sb [.tmp 6] func8 Z (xr (xb [.sl .no 14 (m0L c_.Tenants), .i c_.Quantum, .i c_.Deadline] Z fun p4925 => xa (.sl .full 9 e6L) Z (pu_assign Z (AEv.nil 9 (by decide))) (xe (xr (xa (.sl .full 9 e6L) Z (pu_assign Z (AEv.nil 9 (by decide))) (xe ?_))))))
 obtain ⟨s4927, s4927e, h4928⟩ := letO_of h
 refine aw_meet (ν := Unit) (fun v => [(1, .sl .no 9 (m1L l)), (2, .i i), (3, .ptr p4925 0), (7, .sl .full 9 e6L), (8, .bool s4927)]) (fun v => [(p4925, .cells [.sl .no 14 (m0L c_.Tenants), .i c_.Quantum, .i c_.Deadline])]) ?_ ?_
 have h := s4927e.symm
 refine aw_region (xy Z (xz (bd (0 ≤ i)) Z (xy Z ?_)))
 rcases Bool.eq_false_or_eq_true (decide (0 ≤ i)) with hb4930 | hb4930
 replace h := ite_t (dec_t hb4930) h
 refine aops_known 15 Z hb4930 (xq Z Z Z Z (xp (.ptr p4925 0) Z Z (fa Z underlying24 Z sizeOf22 Z Z Z) (xg Z Z (op_load1 (i := 0) Z isAgg22 (tm Z) Z Z (xp (.i (c_.Tenants.length : Int)) Z Z (pu_lenM Z underlying22 (tm Z)) (xp (bd (i < (c_.Tenants.length : Int))) Z Z (pe Z) (xz (bd (i < (c_.Tenants.length : Int))) Z (xy Z (xe ?_)))))))))
 subst h
 exact ⟨(), wi [0] Z⟩
 replace h := ite_f (dec_f hb4930) h
 refine aops_known 15 Z hb4930 (xu Z (xu Z (xu Z (xu Z (xu Z (xz (.bool false) Z (xy Z (xe ?_))))))))
 subst h
 exact ⟨(), wi [0] Z⟩
 intro _
 have h := h4928
 obtain ⟨s7388, s7388e, h7390⟩ := bind_some h
 refine aw_meet (ν := Nat) (fun v => [(7, .sl (.own v) 9 (m1L s7388))]) (fun v => [(v, .spare)]) ?_ ?_
 have h := s7388e
 refine xr (xz (.i 0) Z (xe (aw_block (aw_claim 7 (tm Z) fun t9848 => (aw_while (σ := mewsref49.Tenant.S0) (ν := Nat) (mewsref49.Tenant.body0 l s4927 c_ i) (fun s9028 v => [(1, .sl .no 9 (m1L l)), (2, .i i), (3, .ptr p4925 0), (7, .sl (.own v) 9 (m1L s9028.out)), (8, .bool s4927), (9, .i s9028.k)]) (fun s9028 v => [(p4925, .cells [.sl .no 14 (m0L c_.Tenants), .i c_.Quantum, .i c_.Deadline]), (v, .spare)]) ⟨([] : List api.Event), 0⟩ t9848 _ h (wi [1, 0] Z) ?_)))))
 rintro s9028 n9029 x9031 h hx9030
 unfold mewsref49.Tenant.body0 at h
 refine aw_seq (xr (xy Z (xy Z (xa (.i (l.length : Int)) Z (pu_lenM Z underlying25 (tm Z)) (xz (bd (s9028.k < (l.length : Int))) Z (xe (cd h Z (fun _ h => ?_) (fun _ h => ?_))))))))
 refine aw_skip ?_
 obtain ⟨s9438, s9438e, h9440⟩ := bind_some h
 refine aw_meet (ν := Nat) (fun v => [(1, .sl .no 9 (m1L l)), (2, .i i), (3, .ptr p4925 0), (7, .sl (.own v) 9 (m1L s9438)), (8, .bool s4927), (9, .i s9028.k)]) (fun v => [(p4925, .cells [.sl .no 14 (m0L c_.Tenants), .i c_.Quantum, .i c_.Deadline]), (v, .spare)]) ?_ ?_
 have h := s9438e
 refine aw_block (xr (xy Z (xy Z ?_)))
 obtain ⟨c9442, h⟩ := need_of h
 refine xa (.vptr [.i (ix l s9028.k).Kind, .i (ix l s9028.k).Handle, .str (ix l s9028.k).S, .i (ix l s9028.k).N, .i (ix l s9028.k).Tenant, .str (ix l s9028.k).Fault.Name, .i (ix l s9028.k).Fault.Kind, .i (ix l s9028.k).Fault.Short, .sl .no 3 (m2L (ix l s9028.k).Lefts)]) Z (pu_indexAddrM Z underlying25 sizeOf40 (tm Z) (tm Z) c9442 Z) (xc Z (op_loadVN Z isAgg40 sizeOf40 (tm Z) (nb Z) Z (xA (.agg [.i 0, .i 0, .str nS, .i 0, .i 0, .str nS, .i 0, .i 0, .sl .full 3 e0L]) zeroValue40 Z fun p9443 => xs 0 (api.Event.ct .no (ix l s9028.k)) sizeOf40 Z (xe (aw_seq ?_)))))
 obtain ⟨s9445, s9445e, h9446⟩ := letO_of h
 refine aw_meet (ν := Unit) (fun v => [(1, .sl .no 9 (m1L l)), (2, .i i), (3, .ptr p4925 0), (7, .sl (.own n9029) 9 (m1L s9028.out)), (8, .bool s4927), (9, .i s9028.k), (10, .ptr p9443 0), (39, .bool s9445)]) (fun v => [(p4925, .cells [.sl .no 14 (m0L c_.Tenants), .i c_.Quantum, .i c_.Deadline]), (n9029, .spare), (p9443, .cells (api.Event.ct .no (ix l s9028.k)))]) ?_ ?_
 have h := s9445e.symm
 refine aw_region (xf (.ptr p9443 0) underlying40 sizeOf3 Z (xl 0 isAgg3 Z (xz (bd ((ix l s9028.k).Kind < 1)) Z (xy Z ?_))))
 rcases Bool.eq_false_or_eq_true (decide ((ix l s9028.k).Kind < 1)) with hb9448 | hb9448
 replace h := ite_t (dec_t hb9448) h
 refine aops_known 35 Z hb9448 (xu Z (xu Z (xu Z (xz (.bool true) Z (xe ?_)))))
 subst h
 exact ⟨(), wi [1, 2, 0] Z⟩
 replace h := ite_f (dec_f hb9448) h
 refine aops_known 35 Z hb9448 (xp (.ptr p9443 0) Z Z (fa Z underlying40 Z sizeOf3 Z Z Z) (xg Z Z (op_load1 (i := 0) Z isAgg3 (tm Z) Z Z (xp (bd (8 < (ix l s9028.k).Kind)) Z Z (pe Z) (xz (bd (8 < (ix l s9028.k).Kind)) Z (xe ?_))))))
 subst h
 exact ⟨(), wi [1, 2, 0] Z⟩
 intro _
 have h := h9446
 refine aw_cond (b := s9445) (tm Z) (fun hb9846 => ?_) (fun hb9846 => ?_)
 replace h := ite_t hb9846 h
 refine aw_exit ?_
 cases h
 exact ⟨n9029, wi [0, 1] Z⟩
 replace h := ite_fb hb9846 h
 refine aw_skip (aw_seq ?_)
 obtain ⟨s9452, s9452e, h9453⟩ := bind_some h
 refine aw_meet (ν := Unit) (fun v => [(1, .sl .no 9 (m1L l)), (2, .i i), (3, .ptr p4925 0), (7, .sl (.own n9029) 9 (m1L s9028.out)), (8, .bool s4927), (9, .i s9028.k), (10, .ptr p9443 0), (55, .bool s9452)]) (fun v => [(p4925, .cells [.sl .no 14 (m0L c_.Tenants), .i c_.Quantum, .i c_.Deadline]), (n9029, .spare), (p9443, .cells (api.Event.ct .no (ix l s9028.k)))]) ?_ ?_
 have h := s9452e
 refine aw_region (xf (.ptr p9443 0) underlying40 sizeOf3 Z (xl 2 isAgg3 Z (xz (bd ((ix l s9028.k).Kind ≤ 4)) Z (xy Z ?_))))
 rcases Bool.eq_false_or_eq_true (decide ((ix l s9028.k).Kind ≤ 4)) with hb9455 | hb9455
 replace h := ite_t (dec_t hb9455) h
 refine aops_known 43 Z hb9455 (xq Z Z Z Z (xp (.bool (!s4927)) Z Z (pe Z) (xq Z Z Z Z ?_)))
 rcases Bool.eq_false_or_eq_true (!s4927) with hb9456 | hb9456
 replace h := ite_t hb9456 h
 refine aops_known 46 Z hb9456 (xu Z (xu Z (xu Z (xu Z (xu Z (xu Z (xu Z (xp (.bool true) Z Z (pe Z) (xz (.bool true) Z ?_)))))))))
 refine xe ?_
 cases h
 exact ⟨(), wi [0, 1, 2] Z⟩
 replace h := ite_fb hb9456 h
 refine aops_known 46 Z hb9456 (xg Z Z (op_loadN (i := 0) Z isAgg24 sizeOf24 (tm Z) Z (nb Z) Z (xq Z Z Z Z (xp (.ptr p9443 1) Z Z (fa Z underlying40 Z sizeOf3 Z Z Z) (xg Z Z (op_load1 (i := 2) Z isAgg3 (tm Z) Z Z ?_))))))
 obtain ⟨r9457, r9457e, h⟩ := bind_some h
 refine xg Z Z (op_call (vs := [.agg [.sl .no 14 (m0L c_.Tenants), .i c_.Quantum, .i c_.Deadline], .sl .no 9 (m1L l), .i (ix l s9028.k).Handle]) (H := []) Z call12 ⟨(tm Z), (tm Z), (tm Z), trivial⟩ (List.Perm.refl _) (mewsref49.Of.ok r9457e) ?_)
 rintro _ _ ⟨rfl, rfl⟩
 refine xq Z Z Z Z (xp (bn (r9457 = i)) Z Z (pe Z) (xp (bn (r9457 = i)) Z Z (pe Z) (xz (bn (r9457 = i)) Z (xe ?_))))
 cases h
 exact ⟨(), wi [0, 1, 2] Z⟩
 replace h := ite_f (dec_f hb9455) h
 refine aops_known 43 Z hb9455 (xu Z (xu Z (xu Z (xv Z Z (xv Z Z (xv Z Z (xv Z Z (xv Z Z (xv Z Z ?_)))))))))
 refine xv Z Z (xu Z (xz (.bool false) Z (xe ?_)))
 cases h
 exact ⟨(), wi [0, 1, 2] Z⟩
 intro _
 have h := h9453
 refine aw_cond (b := s9452) (tm Z) (fun hb9845 => ?_) (fun hb9845 => ?_)
 replace h := ite_t hb9845 h
 refine aw_exit ?_
 cases h
 exact ⟨n9029, wi [0, 1] Z⟩
 replace h := ite_fb hb9845 h
 refine aw_skip (aw_seq ?_)
 obtain ⟨s9460, s9460e, h9461⟩ := letO_of h
 refine aw_meet (ν := Unit) (fun v => [(1, .sl .no 9 (m1L l)), (2, .i i), (3, .ptr p4925 0), (7, .sl (.own n9029) 9 (m1L s9028.out)), (8, .bool s4927), (9, .i s9028.k), (10, .ptr p9443 0), (68, .bool s9460)]) (fun v => [(p4925, .cells [.sl .no 14 (m0L c_.Tenants), .i c_.Quantum, .i c_.Deadline]), (n9029, .spare), (p9443, .cells (api.Event.ct .no (ix l s9028.k)))]) ?_ ?_
 have h := s9460e.symm
 refine aw_region (xf (.ptr p9443 0) underlying40 sizeOf3 Z (xl 2 isAgg3 Z (xz (bd ((ix l s9028.k).Kind = 7)) Z (xy Z ?_))))
 rcases Bool.eq_false_or_eq_true (decide ((ix l s9028.k).Kind = 7)) with hb9463 | hb9463
 replace h := ite_t (dec_t hb9463) h
 refine aops_known 59 Z hb9463 (xq Z Z Z Z (xp (.bool (!s4927)) Z Z (pe Z) (xq Z Z Z Z ?_)))
 rcases Bool.eq_false_or_eq_true (!s4927) with hb9464 | hb9464
 replace h := ite_t hb9464 h
 refine aops_known 62 Z hb9464 (xu Z (xu Z (xu Z (xu Z (xp (.bool true) Z Z (pe Z) (xz (.bool true) Z (xe ?_)))))))
 subst h
 exact ⟨(), wi [0, 1, 2] Z⟩
 replace h := ite_fb hb9464 h
 refine aops_known 62 Z hb9464 (xp (.ptr p9443 4) Z Z (fa Z underlying40 Z sizeOf3 Z Z Z) (xg Z Z (op_load1 (i := 2) Z isAgg3 (tm Z) Z Z (xq Z Z Z Z (xp (bn ((ix l s9028.k).Tenant = i)) Z Z (pe Z) (xp (bn ((ix l s9028.k).Tenant = i)) Z Z (pe Z) (xz (bn ((ix l s9028.k).Tenant = i)) Z (xe ?_))))))))
 subst h
 exact ⟨(), wi [0, 1, 2] Z⟩
 replace h := ite_f (dec_f hb9463) h
 refine aops_known 59 Z hb9463 (xu Z (xu Z (xu Z (xv Z Z (xv Z Z (xv Z Z (xv Z Z (xu Z (xz (.bool false) Z ?_)))))))))
 refine xe ?_
 subst h
 exact ⟨(), wi [0, 1, 2] Z⟩
 intro _
 have h := h9461
 refine aw_cond (b := s9460) (tm Z) (fun hb9844 => ?_) (fun hb9844 => ?_)
 replace h := ite_t hb9844 h
 refine aw_exit ?_
 cases h
 exact ⟨n9029, wi [0, 1] Z⟩
 replace h := ite_fb hb9844 h
 refine aw_skip ?_
 obtain ⟨s9652, s9652e, h9653⟩ := bind_some h
 refine aw_meet (ν := Unit) (fun v => [(1, .sl .no 9 (m1L l)), (2, .i i), (3, .ptr p4925 0), (7, .sl (.own n9029) 9 (m1L s9028.out)), (8, .bool s4927), (9, .i s9028.k), (10, .ptr p9443 0)]) (fun v => [(p4925, .cells [.sl .no 14 (m0L c_.Tenants), .i c_.Quantum, .i c_.Deadline]), (n9029, .spare), (p9443, .cells (api.Event.ct .no { (ix l s9028.k) with Lefts := s9652 }))]) ?_ ?_
 have h := s9652e
 refine xr (xf (.ptr p9443 0) underlying40 sizeOf3 Z (xl 2 isAgg3 Z (xz (bd ((ix l s9028.k).Kind = 8)) Z (xe (cd h Z (fun _ h => ?_) (fun _ h => ?_))))))
 refine xr (xa (.sl .full 3 e0L) Z (pu_assign Z (AEv.nil 3 (by decide))) (xe ?_))
 obtain ⟨s9746, s9746e, h9748⟩ := bind_some h
 refine aw_meet (ν := Nat) (fun v => [(1, .sl .no 9 (m1L l)), (2, .i i), (3, .ptr p4925 0), (7, .sl (.own n9029) 9 (m1L s9028.out)), (8, .bool s4927), (9, .i s9028.k), (10, .ptr p9443 0), (11, .sl (.own v) 3 (m2L s9746))]) (fun v => [(p4925, .cells [.sl .no 14 (m0L c_.Tenants), .i c_.Quantum, .i c_.Deadline]), (n9029, .spare), (p9443, .cells (api.Event.ct .no (ix l s9028.k))), (v, .spare)]) ?_ ?_
 have h := s9746e
 refine xr (xz (.i 0) Z (xe (aw_block (aw_claim 11 (tm Z) fun t9840 => (aw_while (σ := mewsref49.Tenant.S2) (ν := Nat) (mewsref49.Tenant.body2 l s9028 s4927 i) (fun s9808 v => [(1, .sl .no 9 (m1L l)), (2, .i i), (3, .ptr p4925 0), (7, .sl (.own n9029) 9 (m1L s9028.out)), (8, .bool s4927), (9, .i s9028.k), (10, .ptr p9443 0), (11, .sl (.own v) 3 (m2L s9808.own)), (12, .i s9808.n)]) (fun s9808 v => [(p4925, .cells [.sl .no 14 (m0L c_.Tenants), .i c_.Quantum, .i c_.Deadline]), (n9029, .spare), (p9443, .cells (api.Event.ct .no (ix l s9028.k))), (v, .spare)]) ⟨([] : List api.Left), 0⟩ t9840 _ h (wi [1, 2, 3, 0] Z) ?_)))))
 rintro s9808 n9809 x9811 h hx9810
 unfold mewsref49.Tenant.body2 at h
 refine aw_seq (xr (xy Z (xf (.ptr p9443 8) underlying40 sizeOf38 Z (xl 2 isAgg38 Z (xa (.i ((ix l s9028.k).Lefts.length : Int)) Z (pu_lenM Z underlying38 (tm Z)) (xz (bd (s9808.n < ((ix l s9028.k).Lefts.length : Int))) Z (xe (cd h Z (fun _ h => ?_) (fun _ h => ?_)))))))))
 refine aw_skip ?_
 obtain ⟨s9824, s9824e, h9826⟩ := bind_some h
 refine aw_meet (ν := Nat) (fun v => [(1, .sl .no 9 (m1L l)), (2, .i i), (3, .ptr p4925 0), (7, .sl (.own n9029) 9 (m1L s9028.out)), (8, .bool s4927), (9, .i s9028.k), (10, .ptr p9443 0), (11, .sl (.own v) 3 (m2L s9824)), (12, .i s9808.n)]) (fun v => [(p4925, .cells [.sl .no 14 (m0L c_.Tenants), .i c_.Quantum, .i c_.Deadline]), (n9029, .spare), (p9443, .cells (api.Event.ct .no (ix l s9028.k))), (v, .spare)]) ?_ ?_
 have h := s9824e
 refine aw_block ?_
 obtain ⟨s9830, s9830e, h9831⟩ := bind_some h
 refine aw_meet (ν := Unit) (fun v => [(1, .sl .no 9 (m1L l)), (2, .i i), (3, .ptr p4925 0), (7, .sl (.own n9029) 9 (m1L s9028.out)), (8, .bool s4927), (9, .i s9028.k), (10, .ptr p9443 0), (11, .sl (.own n9809) 3 (m2L s9808.own)), (12, .i s9808.n), (89, .bool s9830)]) (fun v => [(p4925, .cells [.sl .no 14 (m0L c_.Tenants), .i c_.Quantum, .i c_.Deadline]), (n9029, .spare), (p9443, .cells (api.Event.ct .no (ix l s9028.k))), (n9809, .spare)]) ?_ ?_
 have h := s9830e
 refine aw_region (xy Z (xy Z ?_))
 rcases Bool.eq_false_or_eq_true s4927 with hb9833 | hb9833
 replace h := ite_t hb9833 h
 refine aops_known 80 Z hb9833 (xp (.ptr p9443 8) Z Z (fa Z underlying40 Z sizeOf38 Z Z Z) (xg Z Z (op_load1 (i := 2) Z isAgg38 (tm Z) Z Z (xq Z Z Z Z ?_))))
 obtain ⟨c9834, h⟩ := need_of h
 refine xp (.vptr [.i (ix (ix l s9028.k).Lefts s9808.n).Tenant, .str (ix (ix l s9028.k).Lefts s9808.n).Keep.Name, .i (ix (ix l s9028.k).Lefts s9808.n).Keep.Bytes]) Z Z (pu_indexAddrM Z underlying38 sizeOf52 (tm Z) (tm Z) c9834 Z) (xp (.vptr [.i (ix (ix l s9028.k).Lefts s9808.n).Tenant, .str (ix (ix l s9028.k).Lefts s9808.n).Keep.Name, .i (ix (ix l s9028.k).Lefts s9808.n).Keep.Bytes]) Z Z (fa Z underlying52 Z sizeOf3 Z Z Z) (xg Z Z (op_loadV1 Z isAgg3 (tm Z) Z (xq Z Z Z Z (xp (bd ((ix (ix l s9028.k).Lefts s9808.n).Tenant = i)) Z Z (pe Z) (xz (bd ((ix (ix l s9028.k).Lefts s9808.n).Tenant = i)) Z (xe ?_)))))))
 cases h
 exact ⟨(), wi [0, 1, 2, 3] Z⟩
 replace h := ite_fb hb9833 h
 refine aops_known 80 Z hb9833 (xu Z (xu Z (xu Z (xu Z (xu Z (xu Z (xu Z (xu Z (xz (.bool false) Z ?_)))))))))
 refine xe ?_
 cases h
 exact ⟨(), wi [0, 1, 2, 3] Z⟩
 intro _
 have h := h9831
 refine aw_cond (b := s9830) (tm Z) (fun hb9838 => ?_) (fun hb9838 => ?_)
 replace h := ite_t hb9838 h
 refine aw_region (xy Z (xf (.ptr p9443 8) underlying40 sizeOf38 Z (xl 2 isAgg38 Z (xy Z ?_))))
 obtain ⟨c9835, h⟩ := need_of h
 refine xa (.vptr [.i (ix (ix l s9028.k).Lefts s9808.n).Tenant, .str (ix (ix l s9028.k).Lefts s9808.n).Keep.Name, .i (ix (ix l s9028.k).Lefts s9808.n).Keep.Bytes]) Z (pu_indexAddrM Z underlying38 sizeOf52 (tm Z) (tm Z) c9835 Z) (xc Z (op_loadVN Z isAgg52 sizeOf52 (tm Z) (nb Z) Z (xc Z (op_buildSlice (xs := ([({ Tenant := (ix (ix l s9028.k).Lefts s9808.n).Tenant, Keep := ({ Name := (ix (ix l s9028.k).Lefts s9808.n).Keep.Name, Bytes := (ix (ix l s9028.k).Lefts s9808.n).Keep.Bytes } : api.Keep) } : api.Left)] : List api.Left).map api.Left.av) (aparts := [(0, .agg [.i (ix (ix l s9028.k).Lefts s9808.n).Tenant, .str (ix (ix l s9028.k).Lefts s9808.n).Keep.Name, .i (ix (ix l s9028.k).Lefts s9808.n).Keep.Bytes])]) Z underlying38 sizeOf52 zeroValue52 (by decide) (by decide) ⟨Z, (tm Z), trivial⟩ Z Z Z ?_))))
 obtain ⟨c9836, h⟩ := need_of h
 refine xc Z (op_appendOM (q := 3) Z underlying38 underlying38 (.inl Z) typeInfo52 Z Z Z (by decide) (tm Z) Z (given_sl (tm Z)) c9836 ?_)
 intro t9837
 refine xy Z (xe ?_)
 cases h
 exact ⟨t9837, wi [0, 1, 2, 3] Z⟩
 replace h := ite_fb hb9838 h
 refine aw_skip ?_
 cases h
 exact ⟨n9809, wi [0, 1, 2, 3] Z⟩
 intro n9825
 have h := h9826
 refine aw_region (xy Z (xz (.i (w64 (s9808.n + 1))) Z (xy Z (xe ?_))))
 cases h
 exact ⟨_, n9825, Z, wi [0, 1, 2, 3] Z⟩
 refine aw_exit ?_
 cases h
 cases congrArg some (hx9810 _ rfl)
 exact ⟨n9809, wi [0, 1, 2, 3] Z⟩
 intro n9747
 have h := h9748
 refine aw_region (xy Z (xf (.ptr p9443 8) underlying40 sizeOf38 Z (xs 2 (api.Event.ct (.own n9747) { (ix l s9028.k) with Lefts := s9746 }) sizeOf38 Z (xe ?_))))
 cases h
 exact ⟨(), wl [0, 1, 2] Z ⟨⟨_, Z, cr, Z⟩, ⟨_, Z, Z⟩, ⟨_, Z, ⟨vr, vr, vr, vr, vr, vr, vr, vr, (AV.Le.forget _ _ _), trivial⟩, Z⟩, trivial⟩ ⟨tm Z, tm Z, tm Z, tm Z, tm Z, tm Z, tm Z, trivial⟩⟩
 refine aw_skip ?_
 cases h
 exact ⟨(), wi [0, 1, 2] Z⟩
 intro _
 have h := h9653
 refine aw_region (xy Z (xL 2 isAgg40 sizeOf40 Z (xc Z (op_buildSlice (xs := ([{ (ix l s9028.k) with Lefts := s9652 }] : List api.Event).map api.Event.av) (aparts := [(0, .agg (api.Event.ct .no { (ix l s9028.k) with Lefts := s9652 }))]) Z underlying25 sizeOf40 zeroValue40 (by decide) (by decide) ⟨Z, (tm Z), trivial⟩ Z Z Z ?_))))
 obtain ⟨c9842, h⟩ := need_of h
 refine xc Z (op_appendOM (q := 1) Z underlying25 underlying25 (.inl Z) typeInfo40 Z Z Z (by decide) (tm Z) Z (given_sl (tm Z)) c9842 ?_)
 intro t9843
 refine xy Z (xe ?_)
 cases h
 exact ⟨t9843, wi [0, 1] Z⟩
 intro n9439
 have h := h9440
 refine aw_region (xy Z (xz (.i (w64 (s9028.k + 1))) Z (xy Z (xe ?_))))
 cases h
 exact ⟨_, n9439, Z, wi [0, 1] Z⟩
 refine aw_exit ?_
 cases h
 cases congrArg some (hx9030 _ rfl)
 exact ⟨n9029, wi [1] Z⟩
 intro n7389
 have h := h7390
 refine xr (xy Z (xy Z (xe (aw_ret ?_))))
 cases h
 exact rt ⟨n7389, Z, Z⟩ Z (wi [0] Z)

theorem mewsref47.Same.ok {a b r} (h : mewsref47.Same a b = some r) : Sp prog 18 [.agg (api.Event.ct .no a), .agg (api.Event.ct .no b)] [] (fun v H => v = .bool r ∧ H = []) := by
 unfold mewsref47.Same at h
 refine sb [.tmp 4] func18 Z (xr (xb (api.Event.ct .no a) Z fun p57 => xb (api.Event.ct .no b) Z fun p58 => xz (.bool false) Z (xe (aw_seq (xr (xf (.ptr p57 8) underlying40 sizeOf38 Z (xl 1 isAgg38 Z (xa (.i (a.Lefts.length : Int)) Z (pu_lenM Z underlying38 (tm Z)) (xf (.ptr p58 8) underlying40 sizeOf38 Z (xl 0 isAgg38 Z ?_))))))))))
 refine xa (.i (b.Lefts.length : Int)) Z (pu_lenM Z underlying38 (tm Z)) (xz (bn ((a.Lefts.length : Int) = (b.Lefts.length : Int))) Z (xe (cn h Z (fun _ h => ?_) (fun _ h => ?_))))
 refine xr (xz (.bool false) Z (xe (aw_ret ?_)))
 cases h
 exact rt ⟨Z, Z⟩ Z w0
 refine aw_skip ?_
 obtain ⟨s111, s111e, h78⟩ := bind_some h
 refine aw_join (σ := Unit) (ν := Unit) (fun u v => [(2, .ptr p57 0), (3, .ptr p58 0)]) (fun u v => [(p57, .cells (api.Event.ct .no a)), (p58, .cells (api.Event.ct .no b))]) (fun u => s111 = .inl u) ?_ ?_
 intro s77
 intro _
 rintro rfl
 have h := onSum_inl h78
 obtain ⟨s103, s103e, h104⟩ := letO_of h
 refine aw_meet (ν := Unit) (fun v => [(4, .bool s103)]) (fun v => []) ?_ ?_
 have h := s103e.symm
 refine aw_region (xf (.ptr p57 0) underlying40 sizeOf3 Z (xl 0 isAgg3 Z (xf (.ptr p58 0) underlying40 sizeOf3 Z (xl 1 isAgg3 Z (xz (bd (a.Kind = b.Kind)) Z (xy Z ?_))))))
 rcases Bool.eq_false_or_eq_true (decide (a.Kind = b.Kind)) with hb106 | hb106
 replace h := ite_t (dec_t hb106) h
 refine aops_known 36 Z hb106 (xp (.ptr p57 1) Z Z (fa Z underlying40 Z sizeOf3 Z Z Z) (xg Z Z (op_load1 (i := 0) Z isAgg3 (tm Z) Z Z (xp (.ptr p58 1) Z Z (fa Z underlying40 Z sizeOf3 Z Z Z) (xg Z Z (op_load1 (i := 1) Z isAgg3 (tm Z) Z Z (xp (bd (a.Handle = b.Handle)) Z Z (pe Z) (xz (bd (a.Handle = b.Handle)) Z (xy Z ?_)))))))))
 rcases Bool.eq_false_or_eq_true (decide (a.Handle = b.Handle)) with hb107 | hb107
 replace h := ite_t (dec_t hb107) h
 refine aops_known 43 Z hb107 (xp (.ptr p57 2) Z Z (fa Z underlying40 Z sizeOf9 Z Z Z) (xg Z Z (op_load1 (i := 0) Z isAgg9 (tm Z) Z Z (xp (.ptr p58 2) Z Z (fa Z underlying40 Z sizeOf9 Z Z Z) (xg Z Z (op_load1 (i := 1) Z isAgg9 (tm Z) Z Z (xp (bd (a.S = b.S)) Z Z (pu_str (v := bd (a.S = b.S)) Z Z (tm Z) (tm Z) Z) (xz (bd (a.S = b.S)) Z (xy Z ?_)))))))))
 rcases Bool.eq_false_or_eq_true (decide (a.S = b.S)) with hb108 | hb108
 replace h := ite_t (dec_t hb108) h
 refine aops_known 50 Z hb108 (xp (.ptr p57 3) Z Z (fa Z underlying40 Z sizeOf2 Z Z Z) (xg Z Z (op_load1 (i := 0) Z isAgg2 (tm Z) Z Z (xp (.ptr p58 3) Z Z (fa Z underlying40 Z sizeOf2 Z Z Z) (xg Z Z (op_load1 (i := 1) Z isAgg2 (tm Z) Z Z (xp (bd (a.N = b.N)) Z Z (pe Z) (xz (bd (a.N = b.N)) Z (xy Z ?_)))))))))
 rcases Bool.eq_false_or_eq_true (decide (a.N = b.N)) with hb109 | hb109
 replace h := ite_t (dec_t hb109) h
 refine aops_known 57 Z hb109 (xp (.ptr p57 4) Z Z (fa Z underlying40 Z sizeOf3 Z Z Z) (xg Z Z (op_load1 (i := 0) Z isAgg3 (tm Z) Z Z (xp (.ptr p58 4) Z Z (fa Z underlying40 Z sizeOf3 Z Z Z) (xg Z Z (op_load1 (i := 1) Z isAgg3 (tm Z) Z Z (xp (bd (a.Tenant = b.Tenant)) Z Z (pe Z) (xz (bd (a.Tenant = b.Tenant)) Z (xy Z ?_)))))))))
 rcases Bool.eq_false_or_eq_true (decide (a.Tenant = b.Tenant)) with hb110 | hb110
 replace h := ite_t (dec_t hb110) h
 refine aops_known 64 Z hb110 (xp (.ptr p57 5) Z Z (fa Z underlying40 Z sizeOf37 Z Z Z) (xg Z Z (op_loadN (i := 0) Z isAgg37 sizeOf37 (tm Z) Z (nb Z) Z (xp (.ptr p58 5) Z Z (fa Z underlying40 Z sizeOf37 Z Z Z) (xg Z Z (op_loadN (i := 1) Z isAgg37 sizeOf37 (tm Z) Z (nb Z) Z (xp (bd (a.Fault = b.Fault)) Z Z (APure.eq (pu_structEq (b := (decide (a.Fault.Name = b.Fault.Name) && (decide (a.Fault.Kind = b.Fault.Kind) && (decide (a.Fault.Short = b.Fault.Short) && true)))) Z underlying37 (by kernel_rfl) (by kernel_rfl) (tm Z) (tm Z) ⟨_, _, _, _, ⟨by decide, isAgg9, Z, Z, CEq.str underlying9⟩, ⟨_, _, _, _, ⟨by decide, isAgg3, Z, Z, CEq.int underlying3⟩, ⟨_, _, _, _, ⟨by decide, isAgg3, Z, Z, CEq.int underlying3⟩, Z, Z⟩, Z⟩, Z⟩) (congrArg AV.bool (api.Fault.eq_iff a.Fault b.Fault).symm)) (xz (bd (a.Fault = b.Fault)) Z (xy Z (xe ?_))))))))))
 subst h
 exact ⟨(), wi [] Z⟩
 replace h := ite_f (dec_f hb110) h
 refine aops_known 64 Z hb110 (xu Z (xu Z (xu Z (xu Z (xu Z (xz (.bool false) Z (xy Z (xe ?_))))))))
 subst h
 exact ⟨(), wi [] Z⟩
 replace h := ite_f (dec_f hb109) h
 refine aops_known 57 Z hb109 (xu Z (xu Z (xu Z (xu Z (xu Z (xz (.bool false) Z (xy Z (xu Z (xu Z ?_)))))))))
 refine xu Z (xu Z (xu Z (xz (.bool false) Z (xy Z (xe ?_)))))
 subst h
 exact ⟨(), wi [] Z⟩
 replace h := ite_f (dec_f hb108) h
 refine aops_known 50 Z hb108 (xu Z (xu Z (xu Z (xu Z (xu Z (xz (.bool false) Z (xy Z (xu Z (xu Z ?_)))))))))
 refine xu Z (xu Z (xu Z (xz (.bool false) Z (xy Z (xu Z (xu Z (xu Z (xu Z (xu Z ?_)))))))))
 refine xz (.bool false) Z (xy Z (xe ?_))
 subst h
 exact ⟨(), wi [] Z⟩
 replace h := ite_f (dec_f hb107) h
 refine aops_known 43 Z hb107 (xu Z (xu Z (xu Z (xu Z (xu Z (xz (.bool false) Z (xy Z (xu Z (xu Z ?_)))))))))
 refine xu Z (xu Z (xu Z (xz (.bool false) Z (xy Z (xu Z (xu Z (xu Z (xu Z (xu Z ?_)))))))))
 refine xz (.bool false) Z (xy Z (xu Z (xu Z (xu Z (xu Z (xu Z (xz (.bool false) Z (xy Z (xe ?_)))))))))
 subst h
 exact ⟨(), wi [] Z⟩
 replace h := ite_f (dec_f hb106) h
 refine aops_known 36 Z hb106 (xu Z (xu Z (xu Z (xu Z (xu Z (xz (.bool false) Z (xy Z (xu Z (xu Z ?_)))))))))
 refine xu Z (xu Z (xu Z (xz (.bool false) Z (xy Z (xu Z (xu Z (xu Z (xu Z (xu Z ?_)))))))))
 refine xz (.bool false) Z (xy Z (xu Z (xu Z (xu Z (xu Z (xu Z (xz (.bool false) Z (xy Z (xu Z ?_)))))))))
 refine xu Z (xu Z (xu Z (xu Z (xz (.bool false) Z (xy Z (xe ?_))))))
 subst h
 exact ⟨(), wi [] Z⟩
 intro _
 have h := h104
 refine aw_ret ?_
 cases h
 exact rt ⟨Z, Z⟩ Z w0
 have h := s111e
 refine xr (xz (.i 0) Z (xe (aw_block (aw_while (σ := mewsref47.Same.S0) (ν := Unit) (mewsref47.Same.body0 a b) (fun s90 v => [(2, .ptr p57 0), (3, .ptr p58 0), (5, .i s90.i)]) (fun s90 v => [(p57, .cells (api.Event.ct .no a)), (p58, .cells (api.Event.ct .no b))]) ⟨0⟩ () _ h (wi [1, 0] Z) ?_))))
 rintro s90 _ x92 h hx91
 unfold mewsref47.Same.body0 at h
 refine aw_seq (xr (xy Z (xf (.ptr p57 8) underlying40 sizeOf38 Z (xl 0 isAgg38 Z (xa (.i (a.Lefts.length : Int)) Z (pu_lenM Z underlying38 (tm Z)) (xz (bd (s90.i < (a.Lefts.length : Int))) Z (xe (cd h Z (fun _ h => ?_) (fun _ h => ?_)))))))))
 refine aw_skip (aw_seq (aw_block (aw_seq ?_)))
 obtain ⟨c94, h⟩ := need_of h
 obtain ⟨c95, h⟩ := need_of h
 refine aw_planR (by decide +kernel) [[], [(0, 0, false)], [], [], [], [], [(1, 0, false)], [], [], [], []] [[], []] [[[(p57, .cells (api.Event.ct .no a))]], [[(p58, .cells (api.Event.ct .no b))]]] [.ptr p57 8, .sl .no 3 (m2L a.Lefts), .i s90.i, .vptr [.i (ix a.Lefts s90.i).Tenant, .str (ix a.Lefts s90.i).Keep.Name, .i (ix a.Lefts s90.i).Keep.Bytes], .agg [.i (ix a.Lefts s90.i).Tenant, .str (ix a.Lefts s90.i).Keep.Name, .i (ix a.Lefts s90.i).Keep.Bytes], .ptr p58 8, .sl .no 3 (m2L b.Lefts), .i s90.i, .vptr [.i (ix b.Lefts s90.i).Tenant, .str (ix b.Lefts s90.i).Keep.Name, .i (ix b.Lefts s90.i).Keep.Bytes], .agg [.i (ix b.Lefts s90.i).Tenant, .str (ix b.Lefts s90.i).Keep.Name, .i (ix b.Lefts s90.i).Keep.Bytes], bn ((ix a.Lefts s90.i) = (ix b.Lefts s90.i))] (by decide +kernel) Z Z ?_ ?_
 exact ⟨yp Z (fa Z underlying40 Z sizeOf38 Z Z Z), stepg_plain Z (op_load1 (i := 0) Z isAgg38 (tm Z) Z Z ⟨Z, Z⟩), ym Z Z Z, yp Z (pu_indexAddrM Z underlying38 sizeOf52 (tm Z) (tm Z) c94 Z), stepg_plain Z (op_loadVN Z isAgg52 sizeOf52 (tm Z) (nb Z) Z ⟨Z, Z⟩), yp Z (fa Z underlying40 Z sizeOf38 Z Z Z), stepg_plain Z (op_load1 (i := 0) Z isAgg38 (tm Z) Z Z ⟨Z, Z⟩), ym Z Z Z, yp Z (pu_indexAddrM Z underlying38 sizeOf52 (tm Z) (tm Z) c95 Z), stepg_plain Z (op_loadVN Z isAgg52 sizeOf52 (tm Z) (nb Z) Z ⟨Z, Z⟩), yp Z (pu_neV Z (by kernel_rfl) (tm Z) (tm Z) (VEq.eq (VEq.struct (k := 2) underlying52 (by kernel_rfl) ⟨_, _, _, _, ⟨by decide, .inl ⟨isAgg3, Z⟩, .inl ⟨isAgg3, Z⟩, (VEq.of (CEq.int underlying3))⟩, ⟨_, _, _, _, ⟨by decide, .inr ⟨2, isAgg50, sizeOf50, Nat.le_of_ble_eq_true Z, Z⟩, .inr ⟨2, isAgg50, sizeOf50, Nat.le_of_ble_eq_true Z, Z⟩, (VEq.eq (VEq.struct (k := 1) underlying50 (by kernel_rfl) ⟨_, _, _, _, ⟨by decide, .inl ⟨isAgg9, Z⟩, .inl ⟨isAgg9, Z⟩, (VEq.of (CEq.str underlying9))⟩, ⟨_, _, _, _, ⟨by decide, .inl ⟨isAgg3, Z⟩, .inl ⟨isAgg3, Z⟩, (VEq.of (CEq.int underlying3))⟩, Z, Z⟩, Z⟩) (api.Keep.eq_iff (ix a.Lefts s90.i).Keep (ix b.Lefts s90.i).Keep))⟩, Z, Z⟩, Z⟩) (api.Left.eq_iff (ix a.Lefts s90.i) (ix b.Lefts s90.i))) (by decide)), trivial⟩
 refine aw_cond (b := (!decide ((ix a.Lefts s90.i) = (ix b.Lefts s90.i)))) (tm Z) (fun hb96 => ?_) (fun hb96 => ?_)
 replace h := ite_f (ndec_t hb96) h
 refine xr (xz (.bool false) Z (xe (aw_ret ?_)))
 cases h
 cases congrArg some (hx91 _ rfl)
 cases onSum_inr h78
 exact rt ⟨Z, Z⟩ Z w0
 replace h := ite_t (ndec_f hb96) h
 refine aw_skip (aw_region (xy Z (xz (.i (w64 (s90.i + 1))) Z (xy Z (xe ?_)))))
 cases h
 exact ⟨_, (), Z, wi [0, 1] Z⟩
 refine aw_exit ?_
 cases h
 have h := congrArg some (hx91 _ rfl)
 exact ⟨(), (), (some_of h).symm, wi [0, 1] Z⟩

theorem mewsref48.Same.ok {a b r} (h : mewsref48.Same a b = some r) : Sp prog 9 [.sl .no 9 (m1L a), .sl .no 9 (m1L b)] [] (fun v H => v = .bool r ∧ H = []) := by
 unfold mewsref48.Same at h
 refine sb [.tmp 4] func9 Z (xr (xz (.bool false) Z (xe (aw_seq (xr (xy Z (xa (.i (a.length : Int)) Z (pu_lenM Z underlying25 (tm Z)) ?_)))))))
 refine xy Z (xa (.i (b.length : Int)) Z (pu_lenM Z underlying25 (tm Z)) (xz (bn ((a.length : Int) = (b.length : Int))) Z (xe (cn h Z (fun _ h => ?_) (fun _ h => ?_)))))
 refine xr (xz (.bool false) Z (xe (aw_ret ?_)))
 cases h
 exact rt ⟨Z, Z⟩ Z w0
 refine aw_skip ?_
 obtain ⟨s93, s93e, h70⟩ := bind_some h
 refine aw_join (σ := Unit) (ν := Unit) (fun u v => []) (fun u v => []) (fun u => s93 = .inl u) ?_ ?_
 intro s69
 intro _
 rintro rfl
 have h := onSum_inl h70
 refine xr (xz (.bool true) Z (xe (aw_ret ?_)))
 cases h
 exact rt ⟨Z, Z⟩ Z w0
 have h := s93e
 refine xr (xz (.i 0) Z (xe (aw_block (aw_while (σ := mewsref48.Same.S0) (ν := Unit) (mewsref48.Same.body0 a b) (fun s84 v => [(0, .sl .no 9 (m1L a)), (1, .sl .no 9 (m1L b)), (5, .i s84.i)]) (fun s84 v => []) ⟨0⟩ () _ h (wi [] Z) ?_))))
 rintro s84 _ x86 h hx85
 unfold mewsref48.Same.body0 at h
 refine aw_seq (xr (xy Z (xy Z (xa (.i (a.length : Int)) Z (pu_lenM Z underlying25 (tm Z)) (xz (bd (s84.i < (a.length : Int))) Z (xe (cd h Z (fun _ h => ?_) (fun _ h => ?_))))))))
 refine aw_skip (aw_seq (aw_block (aw_seq ?_)))
 obtain ⟨c88, h⟩ := need_of h
 obtain ⟨c89, h⟩ := need_of h
 obtain ⟨r90, r90e, h⟩ := bind_some h
 refine aw_planR (by decide +kernel) [[], [], [], [], [], [], [], [], [], []] [] [] [.sl .no 9 (m1L a), .i s84.i, .vptr [.i (ix a s84.i).Kind, .i (ix a s84.i).Handle, .str (ix a s84.i).S, .i (ix a s84.i).N, .i (ix a s84.i).Tenant, .str (ix a s84.i).Fault.Name, .i (ix a s84.i).Fault.Kind, .i (ix a s84.i).Fault.Short, .sl .no 3 (m2L (ix a s84.i).Lefts)], .agg (api.Event.ct .no (ix a s84.i)), .sl .no 9 (m1L b), .i s84.i, .vptr [.i (ix b s84.i).Kind, .i (ix b s84.i).Handle, .str (ix b s84.i).S, .i (ix b s84.i).N, .i (ix b s84.i).Tenant, .str (ix b s84.i).Fault.Name, .i (ix b s84.i).Fault.Kind, .i (ix b s84.i).Fault.Short, .sl .no 3 (m2L (ix b s84.i).Lefts)], .agg (api.Event.ct .no (ix b s84.i)), .bool r90, .bool (!r90)] (by decide +kernel) Z Z ?_ ?_
 exact ⟨ym Z Z Z, ym Z Z Z, yp Z (pu_indexAddrM Z underlying25 sizeOf40 (tm Z) (tm Z) c88 Z), stepg_plain Z (op_loadVN Z isAgg40 sizeOf40 (tm Z) (nb Z) Z ⟨Z, Z⟩), ym Z Z Z, ym Z Z Z, yp Z (pu_indexAddrM Z underlying25 sizeOf40 (tm Z) (tm Z) c89 Z), stepg_plain Z (op_loadVN Z isAgg40 sizeOf40 (tm Z) (nb Z) Z ⟨Z, Z⟩), stepg_plain Z (op_call (vs := [.agg (api.Event.ct .no (ix a s84.i)), .agg (api.Event.ct .no (ix b s84.i))]) (H := []) Z call18 ⟨(tm Z), (tm Z), trivial⟩ (R := []) (List.Perm.refl _) (mewsref47.Same.ok r90e) (by rintro _ _ ⟨rfl, rfl⟩; exact ⟨Z, Z⟩)), yp Z (pe Z), trivial⟩
 refine aw_cond (b := (!r90)) (tm Z) (fun hb91 => ?_) (fun hb91 => ?_)
 replace h := ite_t hb91 h
 refine xr (xz (.bool false) Z (xe (aw_ret ?_)))
 cases h
 cases congrArg some (hx85 _ rfl)
 cases onSum_inr h70
 exact rt ⟨Z, Z⟩ Z w0
 replace h := ite_fb hb91 h
 refine aw_skip (aw_region (xy Z (xz (.i (w64 (s84.i + 1))) Z (xy Z (xe ?_)))))
 cases h
 exact ⟨_, (), Z, wi [] Z⟩
 refine aw_exit ?_
 cases h
 have h := congrArg some (hx85 _ rfl)
 exact ⟨(), (), (some_of h).symm, w0⟩

theorem mewslaw49.ProjectSays.ok {c_ l i handle r} (h : mewslaw49.ProjectSays c_ l i handle = some r) : Sp prog 3 [.agg [.sl .no 14 (m0L c_.Tenants), .i c_.Quantum, .i c_.Deadline], .sl .no 9 (m1L l), .i i, .i handle] [] (fun v H => v = .bool r ∧ H = []) := by
 unfold mewslaw49.ProjectSays at h
 refine sb [.tmp 8] func3 Z (xr (xb [.sl .no 14 (m0L c_.Tenants), .i c_.Quantum, .i c_.Deadline] Z fun p77 => xz (.bool false) Z (xe (aw_seq (xr (xL 0 isAgg24 sizeOf24 Z (xy Z ?_)))))))
 obtain ⟨r78, r78e, h⟩ := bind_some h
 refine xo (mewslaw46.Far.ok r78e) call4 Z (xe (cb h Z (fun _ h => ?_) (fun _ h => ?_)))
 refine aw_seq (aw_region ?_)
 obtain ⟨r79, r79e, h⟩ := bind_some h
 refine xo (mewslaw49.alive.ok r79e) call5 Z (xy Z (xe (aw_ret ?_)))
 cases h
 exact rt ⟨Z, Z⟩ Z w0
 refine aw_skip (aw_seq ?_)
 obtain ⟨r80, r80e, h⟩ := bind_some h
 obtain ⟨r82, r82e, h⟩ := bind_some h
 refine aw_reserve fun p81 => (aw_reserve fun p83 => (aw_planR (by decide +kernel) [[(2, 0, false)], [], [(1, 0, true)], [(2, 0, false)], [], [(0, 0, true)], [], []] [[5], [2], []] [[[(p83, .resv)], [(p83, .spare)]], [[(p81, .resv)], [(p81, .spare)]], [[(p77, .cells [.sl .no 14 (m0L c_.Tenants), .i c_.Quantum, .i c_.Deadline])]]] [.agg [.sl .no 14 (m0L c_.Tenants), .i c_.Quantum, .i c_.Deadline], .sl .no 9 (m1L l), .sl (.own p81) 2 (m6L r80), .agg [.sl .no 14 (m0L c_.Tenants), .i c_.Quantum, .i c_.Deadline], .sl .no 9 (m1L l), .sl (.own p83) 2 (m6L r82), .sl (.own p81) 2 (m6L r80), .sl (.own p83) 2 (m6L r82)] (by decide +kernel) Z Z ?_ ?_))
 exact ⟨stepg_plain Z (op_loadN (i := 0) Z isAgg24 sizeOf24 (tm Z) Z (nb Z) Z ⟨Z, Z⟩), ym Z Z Z, stepg_plain Z (aop_settleS (op_call (vs := [.agg [.sl .no 14 (m0L c_.Tenants), .i c_.Quantum, .i c_.Deadline], .sl .no 9 (m1L l)]) (H := []) (R := [(p81, .resv)]) Z call6 ⟨(tm Z), (tm Z), trivial⟩ (List.Perm.refl _) (project.Labels.ok r80e) (by rintro _ _ ⟨t, rfl, rfl⟩; exact ⟨t, Z, Z⟩)) ⟨Z, Z⟩), stepg_plain Z (op_loadN (i := 0) Z isAgg24 sizeOf24 (tm Z) Z (nb Z) Z ⟨Z, Z⟩), ym Z Z Z, stepg_plain Z (aop_settleS (op_call (vs := [.agg [.sl .no 14 (m0L c_.Tenants), .i c_.Quantum, .i c_.Deadline], .sl .no 9 (m1L l)]) (H := []) (R := [(p83, .resv)]) Z call7 ⟨(tm Z), (tm Z), trivial⟩ (List.Perm.refl _) (mewsref49.Labels.ok r82e) (by rintro _ _ ⟨t, rfl, rfl⟩; exact ⟨t, Z, Z⟩)) ⟨Z, Z⟩), ym Z Z Z, ym Z Z Z, trivial⟩
 refine aw_seq (xr (xy Z (xa (.i (r80.length : Int)) Z (pu_lenM Z underlying28 (tm Z)) (xy Z (xa (.i (r82.length : Int)) Z (pu_lenM Z underlying28 (tm Z)) (xz (bn ((r80.length : Int) = (r82.length : Int))) Z (xe (cn h Z (fun _ h => ?_) (fun _ h => ?_)))))))))
 refine xr (xz (.bool false) Z (xe (aw_ret ?_)))
 cases h
 exact rt ⟨Z, Z⟩ Z w0
 refine aw_skip ?_
 obtain ⟨s150, s150e, h103⟩ := bind_some h
 refine aw_join (σ := Unit) (ν := Unit) (fun u v => [(1, .sl .no 9 (m1L l)), (2, .i i), (3, .i handle), (4, .ptr p77 0)]) (fun u v => [(p77, .cells [.sl .no 14 (m0L c_.Tenants), .i c_.Quantum, .i c_.Deadline])]) (fun u => s150 = .inl u) ?_ ?_
 intro s102
 intro _
 rintro rfl
 have h := onSum_inl h103
 refine xr (xL 0 isAgg24 sizeOf24 Z (xy Z (xy Z ?_)))
 obtain ⟨r123, r123e, h⟩ := bind_some h
 refine xk (mewsref49.Tenant.ok r123e) call8 Z ?_
 rintro _ _ ⟨t124, rfl, rfl⟩
 refine xy Z (xe ?_)
 obtain ⟨s136, s136e, h137⟩ := bind_some h
 refine aw_meet (ν := Unit) (fun v => [(8, .bool s136)]) (fun v => []) ?_ ?_
 have h := s136e
 obtain ⟨r139, r139e, h⟩ := bind_some h
 obtain ⟨r141, r141e, h⟩ := bind_some h
 rcases Bool.eq_false_or_eq_true r141 with hb142 | hb142
 replace h := ite_t hb142 h
 obtain ⟨r143, r143e, h⟩ := bind_some h
 obtain ⟨r144, r144e, h⟩ := bind_some h
 rcases Bool.eq_false_or_eq_true (decide (r143 = r144)) with hb145 | hb145
 replace h := ite_t (dec_t hb145) h
 obtain ⟨r146, r146e, h⟩ := bind_some h
 obtain ⟨r147, r147e, h⟩ := bind_some h
 rcases Bool.eq_false_or_eq_true (r146 == r147) with hb148 | hb148
 replace h := ite_t hb148 h
 obtain ⟨r149, r149e, h⟩ := bind_some h
 refine aw_reserve fun p140 => (aw_planR (by decide +kernel) [[(2, 0, false)], [], [], [(0, 0, true)], [], [], [], [(2, 0, false)], [], [], [], [(2, 0, false)], [], [], [], [], [], [], [], [], [], [], [], [], [], [], [], [], [], []] [[3], [], []] [[[(p140, .resv)], [(p140, .spare)]], [[(t124, .spare)]], [[(p77, .cells [.sl .no 14 (m0L c_.Tenants), .i c_.Quantum, .i c_.Deadline])]]] [.agg [.sl .no 14 (m0L c_.Tenants), .i c_.Quantum, .i c_.Deadline], .sl .no 9 (m1L l), .i i, .sl (.own p140) 9 (m1L r139), .sl (.own t124) 9 (m1L r123), .bool r141, .bool true, .agg [.sl .no 14 (m0L c_.Tenants), .i c_.Quantum, .i c_.Deadline], .sl .no 9 (m1L l), .i handle, .i r143, .agg [.sl .no 14 (m0L c_.Tenants), .i c_.Quantum, .i c_.Deadline], .sl .no 9 (m1L l), .i handle, .i r144, bd (r143 = r144), bd (r143 = r144), .bool true, .sl .no 9 (m1L l), .sl (.own t124) 9 (m1L r123), .bool r146, .sl .no 9 (m1L l), .sl (.own t124) 9 (m1L r123), .bool r147, .bool (r146 == r147), .bool (r146 == r147), .bool true, .bool r149, .bool r149, .bool r149] (by decide +kernel) Z Z ?_ ?_)
 exact ⟨stepg_plain Z (op_loadN (i := 0) Z isAgg24 sizeOf24 (tm Z) Z (nb Z) Z ⟨Z, Z⟩), ym Z Z Z, ym Z Z Z, stepg_plain Z (aop_settleS (op_call (vs := [.agg [.sl .no 14 (m0L c_.Tenants), .i c_.Quantum, .i c_.Deadline], .sl .no 9 (m1L l), .i i]) (H := []) (R := [(p140, .resv)]) Z call10 ⟨(tm Z), (tm Z), (tm Z), trivial⟩ (List.Perm.refl _) (project.Tenant.ok r139e) (by rintro _ _ ⟨t, rfl, rfl⟩; exact ⟨t, Z, Z⟩)) ⟨Z, Z⟩), ym Z Z Z, stepg_plain Z (op_call (vs := [.sl .no 9 (m1L r139), .sl .no 9 (m1L r123)]) (H := []) Z call9 ⟨(AEv.le (tm Z) (AV.Le.forget _ _ _)), (AEv.le (tm Z) (AV.Le.forget _ _ _)), trivial⟩ (R := []) (List.Perm.refl _) (mewsref48.Same.ok r141e) (by rintro _ _ ⟨rfl, rfl⟩; exact ⟨Z, Z⟩)), AStepG.cast (ym Z Z Z) (congrArg AV.bool hb142), yg Z Z (op_loadN (i := 0) Z isAgg24 sizeOf24 (tm Z) Z (nb Z) Z ⟨Z, Z⟩), yq Z Z (pe Z), yq Z Z (pe Z), yg Z Z (op_call (vs := [.agg [.sl .no 14 (m0L c_.Tenants), .i c_.Quantum, .i c_.Deadline], .sl .no 9 (m1L l), .i handle]) (H := []) Z call11 ⟨(tm Z), (tm Z), (tm Z), trivial⟩ (R := []) (List.Perm.refl _) (project.Of.ok r143e) (by rintro _ _ ⟨rfl, rfl⟩; exact ⟨Z, Z⟩)), yg Z Z (op_loadN (i := 0) Z isAgg24 sizeOf24 (tm Z) Z (nb Z) Z ⟨Z, Z⟩), yq Z Z (pe Z), yq Z Z (pe Z), yg Z Z (op_call (vs := [.agg [.sl .no 14 (m0L c_.Tenants), .i c_.Quantum, .i c_.Deadline], .sl .no 9 (m1L l), .i handle]) (H := []) Z call12 ⟨(tm Z), (tm Z), (tm Z), trivial⟩ (R := []) (List.Perm.refl _) (mewsref49.Of.ok r144e) (by rintro _ _ ⟨rfl, rfl⟩; exact ⟨Z, Z⟩)), yq Z Z (pe Z), yp Z (pe Z), AStepG.cast (ym Z Z Z) (congrArg AV.bool hb145), yq Z Z (pe Z), yq Z Z (pe Z), yg Z Z (op_call (vs := [.sl .no 9 (m1L l), .sl .no 9 (m1L r123)]) (H := []) Z call13 ⟨(tm Z), (AEv.le (tm Z) (AV.Le.forget _ _ _)), trivial⟩ (R := []) (List.Perm.refl _) (project.Same.ok r146e) (by rintro _ _ ⟨rfl, rfl⟩; exact ⟨Z, Z⟩)), yq Z Z (pe Z), yq Z Z (pe Z), yg Z Z (op_call (vs := [.sl .no 9 (m1L l), .sl .no 9 (m1L r123)]) (H := []) Z call9 ⟨(tm Z), (AEv.le (tm Z) (AV.Le.forget _ _ _)), trivial⟩ (R := []) (List.Perm.refl _) (mewsref48.Same.ok r147e) (by rintro _ _ ⟨rfl, rfl⟩; exact ⟨Z, Z⟩)), yq Z Z (pu_boolEq Z underlying4 (tm Z) (tm Z)), yp Z (pe Z), AStepG.cast (ym Z Z Z) (congrArg AV.bool hb148), yg Z Z (op_call (vs := []) (H := []) Z call5 trivial (R := []) (List.Perm.refl _) (mewslaw49.alive.ok r149e) (by rintro _ _ ⟨rfl, rfl⟩; exact ⟨Z, Z⟩)), yp Z (pe Z), ym Z Z Z, trivial⟩
 cases h
 exact ⟨(), wi [] Z⟩
 replace h := ite_fb hb148 h
 refine aw_reserve fun p140 => (aw_planR (by decide +kernel) [[(2, 0, false)], [], [], [(0, 0, true)], [], [], [], [(2, 0, false)], [], [], [], [(2, 0, false)], [], [], [], [], [], [], [], [], [], [], [], [], [], [], [], [], [], []] [[3], [], []] [[[(p140, .resv)], [(p140, .spare)]], [[(t124, .spare)]], [[(p77, .cells [.sl .no 14 (m0L c_.Tenants), .i c_.Quantum, .i c_.Deadline])]]] [.agg [.sl .no 14 (m0L c_.Tenants), .i c_.Quantum, .i c_.Deadline], .sl .no 9 (m1L l), .i i, .sl (.own p140) 9 (m1L r139), .sl (.own t124) 9 (m1L r123), .bool r141, .bool true, .agg [.sl .no 14 (m0L c_.Tenants), .i c_.Quantum, .i c_.Deadline], .sl .no 9 (m1L l), .i handle, .i r143, .agg [.sl .no 14 (m0L c_.Tenants), .i c_.Quantum, .i c_.Deadline], .sl .no 9 (m1L l), .i handle, .i r144, bd (r143 = r144), bd (r143 = r144), .bool true, .sl .no 9 (m1L l), .sl (.own t124) 9 (m1L r123), .bool r146, .sl .no 9 (m1L l), .sl (.own t124) 9 (m1L r123), .bool r147, .bool (r146 == r147), .bool (r146 == r147), .bool false, .lit undef, .bool false, .bool false] (by decide +kernel) Z Z ?_ ?_)
 exact ⟨stepg_plain Z (op_loadN (i := 0) Z isAgg24 sizeOf24 (tm Z) Z (nb Z) Z ⟨Z, Z⟩), ym Z Z Z, ym Z Z Z, stepg_plain Z (aop_settleS (op_call (vs := [.agg [.sl .no 14 (m0L c_.Tenants), .i c_.Quantum, .i c_.Deadline], .sl .no 9 (m1L l), .i i]) (H := []) (R := [(p140, .resv)]) Z call10 ⟨(tm Z), (tm Z), (tm Z), trivial⟩ (List.Perm.refl _) (project.Tenant.ok r139e) (by rintro _ _ ⟨t, rfl, rfl⟩; exact ⟨t, Z, Z⟩)) ⟨Z, Z⟩), ym Z Z Z, stepg_plain Z (op_call (vs := [.sl .no 9 (m1L r139), .sl .no 9 (m1L r123)]) (H := []) Z call9 ⟨(AEv.le (tm Z) (AV.Le.forget _ _ _)), (AEv.le (tm Z) (AV.Le.forget _ _ _)), trivial⟩ (R := []) (List.Perm.refl _) (mewsref48.Same.ok r141e) (by rintro _ _ ⟨rfl, rfl⟩; exact ⟨Z, Z⟩)), AStepG.cast (ym Z Z Z) (congrArg AV.bool hb142), yg Z Z (op_loadN (i := 0) Z isAgg24 sizeOf24 (tm Z) Z (nb Z) Z ⟨Z, Z⟩), yq Z Z (pe Z), yq Z Z (pe Z), yg Z Z (op_call (vs := [.agg [.sl .no 14 (m0L c_.Tenants), .i c_.Quantum, .i c_.Deadline], .sl .no 9 (m1L l), .i handle]) (H := []) Z call11 ⟨(tm Z), (tm Z), (tm Z), trivial⟩ (R := []) (List.Perm.refl _) (project.Of.ok r143e) (by rintro _ _ ⟨rfl, rfl⟩; exact ⟨Z, Z⟩)), yg Z Z (op_loadN (i := 0) Z isAgg24 sizeOf24 (tm Z) Z (nb Z) Z ⟨Z, Z⟩), yq Z Z (pe Z), yq Z Z (pe Z), yg Z Z (op_call (vs := [.agg [.sl .no 14 (m0L c_.Tenants), .i c_.Quantum, .i c_.Deadline], .sl .no 9 (m1L l), .i handle]) (H := []) Z call12 ⟨(tm Z), (tm Z), (tm Z), trivial⟩ (R := []) (List.Perm.refl _) (mewsref49.Of.ok r144e) (by rintro _ _ ⟨rfl, rfl⟩; exact ⟨Z, Z⟩)), yq Z Z (pe Z), yp Z (pe Z), AStepG.cast (ym Z Z Z) (congrArg AV.bool hb145), yq Z Z (pe Z), yq Z Z (pe Z), yg Z Z (op_call (vs := [.sl .no 9 (m1L l), .sl .no 9 (m1L r123)]) (H := []) Z call13 ⟨(tm Z), (AEv.le (tm Z) (AV.Le.forget _ _ _)), trivial⟩ (R := []) (List.Perm.refl _) (project.Same.ok r146e) (by rintro _ _ ⟨rfl, rfl⟩; exact ⟨Z, Z⟩)), yq Z Z (pe Z), yq Z Z (pe Z), yg Z Z (op_call (vs := [.sl .no 9 (m1L l), .sl .no 9 (m1L r123)]) (H := []) Z call9 ⟨(tm Z), (AEv.le (tm Z) (AV.Le.forget _ _ _)), trivial⟩ (R := []) (List.Perm.refl _) (mewsref48.Same.ok r147e) (by rintro _ _ ⟨rfl, rfl⟩; exact ⟨Z, Z⟩)), yq Z Z (pu_boolEq Z underlying4 (tm Z) (tm Z)), yp Z (pe Z), AStepG.cast (ym Z Z Z) (congrArg AV.bool hb148), yx Z Z Z, yp Z (pe Z), ym Z Z Z, trivial⟩
 cases h
 exact ⟨(), wi [] Z⟩
 replace h := ite_f (dec_f hb145) h
 refine aw_reserve fun p140 => (aw_planR (by decide +kernel) [[(2, 0, false)], [], [], [(0, 0, true)], [], [], [], [(2, 0, false)], [], [], [], [(2, 0, false)], [], [], [], [], [], [], [], [], [], [], [], [], [], [], [], [], [], []] [[3], [], []] [[[(p140, .resv)], [(p140, .spare)]], [[(t124, .spare)]], [[(p77, .cells [.sl .no 14 (m0L c_.Tenants), .i c_.Quantum, .i c_.Deadline])]]] [.agg [.sl .no 14 (m0L c_.Tenants), .i c_.Quantum, .i c_.Deadline], .sl .no 9 (m1L l), .i i, .sl (.own p140) 9 (m1L r139), .sl (.own t124) 9 (m1L r123), .bool r141, .bool true, .agg [.sl .no 14 (m0L c_.Tenants), .i c_.Quantum, .i c_.Deadline], .sl .no 9 (m1L l), .i handle, .i r143, .agg [.sl .no 14 (m0L c_.Tenants), .i c_.Quantum, .i c_.Deadline], .sl .no 9 (m1L l), .i handle, .i r144, bd (r143 = r144), bd (r143 = r144), .bool false, .lit undef, .lit undef, .lit undef, .lit undef, .lit undef, .lit undef, .lit undef, .bool false, .bool false, .lit undef, .bool false, .bool false] (by decide +kernel) Z Z ?_ ?_)
 exact ⟨stepg_plain Z (op_loadN (i := 0) Z isAgg24 sizeOf24 (tm Z) Z (nb Z) Z ⟨Z, Z⟩), ym Z Z Z, ym Z Z Z, stepg_plain Z (aop_settleS (op_call (vs := [.agg [.sl .no 14 (m0L c_.Tenants), .i c_.Quantum, .i c_.Deadline], .sl .no 9 (m1L l), .i i]) (H := []) (R := [(p140, .resv)]) Z call10 ⟨(tm Z), (tm Z), (tm Z), trivial⟩ (List.Perm.refl _) (project.Tenant.ok r139e) (by rintro _ _ ⟨t, rfl, rfl⟩; exact ⟨t, Z, Z⟩)) ⟨Z, Z⟩), ym Z Z Z, stepg_plain Z (op_call (vs := [.sl .no 9 (m1L r139), .sl .no 9 (m1L r123)]) (H := []) Z call9 ⟨(AEv.le (tm Z) (AV.Le.forget _ _ _)), (AEv.le (tm Z) (AV.Le.forget _ _ _)), trivial⟩ (R := []) (List.Perm.refl _) (mewsref48.Same.ok r141e) (by rintro _ _ ⟨rfl, rfl⟩; exact ⟨Z, Z⟩)), AStepG.cast (ym Z Z Z) (congrArg AV.bool hb142), yg Z Z (op_loadN (i := 0) Z isAgg24 sizeOf24 (tm Z) Z (nb Z) Z ⟨Z, Z⟩), yq Z Z (pe Z), yq Z Z (pe Z), yg Z Z (op_call (vs := [.agg [.sl .no 14 (m0L c_.Tenants), .i c_.Quantum, .i c_.Deadline], .sl .no 9 (m1L l), .i handle]) (H := []) Z call11 ⟨(tm Z), (tm Z), (tm Z), trivial⟩ (R := []) (List.Perm.refl _) (project.Of.ok r143e) (by rintro _ _ ⟨rfl, rfl⟩; exact ⟨Z, Z⟩)), yg Z Z (op_loadN (i := 0) Z isAgg24 sizeOf24 (tm Z) Z (nb Z) Z ⟨Z, Z⟩), yq Z Z (pe Z), yq Z Z (pe Z), yg Z Z (op_call (vs := [.agg [.sl .no 14 (m0L c_.Tenants), .i c_.Quantum, .i c_.Deadline], .sl .no 9 (m1L l), .i handle]) (H := []) Z call12 ⟨(tm Z), (tm Z), (tm Z), trivial⟩ (R := []) (List.Perm.refl _) (mewsref49.Of.ok r144e) (by rintro _ _ ⟨rfl, rfl⟩; exact ⟨Z, Z⟩)), yq Z Z (pe Z), yp Z (pe Z), AStepG.cast (ym Z Z Z) (congrArg AV.bool hb145), yx Z Z Z, yx Z Z Z, yx Z Z Z, yx Z Z Z, yx Z Z Z, yx Z Z Z, yx Z Z Z, yp Z (pe Z), ym Z Z Z, yx Z Z Z, yp Z (pe Z), ym Z Z Z, trivial⟩
 cases h
 exact ⟨(), wi [] Z⟩
 replace h := ite_fb hb142 h
 refine aw_reserve fun p140 => (aw_planR (by decide +kernel) [[(2, 0, false)], [], [], [(0, 0, true)], [], [], [], [], [], [], [], [], [], [], [], [], [], [], [], [], [], [], [], [], [], [], [], [], [], []] [[3], [], []] [[[(p140, .resv)], [(p140, .spare)]], [[(t124, .spare)]], [[(p77, .cells [.sl .no 14 (m0L c_.Tenants), .i c_.Quantum, .i c_.Deadline])]]] [.agg [.sl .no 14 (m0L c_.Tenants), .i c_.Quantum, .i c_.Deadline], .sl .no 9 (m1L l), .i i, .sl (.own p140) 9 (m1L r139), .sl (.own t124) 9 (m1L r123), .bool r141, .bool false, .lit undef, .lit undef, .lit undef, .lit undef, .lit undef, .lit undef, .lit undef, .lit undef, .lit undef, .bool false, .bool false, .lit undef, .lit undef, .lit undef, .lit undef, .lit undef, .lit undef, .lit undef, .bool false, .bool false, .lit undef, .bool false, .bool false] (by decide +kernel) Z Z ?_ ?_)
 exact ⟨stepg_plain Z (op_loadN (i := 0) Z isAgg24 sizeOf24 (tm Z) Z (nb Z) Z ⟨Z, Z⟩), ym Z Z Z, ym Z Z Z, stepg_plain Z (aop_settleS (op_call (vs := [.agg [.sl .no 14 (m0L c_.Tenants), .i c_.Quantum, .i c_.Deadline], .sl .no 9 (m1L l), .i i]) (H := []) (R := [(p140, .resv)]) Z call10 ⟨(tm Z), (tm Z), (tm Z), trivial⟩ (List.Perm.refl _) (project.Tenant.ok r139e) (by rintro _ _ ⟨t, rfl, rfl⟩; exact ⟨t, Z, Z⟩)) ⟨Z, Z⟩), ym Z Z Z, stepg_plain Z (op_call (vs := [.sl .no 9 (m1L r139), .sl .no 9 (m1L r123)]) (H := []) Z call9 ⟨(AEv.le (tm Z) (AV.Le.forget _ _ _)), (AEv.le (tm Z) (AV.Le.forget _ _ _)), trivial⟩ (R := []) (List.Perm.refl _) (mewsref48.Same.ok r141e) (by rintro _ _ ⟨rfl, rfl⟩; exact ⟨Z, Z⟩)), AStepG.cast (ym Z Z Z) (congrArg AV.bool hb142), yx Z Z Z, yx Z Z Z, yx Z Z Z, yx Z Z Z, yx Z Z Z, yx Z Z Z, yx Z Z Z, yx Z Z Z, yx Z Z Z, yp Z (pe Z), ym Z Z Z, yx Z Z Z, yx Z Z Z, yx Z Z Z, yx Z Z Z, yx Z Z Z, yx Z Z Z, yx Z Z Z, yp Z (pe Z), ym Z Z Z, yx Z Z Z, yp Z (pe Z), ym Z Z Z, trivial⟩
 cases h
 exact ⟨(), wi [] Z⟩
 intro _
 have h := h137
 refine aw_ret ?_
 cases h
 exact rt ⟨Z, Z⟩ Z w0
 have h := s150e
 refine xr (xy Z (xa (.i (r80.length : Int)) Z (pu_lenM Z underlying28 (tm Z)) (xz (.i 0) Z (xe (aw_block (aw_while (σ := mewslaw49.ProjectSays.S0) (ν := Unit) (mewslaw49.ProjectSays.body0 r80 r82) (fun s115 v => [(1, .sl .no 9 (m1L l)), (2, .i i), (3, .i handle), (4, .ptr p77 0), (9, .sl (.own p81) 2 (m6L r80)), (10, .sl (.own p83) 2 (m6L r82)), (29, .i (r80.length : Int)), (30, .i s115.t30)]) (fun s115 v => [(p77, .cells [.sl .no 14 (m0L c_.Tenants), .i c_.Quantum, .i c_.Deadline]), (p81, .spare), (p83, .spare)]) ⟨0⟩ () _ h (wi [2, 1, 0] Z) ?_))))))
 rintro s115 _ x117 h hx116
 unfold mewslaw49.ProjectSays.body0 at h
 refine xr (xz (bd (s115.t30 < (r80.length : Int))) Z (xe (aw_seq (cd h Z (fun _ h => ?_) (fun _ h => ?_)))))
 refine aw_skip (aw_seq (aw_block (xr (xy Z (xy Z (xe (aw_seq ?_)))))))
 obtain ⟨c119, h⟩ := need_of h
 obtain ⟨c120, h⟩ := need_of h
 refine aw_planR (by decide +kernel) [[], [], [], [], [], [], [], [], []] [[], [], []] [[[(p77, .cells [.sl .no 14 (m0L c_.Tenants), .i c_.Quantum, .i c_.Deadline])]], [[(p81, .spare)]], [[(p83, .spare)]]] [.sl (.own p81) 2 (m6L r80), .i s115.t30, .vptr [.i (ix r80 s115.t30).Handle, .i (ix r80 s115.t30).Tenant], .agg [.i (ix r80 s115.t30).Handle, .i (ix r80 s115.t30).Tenant], .sl (.own p83) 2 (m6L r82), .i s115.t30, .vptr [.i (ix r82 s115.t30).Handle, .i (ix r82 s115.t30).Tenant], .agg [.i (ix r82 s115.t30).Handle, .i (ix r82 s115.t30).Tenant], bn ((ix r80 s115.t30) = (ix r82 s115.t30))] (by decide +kernel) Z Z ?_ ?_
 exact ⟨ym Z Z Z, ym Z Z Z, yp Z (pu_indexAddrM Z underlying28 sizeOf31 (tm Z) (tm Z) c119 Z), stepg_plain Z (op_loadVN Z isAgg31 sizeOf31 (tm Z) (nb Z) Z ⟨Z, Z⟩), ym Z Z Z, ym Z Z Z, yp Z (pu_indexAddrM Z underlying28 sizeOf31 (tm Z) (tm Z) c120 Z), stepg_plain Z (op_loadVN Z isAgg31 sizeOf31 (tm Z) (nb Z) Z ⟨Z, Z⟩), yp Z (APure.eq (pu_structNe (b := (decide ((ix r80 s115.t30).Handle = (ix r82 s115.t30).Handle) && (decide ((ix r80 s115.t30).Tenant = (ix r82 s115.t30).Tenant) && true))) Z underlying31 (by kernel_rfl) (by kernel_rfl) (tm Z) (tm Z) ⟨_, _, _, _, ⟨by decide, isAgg3, Z, Z, CEq.int underlying3⟩, ⟨_, _, _, _, ⟨by decide, isAgg3, Z, Z, CEq.int underlying3⟩, Z, Z⟩, Z⟩) (congrArg (fun b => AV.bool (!b)) (api.Label.eq_iff (ix r80 s115.t30) (ix r82 s115.t30)).symm)), trivial⟩
 refine aw_cond (b := (!decide ((ix r80 s115.t30) = (ix r82 s115.t30)))) (tm Z) (fun hb121 => ?_) (fun hb121 => ?_)
 replace h := ite_f (ndec_t hb121) h
 refine xr (xz (.bool false) Z (xe (aw_ret ?_)))
 cases h
 cases congrArg some (hx116 _ rfl)
 cases onSum_inr h103
 exact rt ⟨Z, Z⟩ Z w0
 replace h := ite_t (ndec_f hb121) h
 refine aw_skip (aw_region (xz (.i (w64 (s115.t30 + 1))) Z (xy Z (xe ?_))))
 cases h
 exact ⟨_, (), Z, wi [0, 1, 2] Z⟩
 refine aw_exit ?_
 cases h
 have h := congrArg some (hx116 _ rfl)
 exact ⟨(), (), (some_of h).symm, wi [0] Z⟩

end Go.Pu
