/- Printed by lift.py: the functions come to them. -/
import Derived.Test.YtakmcdnailmhlaaGreatLiftWS
import Derived.Test.YtakmcdnailmhlaaGreatPSK1
set_option maxRecDepth 100000
set_option maxHeartbeats 0
namespace Go.Pu
open Go.Lift Go.Proofs.Tryz Go.RowKit Go.Proofs

theorem auth.Label.ok {c_ pieces r} (h : auth.Label c_ pieces = some r) : Sp prog 23 [.agg [.sl .no 14 (m0L c_.Tenants), .i c_.Quantum, .i c_.Deadline], .sl .no 1 (m3L pieces)] [] (fun v H => v = .i r ∧ H = []) := by
 unfold auth.Label at h
 refine sb [.tmp 4] func23 Z (xr (xb [.sl .no 14 (m0L c_.Tenants), .i c_.Quantum, .i c_.Deadline] Z fun p49 => xz (.i 0) Z (xe (xr (xa (.agg [.str nS, .sl .full 1 e2L, .i 0, .i 0, .bool false, .i 0, .i 0]) Z (pu_build (zs := [.str nS, .sl .full 1 e2L, .i 0, .i 0, .bool false, .i 0, .i 0]) (szs := [1, 1, 1, 1, 1, 1, 1]) (aparts := []) (cs := [.str nS, .sl .full 1 e2L, .i 0, .i 0, .bool false, .i 0, .i 0]) Z underlying74 zeroValue74 Z ⟨sizeOf9, sizeOf71, sizeOf3, sizeOf3, sizeOf4, sizeOf3, sizeOf72, trivial⟩ trivial Z) (xA (.agg [.str nS, .sl .full 1 e2L, .i 0, .i 0, .bool false, .i 0, .i 0]) zeroValue74 Z fun p50 => xs 0 [.str nS, .sl .full 1 e2L, .i 0, .i 0, .bool false, .i 0, .i 0] sizeOf74 Z (xe ?_)))))))
 obtain ⟨s96, s96e, h73⟩ := bind_some h
 refine aw_join (σ := Unit) (ν := Unit) (fun u v => []) (fun u v => []) (fun u => s96 = .inl u) ?_ ?_
 intro s72
 intro _
 rintro rfl
 have h := onSum_inl h73
 refine xr (xz (.i (-1)) Z (xe (aw_ret ?_)))
 cases h
 exact rt ⟨Z, Z⟩ Z w0
 have h := s96e
 refine xr (xy Z (xa (.i (pieces.length : Int)) Z (pu_lenM Z underlying71 (tm Z)) (xz (.i 0) Z (xe (aw_block (aw_while (σ := auth.Label.S0) (ν := Unit) (auth.Label.body0 pieces c_) (fun s87 v => [(2, .ptr p49 0), (5, .ptr p50 0), (13, .sl .no 1 (m3L pieces)), (14, .i (pieces.length : Int)), (15, .i s87.t15)]) (fun s87 v => [(p49, .cells [.sl .no 14 (m0L c_.Tenants), .i c_.Quantum, .i c_.Deadline]), (p50, .cells [.str s87.c, .sl .no 1 (m3L s87.c2), .i s87.c3, .i s87.c4, .bool s87.c5, .i s87.c6, .i s87.c7])]) ⟨0, nS, ([] : List (List UInt8)), 0, 0, false, 0, 0⟩ () _ h (wl [1, 0] Z ⟨⟨_, Z, cr, Z⟩, ⟨_, Z, ⟨vr, (AV.Le.forget _ _ _), vr, vr, vr, vr, vr, trivial⟩, Z⟩, trivial⟩ ⟨tm Z, tm Z, tm Z, tm Z, tm Z, trivial⟩) ?_))))))
 rintro s87 _ x89 h hx88
 unfold auth.Label.body0 at h
 refine xr (xz (bd (s87.t15 < (pieces.length : Int))) Z (xe (aw_seq (cd h Z (fun _ h => ?_) (fun _ h => ?_)))))
 refine aw_skip (aw_seq (aw_block (aw_seq (aw_region ?_))))
 obtain ⟨c91, h⟩ := need_of h
 refine xa (.vptr [.str (ix pieces s87.t15)]) Z (pu_indexAddrM Z underlying71 sizeOf9 (tm Z) (tm Z) c91 Z) (xc Z (op_loadV1 Z isAgg9 (tm Z) Z (xy Z (xe (xr (xL 0 isAgg24 sizeOf24 Z (xL 1 isAgg74 sizeOf74 Z (xy Z ?_))))))))
 obtain ⟨r92, r92e, h⟩ := bind_some h
 refine xo (auth.First.ok r92e) call34 Z (xy Z (xz (.agg (api.Input.ct .no r92.1)) Z (xz (.str r92.2.1) Z (xz (.i r92.2.2.1) Z (xz (.i r92.2.2.2) Z (xA (.agg [.str nS, .sl .full 1 e2L, .i 0, .i 0, .bool false, .i 0, .i 0]) zeroValue74 Z fun p93 => xs 0 (api.Input.ct .no r92.1) sizeOf74 Z (xy Z (xy Z (xy Z (xe (aw_seq (xr (xy Z (xz (bn (r92.2.2.2 = 0)) Z ?_))))))))))))))
 refine xe (cn h Z (fun _ h => ?_) (fun _ h => ?_))
 refine xr (xy Z (xy Z (xe (aw_ret ?_))))
 cases h
 cases congrArg some (hx88 _ rfl)
 cases onSum_inr h73
 exact rt ⟨Z, Z⟩ Z w0
 refine aw_skip (aw_region (xL 0 isAgg74 sizeOf74 Z (xs 2 (api.Input.ct .no r92.1) sizeOf74 Z (xe (aw_region (xz (.i (w64 (s87.t15 + 1))) Z (xy Z (xe ?_))))))))
 cases h
 exact ⟨_, (), Z, wi [1, 2] Z⟩
 refine aw_exit ?_
 cases h
 have h := congrArg some (hx88 _ rfl)
 exact ⟨(), (), (some_of h).symm, w0⟩

theorem project.Of.ok {c_ l handle r} (h : project.Of c_ l handle = some r) : Sp prog 11 [.agg [.sl .no 14 (m0L c_.Tenants), .i c_.Quantum, .i c_.Deadline], .sl .no 9 (m1L l), .i handle] [] (fun v H => v = .i r ∧ H = []) := by
 unfold project.Of at h
 refine sb [.tmp 6] func11 Z (xr (xb [.sl .no 14 (m0L c_.Tenants), .i c_.Quantum, .i c_.Deadline] Z fun p4 => xz (.i 0) Z (xe (aw_seq ?_))))
 obtain ⟨r5, r5e, h⟩ := bind_some h
 obtain ⟨r6, r6e, h⟩ := bind_some h
 refine aw_planR (by decide +kernel) [[(0, 0, false)], [], [], [], [], [], []] [[]] [[[(p4, .cells [.sl .no 14 (m0L c_.Tenants), .i c_.Quantum, .i c_.Deadline])]]] [.agg [.sl .no 14 (m0L c_.Tenants), .i c_.Quantum, .i c_.Deadline], .sl .no 9 (m1L l), .i handle, .str r5, .sl .full 1 ([r5].map AV.str), .i r6, .i r6] (by decide +kernel) Z Z ?_ ?_
 exact ⟨stepg_plain Z (op_loadN (i := 0) Z isAgg24 sizeOf24 (tm Z) Z (nb Z) Z ⟨Z, Z⟩), ym Z Z Z, ym Z Z Z, stepg_plain Z (op_call (vs := [.sl .no 9 (m1L l), .i handle]) (H := []) Z call24 ⟨(tm Z), (tm Z), trivial⟩ (R := []) (List.Perm.refl _) (script.Bytes.ok r5e) (by rintro _ _ ⟨rfl, rfl⟩; exact ⟨Z, Z⟩)), stepg_plain Z (op_buildSlice (xs := ([r5] : List (List UInt8)).map AV.str) (aparts := [(0, .str r5)]) Z underlying71 sizeOf9 zeroValue9 (by decide) (by decide) ⟨Z, (tm Z), trivial⟩ Z Z Z ⟨Z, Z⟩), stepg_plain Z (op_call (vs := [.agg [.sl .no 14 (m0L c_.Tenants), .i c_.Quantum, .i c_.Deadline], .sl .no 1 ([r5].map AV.str)]) (H := []) Z call23 ⟨(tm Z), (AEv.le (tm Z) (AV.Le.forget _ _ _)), trivial⟩ (R := []) (List.Perm.refl _) (auth.Label.ok r6e) (by rintro _ _ ⟨rfl, rfl⟩; exact ⟨Z, Z⟩)), ym Z Z Z, trivial⟩
 refine aw_ret ?_
 cases h
 exact rt ⟨Z, Z⟩ Z w0

theorem project.labels.ok {c_ l r} (h : project.labels c_ l = some r) : Sp prog 15 [.agg [.sl .no 14 (m0L c_.Tenants), .i c_.Quantum, .i c_.Deadline], .sl .no 9 (m1L l)] [] (fun v H => ∃ n0, v = .map n0 ∧ H = [(n0, .abs (mapAbs prog 3 (mpE mkI (AV.int .i64) r)))]) := by
 unfold project.labels at h
 refine sb [.tmp 4] func15 Z (xr (xb [.sl .no 14 (m0L c_.Tenants), .i c_.Quantum, .i c_.Deadline] Z fun p174 => xa (.lit (.map none)) Z (pu_assign Z (AEv.lit _)) (xe (xr (xc Z (op_makeMap (kt := 3) Z ?_))))))
 intro p175
 refine xy Z (xe ?_)
 obtain ⟨s260, s260e, h261⟩ := bind_some h
 refine aw_meet (ν := Unit) (fun v => [(5, .map p175)]) (fun v => [(p175, .abs (mapAbs prog 3 (mpE mkI (AV.int .i64) s260)))]) ?_ ?_
 have h := s260e
 refine xr (xy Z (xa (.i (l.length : Int)) Z (pu_lenM Z underlying25 (tm Z)) (xz (.i 0) Z (xe (aw_block (aw_while (σ := project.labels.S0) (ν := Unit) (project.labels.body0 l c_) (fun s317 v => [(1, .sl .no 9 (m1L l)), (2, .ptr p174 0), (5, .map p175), (11, .sl .no 9 (m1L l)), (12, .i (l.length : Int)), (13, .i s317.t13)]) (fun s317 v => [(p174, .cells [.sl .no 14 (m0L c_.Tenants), .i c_.Quantum, .i c_.Deadline]), (p175, .abs (mapAbs prog 3 (mpE mkI (AV.int .i64) s317.b)))]) ⟨0, ([] : List (Int × Int))⟩ () _ h (wi [1, 0] Z) ?_))))))
 rintro s317 _ x319 h hx318
 unfold project.labels.body0 at h
 refine xr (xz (bd (s317.t13 < (l.length : Int))) Z (xe (aw_seq (cd h Z (fun _ h => ?_) (fun _ h => ?_)))))
 refine aw_skip ?_
 obtain ⟨s332, s332e, h333⟩ := bind_some h
 refine aw_meet (ν := Unit) (fun v => [(1, .sl .no 9 (m1L l)), (2, .ptr p174 0), (5, .map p175), (11, .sl .no 9 (m1L l)), (12, .i (l.length : Int)), (13, .i s317.t13)]) (fun v => [(p174, .cells [.sl .no 14 (m0L c_.Tenants), .i c_.Quantum, .i c_.Deadline]), (p175, .abs (mapAbs prog 3 (mpE mkI (AV.int .i64) s332)))]) ?_ ?_
 have h := s332e
 refine aw_block (aw_seq (aw_region ?_))
 obtain ⟨c335, h⟩ := need_of h
 refine xa (.vptr [.i (ix l s317.t13).Kind, .i (ix l s317.t13).Handle, .str (ix l s317.t13).S, .i (ix l s317.t13).N, .i (ix l s317.t13).Tenant, .str (ix l s317.t13).Fault.Name, .i (ix l s317.t13).Fault.Kind, .i (ix l s317.t13).Fault.Short, .sl .no 3 (m2L (ix l s317.t13).Lefts)]) Z (pu_indexAddrM Z underlying25 sizeOf40 (tm Z) (tm Z) c335 Z) (xc Z (op_loadVN Z isAgg40 sizeOf40 (tm Z) (nb Z) Z (xA (.agg [.i 0, .i 0, .str nS, .i 0, .i 0, .str nS, .i 0, .i 0, .sl .full 3 e0L]) zeroValue40 Z fun p336 => xs 0 (api.Event.ct .no (ix l s317.t13)) sizeOf40 Z (xe (xr (xy Z (xf (.ptr p336 1) underlying40 sizeOf3 Z (xl 0 isAgg3 Z ?_))))))))
 obtain ⟨c337, h⟩ := need_of h
 refine xc Z (op_mapGetOk (i := 2) (z := 0) (mkI_ok underlying3) Z underlying42 zeroValue3 (fun g w => ofConst_reads Z g w) (tm Z) (tm Z) Z c337 Z (xy Z (xz (.i ((mpGet s317.b (ix l s317.t13).Handle).getD 0)) Z (xz (.bool (mpHas s317.b (ix l s317.t13).Handle)) Z (xy Z (xy Z (xe ?_)))))))
 obtain ⟨s339, s339e, h340⟩ := letO_of h
 refine aw_meet (ν := Unit) (fun v => [(1, .sl .no 9 (m1L l)), (2, .ptr p174 0), (5, .map p175), (7, .ptr p336 0), (11, .sl .no 9 (m1L l)), (12, .i (l.length : Int)), (13, .i s317.t13), (30, .bool s339)]) (fun v => [(p174, .cells [.sl .no 14 (m0L c_.Tenants), .i c_.Quantum, .i c_.Deadline]), (p175, .abs (mapAbs prog 3 (mpE mkI (AV.int .i64) s317.b))), (p336, .cells (api.Event.ct .no (ix l s317.t13)))]) ?_ ?_
 have h := s339e.symm
 refine aw_region (xy Z (xz (.bool (!(mpHas s317.b (ix l s317.t13).Handle))) Z (xy Z ?_)))
 rcases Bool.eq_false_or_eq_true (!(mpHas s317.b (ix l s317.t13).Handle)) with hb342 | hb342
 replace h := ite_t hb342 h
 refine aops_known 26 Z hb342 (xp (.ptr p336 0) Z Z (fa Z underlying40 Z sizeOf3 Z Z Z) (xg Z Z (op_load1 (i := 0) Z isAgg3 (tm Z) Z Z (xp (bd ((ix l s317.t13).Kind = 1)) Z Z (pe Z) (xz (bd ((ix l s317.t13).Kind = 1)) Z (xe ?_))))))
 subst h
 exact ⟨(), wi [1, 2, 0] Z⟩
 replace h := ite_fb hb342 h
 refine aops_known 26 Z hb342 (xu Z (xu Z (xu Z (xz (.bool false) Z (xe ?_)))))
 subst h
 exact ⟨(), wi [1, 2, 0] Z⟩
 intro _
 have h := h340
 refine aw_cond (b := s339) (tm Z) (fun hb345 => ?_) (fun hb345 => ?_)
 replace h := ite_t hb345 h
 obtain ⟨r343, r343e, h⟩ := bind_some h
 obtain ⟨c344, h⟩ := need_of h
 refine aw_planR (by decide +kernel) [[], [], [(2, 0, false)], [(0, 0, false)], [], [], [(2, 0, false)], [], [(1, 0, true)]] [[], [8], []] [[[(p174, .cells [.sl .no 14 (m0L c_.Tenants), .i c_.Quantum, .i c_.Deadline])]], [[(p175, .abs (mapAbs prog 3 (mpE mkI (AV.int .i64) s317.b)))], [(p175, .abs (mapAbs prog 3 (mpE mkI (AV.int .i64) (mpPut mkI s317.b (ix l s317.t13).Handle r343))))]], [[(p336, .cells (api.Event.ct .no (ix l s317.t13)))]]] [.map p175, .ptr p336 1, .i (ix l s317.t13).Handle, .agg [.sl .no 14 (m0L c_.Tenants), .i c_.Quantum, .i c_.Deadline], .sl .no 9 (m1L l), .ptr p336 1, .i (ix l s317.t13).Handle, .i r343, .un] (by decide +kernel) Z Z ?_ ?_
 exact ⟨ym Z Z Z, yp Z (fa Z underlying40 Z sizeOf3 Z Z Z), stepg_plain Z (op_load1 (i := 0) Z isAgg3 (tm Z) Z Z ⟨Z, Z⟩), stepg_plain Z (op_loadN (i := 0) Z isAgg24 sizeOf24 (tm Z) Z (nb Z) Z ⟨Z, Z⟩), ym Z Z Z, yp Z (fa Z underlying40 Z sizeOf3 Z Z Z), stepg_plain Z (op_load1 (i := 0) Z isAgg3 (tm Z) Z Z ⟨Z, Z⟩), stepg_plain Z (op_call (vs := [.agg [.sl .no 14 (m0L c_.Tenants), .i c_.Quantum, .i c_.Deadline], .sl .no 9 (m1L l), .i (ix l s317.t13).Handle]) (H := []) Z call11 ⟨(tm Z), (tm Z), (tm Z), trivial⟩ (R := []) (List.Perm.refl _) (project.Of.ok r343e) (by rintro _ _ ⟨rfl, rfl⟩; exact ⟨Z, Z⟩)), stepg_plain Z (op_mapPut (i := 0) (vf := (AV.int .i64)) (val := r343) (mkI_ok underlying3) Z underlying42 (tm Z) (tm Z) (tm Z) Z c344 ⟨Z, Z⟩), trivial⟩
 cases h
 exact ⟨(), wi [0, 1] Z⟩
 replace h := ite_fb hb345 h
 refine aw_skip ?_
 cases h
 exact ⟨(), wi [0, 1] Z⟩
 intro _
 have h := h333
 refine aw_region (xz (.i (w64 (s317.t13 + 1))) Z (xy Z (xe ?_)))
 cases h
 exact ⟨_, (), Z, wi [0, 1] Z⟩
 refine aw_exit ?_
 cases h
 cases congrArg some (hx318 _ rfl)
 exact ⟨(), wi [1] Z⟩
 intro _
 have h := h261
 refine xr (xy Z (xy Z (xe (aw_ret ?_))))
 cases h
 exact rt ⟨p175, Z, Z⟩ Z (wi [0] Z)

theorem project.Labels.ok {c_ l r} (h : project.Labels c_ l = some r) : Sp prog 6 [.agg [.sl .no 14 (m0L c_.Tenants), .i c_.Quantum, .i c_.Deadline], .sl .no 9 (m1L l)] [] (fun v H => ∃ n0, v = .sl (.own n0) 2 (m6L r) ∧ H = [(n0, .spare)]) := by
 unfold project.Labels at h
 refine sb [.tmp 4] func6 Z (xr (xb [.sl .no 14 (m0L c_.Tenants), .i c_.Quantum, .i c_.Deadline] Z fun p60 => xa (.sl .full 2 e5L) Z (pu_assign Z (AEv.nil 2 (by decide))) (xe (xr (xL 0 isAgg24 sizeOf24 Z (xy Z ?_))))))
 obtain ⟨r61, r61e, h⟩ := bind_some h
 refine xk (project.labels.ok r61e) call15 Z ?_
 rintro _ _ ⟨t62, rfl, rfl⟩
 refine xy Z (xe (xr (xa (.sl .full 2 e5L) Z (pu_assign Z (AEv.nil 2 (by decide))) (xe ?_))))
 obtain ⟨s89, s89e, h91⟩ := bind_some h
 refine aw_meet (ν := Nat) (fun v => [(6, .sl (.own v) 2 (m6L s89))]) (fun v => [(v, .spare)]) ?_ ?_
 have h := s89e
 refine xr (xy Z (xk (mapsKeys17.ok t62) call17 Z ?_))
 rintro _ _ ⟨p93, rfl, rfl⟩
 obtain ⟨c94, h⟩ := need_of h
 refine xo (sortedKeys16.ok c94 p93 t62) call16 Z (xa (.i (((List.map Prod.fst r61).mergeSort fun x y => decide (x ≤ y)).length : Int)) Z (pu_lenM Z underlying44 (tm Z)) (xz (.i 0) Z (xe (aw_block (aw_claim 6 (tm Z) fun t118 => (aw_while (σ := project.Labels.S0) (ν := Nat) (project.Labels.body0 r61) (fun s108 v => [(5, .map t62), (6, .sl (.own v) 2 (m6L s108.out)), (14, .sl .no 1 (((List.map Prod.fst r61).mergeSort fun x y => decide (x ≤ y)).map (AV.int .i64))), (15, .i (((List.map Prod.fst r61).mergeSort fun x y => decide (x ≤ y)).length : Int)), (16, .i s108.t16)]) (fun s108 v => [(t62, .abs (mapAbs prog 3 (mpE mkI (AV.int .i64) r61))), (v, .spare)]) ⟨([] : List api.Label), 0⟩ t118 _ h (wi [2, 0] Z) ?_))))))
 rintro s108 n109 x111 h hx110
 unfold project.Labels.body0 at h
 refine xr (xz (bd (s108.t16 < (((List.map Prod.fst r61).mergeSort fun x y => decide (x ≤ y)).length : Int))) Z (xe (aw_seq (cd h Z (fun _ h => ?_) (fun _ h => ?_)))))
 refine aw_skip (aw_seq (aw_block (aw_seq (aw_region ?_))))
 obtain ⟨c113, h⟩ := need_of h
 refine xa (.vptr [.i (ix ((List.map Prod.fst r61).mergeSort fun x y => decide (x ≤ y)) s108.t16)]) Z (pu_indexAddrM Z underlying44 sizeOf3 (tm Z) (tm Z) c113 Z) (xc Z (op_loadV1 Z isAgg3 (tm Z) Z (xy Z (xe (aw_region (xy Z (xy Z (xy Z (xy Z ?_)))))))))
 obtain ⟨c114, h⟩ := need_of h
 refine xc Z (op_mapGet (i := 0) (z := 0) (mkI_ok underlying3) Z underlying42 zeroValue3 (fun g w => ofConst_reads Z g w) (tm Z) (tm Z) Z c114 Z (xa (.agg [.i (ix ((List.map Prod.fst r61).mergeSort fun x y => decide (x ≤ y)) s108.t16), .i ((mpGet r61 (ix ((List.map Prod.fst r61).mergeSort fun x y => decide (x ≤ y)) s108.t16)).getD 0)]) Z (pu_build (zs := [.i 0, .i 0]) (szs := [1, 1]) (aparts := [(0, .i (ix ((List.map Prod.fst r61).mergeSort fun x y => decide (x ≤ y)) s108.t16)), (1, .i ((mpGet r61 (ix ((List.map Prod.fst r61).mergeSort fun x y => decide (x ≤ y)) s108.t16)).getD 0))]) (cs := [.i (ix ((List.map Prod.fst r61).mergeSort fun x y => decide (x ≤ y)) s108.t16), .i ((mpGet r61 (ix ((List.map Prod.fst r61).mergeSort fun x y => decide (x ≤ y)) s108.t16)).getD 0)]) Z underlying31 zeroValue31 Z ⟨sizeOf3, sizeOf3, trivial⟩ ⟨Z, (tm Z), ⟨Z, (tm Z), trivial⟩⟩ Z) (xc Z (op_buildSlice (xs := ([({ Handle := ix ((List.map Prod.fst r61).mergeSort fun x y => decide (x ≤ y)) s108.t16, Tenant := ((mpGet r61 (ix ((List.map Prod.fst r61).mergeSort fun x y => decide (x ≤ y)) s108.t16)).getD 0) } : api.Label)] : List api.Label).map api.Label.av) (aparts := [(0, .agg [.i (ix ((List.map Prod.fst r61).mergeSort fun x y => decide (x ≤ y)) s108.t16), .i ((mpGet r61 (ix ((List.map Prod.fst r61).mergeSort fun x y => decide (x ≤ y)) s108.t16)).getD 0)])]) Z underlying28 sizeOf31 zeroValue31 (by decide) (by decide) ⟨Z, (tm Z), trivial⟩ Z Z Z ?_))))
 obtain ⟨c115, h⟩ := need_of h
 refine xc Z (op_appendOM (q := 1) Z underlying28 underlying28 (.inl Z) typeInfo31 Z Z Z (by decide) (tm Z) Z (given_sl (tm Z)) c115 ?_)
 intro t116
 refine xy Z (xe (aw_region (xz (.i (w64 (s108.t16 + 1))) Z (xy Z (xe ?_)))))
 cases h
 exact ⟨_, t116, Z, wi [0, 1] Z⟩
 refine aw_exit ?_
 cases h
 cases congrArg some (hx110 _ rfl)
 exact ⟨n109, wi [1] Z⟩
 intro n90
 have h := h91
 refine xr (xy Z (xy Z (xe (aw_ret ?_))))
 cases h
 exact rt ⟨n90, Z, Z⟩ Z (wi [0] Z)

theorem project.Tenant_1.ok {handle a2_ tab r} (h : project.Tenant_1 handle a2_ tab = some r) (o0 o1 o2 : Nat) : Sp prog 19 [.i handle, .ptr o0 0, .ptr o1 0] [(o0, .cells [.map o2]), (o1, .cells [.i a2_]), (o2, .abs (mapAbs prog 3 (mpE mkI (AV.int .i64) tab)))] (fun v H => v = .bool r ∧ H = [(o0, .cells [.map o2]), (o1, .cells [.i a2_]), (o2, .abs (mapAbs prog 3 (mpE mkI (AV.int .i64) tab)))]) := by
 unfold project.Tenant_1 at h
 refine sb [.tmp 4] func19 Z (xr (xz (.bool false) Z (xe (xr (xl 0 isAgg42 Z (xy Z ?_))))))
 obtain ⟨c9, h⟩ := need_of h
 refine xc Z (op_mapGetOk (i := 2) (z := 0) (mkI_ok underlying3) Z underlying42 zeroValue3 (fun g w => ofConst_reads Z g w) (tm Z) (tm Z) Z c9 Z (xy Z (xz (.i ((mpGet tab handle).getD 0)) Z (xz (.bool (mpHas tab handle)) Z (xy Z (xy Z (xe ?_)))))))
 obtain ⟨s12, s12e, h13⟩ := letO_of h
 refine aw_meet (ν := Unit) (fun v => [(4, .bool s12)]) (fun v => [(o0, .cells [.map o2]), (o1, .cells [.i a2_]), (o2, .abs (mapAbs prog 3 (mpE mkI (AV.int .i64) tab)))]) ?_ ?_
 have h := s12e.symm
 refine aw_region (xy Z (xy Z ?_))
 rcases Bool.eq_false_or_eq_true (mpHas tab handle) with hb15 | hb15
 replace h := ite_t hb15 h
 refine aops_known 14 Z hb15 (xq Z Z Z Z (xg Z Z (op_load1 (i := 1) Z isAgg3 (tm Z) Z Z (xp (bd (((mpGet tab handle).getD 0) = a2_)) Z Z (pe Z) (xz (bd (((mpGet tab handle).getD 0) = a2_)) Z (xy Z ?_))))))
 rcases Bool.eq_false_or_eq_true (decide (((mpGet tab handle).getD 0) = a2_)) with hb16 | hb16
 replace h := ite_t (dec_t hb16) h
 refine aops_known 19 Z hb16 (xg Z Z (op_load1 (i := 1) Z isAgg3 (tm Z) Z Z (xp (bd (0 ≤ a2_)) Z Z (pe Z) (xz (bd (0 ≤ a2_)) Z (xy Z (xe ?_))))))
 subst h
 exact ⟨(), wi [0, 1, 2] Z⟩
 replace h := ite_f (dec_f hb16) h
 refine aops_known 19 Z hb16 (xu Z (xu Z (xz (.bool false) Z (xy Z (xe ?_)))))
 subst h
 exact ⟨(), wi [0, 1, 2] Z⟩
 replace h := ite_fb hb15 h
 refine aops_known 14 Z hb15 (xu Z (xu Z (xu Z (xz (.bool false) Z (xy Z (xu Z (xu Z (xz (.bool false) Z (xy Z ?_)))))))))
 refine xe ?_
 subst h
 exact ⟨(), wi [0, 1, 2] Z⟩
 intro _
 have h := h13
 refine aw_ret ?_
 cases h
 exact rt ⟨Z, Z⟩ Z (wi [0, 1, 2] Z)

theorem slices.Clone_api_Left.ok {s r} (h : slices.Clone_api_Left s = some r) : Sp prog 21 [.sl .no 3 (m2L s)] [] (fun v H => ∃ n0, v = .vec n0 ∧ H = [(n0, .vec 3 (m2L r))]) := by
 unfold slices.Clone_api_Left at h
 obtain ⟨c, h⟩ := need_of h
 cases h
 refine sb [.tmp 2] func21 Z (xr (xa (.sl .full 3 e0L) Z (pu_assign Z (AEv.nil 3 (by decide))) (xe (aw_seq (xr (xy Z (xc Z (op_nilSlice Z underlying38 (tm Z) fun b hb => ?_))))))))
 refine xe (aw_cond (tm Z) (fun hb2 => ?_) (fun hb2 => ?_))
 have hs : s = [] := List.map_eq_nil_iff.1 (hb hb2)
 subst hs
 refine xr (xa (.sl .full 3 e0L) Z (pu_assign Z (AEv.nil 3 (by decide))) (xe (aw_vecNil 2 (tm Z) fun t => (aw_ret ?_))))
 exact rq [.vec t] ⟨t, Z, Z⟩ (AV.Le.refl _) ⟨tm Z, trivial⟩ (wi [0] Z)
 refine aw_skip (xr (xc Z (op_buildSlice (xs := ([] : List api.Left).map api.Left.av) (aparts := []) Z underlying38 sizeOf52 zeroValue52 (by decide) (by decide) trivial Z Z Z (xy Z (xc Z (op_appendNVM (sz := 3) Z underlying38 underlying38 (.inl Z) typeInfo52 Z Z Z (by decide) (tm Z) (given_sl (tm Z)) c ?_))))))
 intro t
 refine xy Z (xe (aw_ret ?_))
 exact rq [.vec t] ⟨t, Z, Z⟩ (AV.Le.refl _) ⟨tm Z, trivial⟩ (wi [0] Z)

theorem project.Tenant_2.ok {x_ a1_ a2_ r} (h : project.Tenant_2 x_ a1_ a2_ = some r) (o0 o1 : Nat) : Sp prog 22 [.agg [.i x_.Tenant, .str x_.Keep.Name, .i x_.Keep.Bytes], .ptr o0 0, .ptr o1 0] [(o0, .cells [.i a1_]), (o1, .cells [.sl .no 14 (m0L a2_.Tenants), .i a2_.Quantum, .i a2_.Deadline])] (fun v H => v = .bool r ∧ H = [(o0, .cells [.i a1_]), (o1, .cells [.sl .no 14 (m0L a2_.Tenants), .i a2_.Quantum, .i a2_.Deadline])]) := by
 unfold project.Tenant_2 at h
 refine sb [.tmp 4] func22 Z (xr (xb [.i x_.Tenant, .str x_.Keep.Name, .i x_.Keep.Bytes] Z fun p9 => xz (.bool false) Z (xe ?_)))
 obtain ⟨s12, s12e, h13⟩ := letO_of h
 refine aw_meet (ν := Unit) (fun v => [(4, .bool s12)]) (fun v => [(o0, .cells [.i a1_]), (o1, .cells [.sl .no 14 (m0L a2_.Tenants), .i a2_.Quantum, .i a2_.Deadline])]) ?_ ?_
 have h := s12e.symm
 refine aw_region (xf (.ptr p9 0) underlying52 sizeOf3 Z (xl 0 isAgg3 Z (xl 1 isAgg3 Z (xz (bn (x_.Tenant = a1_)) Z (xy Z ?_)))))
 rcases Bool.eq_false_or_eq_true (!decide (x_.Tenant = a1_)) with hb15 | hb15
 replace h := ite_f (ndec_t hb15) h
 refine aops_known 9 Z hb15 (xu Z (xu Z (xz (.bool true) Z (xy Z (xu Z (xu Z (xu Z (xu Z (xu Z ?_)))))))))
 refine xz (.bool true) Z (xy Z (xe ?_))
 subst h
 exact ⟨(), wi [1, 2] Z⟩
 replace h := ite_t (ndec_f hb15) h
 refine aops_known 9 Z hb15 (xg Z Z (op_load1 (i := 1) Z isAgg3 (tm Z) Z Z (xp (bd (a1_ < 0)) Z Z (pe Z) (xz (bd (a1_ < 0)) Z (xy Z ?_)))))
 rcases Bool.eq_false_or_eq_true (decide (a1_ < 0)) with hb16 | hb16
 replace h := ite_t (dec_t hb16) h
 refine aops_known 13 Z hb16 (xu Z (xu Z (xu Z (xu Z (xu Z (xz (.bool true) Z (xy Z (xe ?_))))))))
 subst h
 exact ⟨(), wi [1, 2] Z⟩
 replace h := ite_f (dec_f hb16) h
 refine aops_known 13 Z hb16 (xg Z Z (op_load1 (i := 1) Z isAgg3 (tm Z) Z Z (xp (.ptr o1 0) Z Z (fa Z underlying24 Z sizeOf22 Z Z Z) (xg Z Z (op_load1 (i := 2) Z isAgg22 (tm Z) Z Z (xp (.i (a2_.Tenants.length : Int)) Z Z (pu_lenM Z underlying22 (tm Z)) (xp (bd ((a2_.Tenants.length : Int) ≤ a1_)) Z Z (pe Z) (xz (bd ((a2_.Tenants.length : Int) ≤ a1_)) Z (xy Z (xe ?_))))))))))
 subst h
 exact ⟨(), wi [1, 2] Z⟩
 intro _
 have h := h13
 refine aw_ret ?_
 cases h
 exact rt ⟨Z, Z⟩ Z (wi [0, 1] Z)

theorem slices.IndexFunc_api_Left_v_project_Tenant_2.ok {s_ b1_ b2_ r} (h : slices.IndexFunc_api_Left_v_project_Tenant_2 s_ b1_ b2_ = some r) (o0 o1 o2 : Nat) : Sp prog 33 [.vec o0, .fn 22 [.ptr o1 0, .ptr o2 0]] [(o0, .vec 3 (m2L s_)), (o1, .cells [.i b1_]), (o2, .cells [.sl .no 14 (m0L b2_.Tenants), .i b2_.Quantum, .i b2_.Deadline])] (fun v H => v = .i r ∧ H = [(o0, .vec 3 (m2L s_)), (o1, .cells [.i b1_]), (o2, .cells [.sl .no 14 (m0L b2_.Tenants), .i b2_.Quantum, .i b2_.Deadline])]) := by
 unfold slices.IndexFunc_api_Left_v_project_Tenant_2 at h
 refine sb [.tmp 4] func33 Z (xr (xz (.i 0) Z (xe ?_)))
 obtain ⟨s92, s92e, h69⟩ := bind_some h
 refine aw_join (σ := Unit) (ν := Unit) (fun u v => []) (fun u v => [(o0, .vec 3 (m2L s_)), (o1, .cells [.i b1_]), (o2, .cells [.sl .no 14 (m0L b2_.Tenants), .i b2_.Quantum, .i b2_.Deadline])]) (fun u => s92 = .inl u) ?_ ?_
 intro s68
 intro _
 rintro rfl
 have h := onSum_inl h69
 refine xr (xz (.i (-1)) Z (xe (aw_ret ?_)))
 cases h
 exact rt ⟨Z, Z⟩ Z (wi [0, 1, 2] Z)
 have h := s92e
 refine xr (xy Z (xc Z (op_lenVecM (i := 0) Z underlying38 (tm Z) Z (xz (.i 0) Z (xe (aw_block (aw_while (σ := slices.IndexFunc_api_Left_v_project_Tenant_2.S0) (ν := Unit) (slices.IndexFunc_api_Left_v_project_Tenant_2.body0 s_ b1_ b2_) (fun s83 v => [(0, .vec o0), (1, .fn 22 [.ptr o1 0, .ptr o2 0]), (7, .i (s_.length : Int)), (8, .i s83.t8)]) (fun s83 v => [(o0, .vec 3 (m2L s_)), (o1, .cells [.i b1_]), (o2, .cells [.sl .no 14 (m0L b2_.Tenants), .i b2_.Quantum, .i b2_.Deadline])]) ⟨0⟩ () _ h (wi [0, 1, 2] Z) ?_)))))))
 rintro s83 _ x85 h hx84
 unfold slices.IndexFunc_api_Left_v_project_Tenant_2.body0 at h
 refine xr (xz (bd (s83.t8 < (s_.length : Int))) Z (xe (aw_seq (cd h Z (fun _ h => ?_) (fun _ h => ?_)))))
 refine aw_skip (aw_seq (aw_block (xr (xy Z (xy Z (xe (aw_seq (aw_region ?_))))))))
 refine xy Z (xy Z (xy Z ?_))
 obtain ⟨c87, h⟩ := need_of h
 refine xc Z (op_indexAddrVecM Z underlying38 sizeOf52 (tm Z) (j := 0) Z (tm Z) c87 ?_)
 obtain ⟨c88, h⟩ := need_of h
 refine xc Z (op_loadENM (i := 0) (sz := 3) Z isAgg52 sizeOf52 (tm Z) Z c88 (by decide) Z ?_)
 obtain ⟨r89, r89e, h⟩ := bind_some h
 refine aops_weak (weak_pick [1, 2, 0] (by decide) Z) (xc Z (op_callV (vs := [.agg [.i (ix s_ s83.t8).Tenant, .str (ix s_ s83.t8).Keep.Name, .i (ix s_ s83.t8).Keep.Bytes]]) (H := [(o1, .cells [.i b1_]), (o2, .cells [.sl .no 14 (m0L b2_.Tenants), .i b2_.Quantum, .i b2_.Deadline])]) Z (tm Z) call22 ⟨(tm Z), trivial⟩ (List.Perm.refl _) (project.Tenant_2.ok r89e o1 o2) ?_))
 rintro _ _ ⟨rfl, rfl⟩
 refine xe (cb h Z (fun _ h => ?_) (fun _ h => ?_))
 refine xr (xy Z (xy Z (xe (aw_ret ?_))))
 cases h
 cases congrArg some (hx84 _ rfl)
 cases onSum_inr h69
 exact rt ⟨Z, Z⟩ Z (wi [2, 0, 1] Z)
 refine aw_skip (aw_region (xz (.i (w64 (s83.t8 + 1))) Z (xy Z (xe ?_))))
 cases h
 exact ⟨_, (), Z, wi [2, 0, 1] Z⟩
 refine aw_exit ?_
 cases h
 have h := congrArg some (hx84 _ rfl)
 exact ⟨(), (), (some_of h).symm, wi [0, 1, 2] Z⟩

theorem slices.DeleteFunc_api_Left_v_project_Tenant_2.ok {s_ b1_ b2_ r} (h : slices.DeleteFunc_api_Left_v_project_Tenant_2 s_ b1_ b2_ = some r) (o0 o1 o2 : Nat) : Sp prog 20 [.vec o0, .fn 22 [.ptr o1 0, .ptr o2 0]] [(o0, .vec 3 (m2L s_)), (o1, .cells [.i b1_]), (o2, .cells [.sl .no 14 (m0L b2_.Tenants), .i b2_.Quantum, .i b2_.Deadline])] (fun v H => ∃ n0, v = .vec n0 ∧ H = [(o1, .cells [.i b1_]), (o2, .cells [.sl .no 14 (m0L b2_.Tenants), .i b2_.Quantum, .i b2_.Deadline]), (n0, .vec 3 (m2L r))]) := by
 unfold slices.DeleteFunc_api_Left_v_project_Tenant_2 at h
 refine sb [.tmp 4] func20 Z (xr (xa (.sl .full 3 e0L) Z (pu_assign Z (AEv.nil 3 (by decide))) (xe (xr (xy Z (xy Z ?_))))))
 obtain ⟨r129, r129e, h⟩ := bind_some h
 refine xo (slices.IndexFunc_api_Left_v_project_Tenant_2.ok r129e o0 o1 o2) call33 Z (xy Z (xe (aw_seq (xr (xy Z (xz (bd (r129 = (-1))) Z (xe (cd h Z (fun _ h => ?_) (fun _ h => ?_)))))))))
 refine xr (xy Z (xy Z (xe (aw_ret ?_))))
 cases h
 exact rt ⟨o0, Z, Z⟩ Z (wi [1, 2, 0] Z)
 refine aw_skip ?_
 obtain ⟨s190, s190e, h191⟩ := bind_some h
 refine aw_meet (ν := Unit) (fun v => [(0, .vec o0), (5, .i s190.1)]) (fun v => [(o0, .vec 3 (m2L s190.2)), (o1, .cells [.i b1_]), (o2, .cells [.sl .no 14 (m0L b2_.Tenants), .i b2_.Quantum, .i b2_.Deadline])]) ?_ ?_
 have h := s190e
 refine xr (xy Z (xz (.i (w64 (r129 + 1))) Z (xy Z (xe (aw_block (aw_while (σ := slices.DeleteFunc_api_Left_v_project_Tenant_2.S0) (ν := Unit) (slices.DeleteFunc_api_Left_v_project_Tenant_2.body0 b1_ b2_) (fun s231 v => [(0, .vec o0), (1, .fn 22 [.ptr o1 0, .ptr o2 0]), (5, .i s231.i), (6, .i s231.j)]) (fun s231 v => [(o0, .vec 3 (m2L s231.v)), (o1, .cells [.i b1_]), (o2, .cells [.sl .no 14 (m0L b2_.Tenants), .i b2_.Quantum, .i b2_.Deadline])]) ⟨r129, w64 (r129 + 1), s_⟩ () _ h (wi [0, 1, 2] Z) ?_))))))
 rintro s231 _ x233 h hx232
 unfold slices.DeleteFunc_api_Left_v_project_Tenant_2.body0 at h
 refine aw_seq (xr (xy Z (xy Z (xc Z (op_lenVecM (i := 0) Z underlying38 (tm Z) Z (xz (bd (s231.j < (s231.v.length : Int))) Z (xe (cd h Z (fun _ h => ?_) (fun _ h => ?_)))))))))
 refine aw_skip ?_
 obtain ⟨s242, s242e, h243⟩ := bind_some h
 refine aw_meet (ν := Unit) (fun v => [(0, .vec o0), (1, .fn 22 [.ptr o1 0, .ptr o2 0]), (5, .i s242.1), (6, .i s231.j)]) (fun v => [(o0, .vec 3 (m2L s242.2)), (o1, .cells [.i b1_]), (o2, .cells [.sl .no 14 (m0L b2_.Tenants), .i b2_.Quantum, .i b2_.Deadline])]) ?_ ?_
 have h := s242e
 refine aw_block (xr (xy Z (xy Z ?_)))
 obtain ⟨c245, h⟩ := need_of h
 refine xc Z (op_indexAddrVecM Z underlying38 sizeOf52 (tm Z) (j := 0) Z (tm Z) c245 ?_)
 obtain ⟨c246, h⟩ := need_of h
 refine xc Z (op_loadENM (i := 0) (sz := 3) Z isAgg52 sizeOf52 (tm Z) Z c246 (by decide) Z (xA (.agg [.i 0, .str nS, .i 0]) zeroValue52 Z fun p247 => xs 0 [.i (ix s231.v s231.j).Tenant, .str (ix s231.v s231.j).Keep.Name, .i (ix s231.v s231.j).Keep.Bytes] sizeOf52 Z (xe (xr (xy Z (xL 0 isAgg52 sizeOf52 Z ?_))))))
 obtain ⟨r248, r248e, h⟩ := bind_some h
 refine aops_weak (weak_pick [2, 3, 0, 1] (by decide) Z) (xc Z (op_callV (vs := [.agg [.i (ix s231.v s231.j).Tenant, .str (ix s231.v s231.j).Keep.Name, .i (ix s231.v s231.j).Keep.Bytes]]) (H := [(o1, .cells [.i b1_]), (o2, .cells [.sl .no 14 (m0L b2_.Tenants), .i b2_.Quantum, .i b2_.Deadline])]) Z (tm Z) call22 ⟨(tm Z), trivial⟩ (List.Perm.refl _) (project.Tenant_2.ok r248e o1 o2) ?_))
 rintro _ _ ⟨rfl, rfl⟩
 refine xz (.bool (!r248)) Z (xe (cb h Z (fun _ h => ?_) (fun _ h => ?_)))
 refine xr (xy Z (xy Z (xL 2 isAgg52 sizeOf52 Z ?_)))
 obtain ⟨c249, h⟩ := need_of h
 refine xc Z (op_indexAddrVecM Z underlying38 sizeOf52 (tm Z) (j := 3) Z (tm Z) c249 ?_)
 obtain ⟨c250, h⟩ := need_of h
 refine ac0 Z Z (op_storeEM (i := 3) (sz := 3) (y' := (ix s231.v s231.j)) Z sizeOf52 (tm Z) (v := .agg [.i (ix s231.v s231.j).Tenant, .str (ix s231.v s231.j).Keep.Name, .i (ix s231.v s231.j).Keep.Bytes]) (tm Z) Z c250 Z Z (by decide) Z (xe (aw_region (xy Z (xz (.i (w64 (s231.i + 1))) Z (xy Z (xe ?_)))))))
 cases h
 exact ⟨(), wi [3, 0, 1] Z⟩
 refine aw_skip ?_
 cases h
 exact ⟨(), wi [3, 0, 1] Z⟩
 intro _
 have h := h243
 refine aw_region (xy Z (xz (.i (w64 (s231.j + 1))) Z (xy Z (xe ?_))))
 cases h
 exact ⟨_, (), Z, wi [0, 1, 2] Z⟩
 refine aw_exit ?_
 cases h
 cases congrArg some (hx232 _ rfl)
 exact ⟨(), wi [0, 1, 2] Z⟩
 intro _
 have h := h191
 refine xr (xy Z (xy Z ?_))
 obtain ⟨c253, h⟩ := need_of h
 refine xc Z (op_sliceVecM Z underlying38 sizeOf52 (tm Z) (q := 0) Z ⟨_, (tm Z)⟩ Z c253 ?_)
 obtain ⟨c254, h⟩ := need_of h
 refine ac0 Z Z (op_clearVM (q := 0) api.Left.av (({ Tenant := 0, Keep := ({ Name := nS, Bytes := 0 } : api.Keep) } : api.Left) : api.Left) Z underlying38 zeroValue52 Z Z (tm Z) Z c254 (xe (xr (xy Z (xy Z ?_)))))
 obtain ⟨c255, h⟩ := need_of h
 refine xc Z (op_sliceVecM Z underlying38 sizeOf52 (tm Z) (q := 0) Z Z ⟨_, (tm Z)⟩ c255 (xy Z (xe ?_)))
 obtain ⟨c256, h⟩ := need_of h
 refine aw_shrinkM 4 0 (tm Z) Z c256 fun p257 => (aw_ret ?_)
 cases h
 exact rt ⟨p257, Z, Z⟩ Z (wi [1, 2, 0] Z)

theorem project.Tenant.ok {c_ l i r} (h : project.Tenant c_ l i = some r) : Sp prog 10 [.agg [.sl .no 14 (m0L c_.Tenants), .i c_.Quantum, .i c_.Deadline], .sl .no 9 (m1L l), .i i] [] (fun v H => ∃ n0, v = .sl (.own n0) 9 (m1L r) ∧ H = [(n0, .spare)]) := by
 unfold project.Tenant at h
 refine sb [.tmp 6] func10 Z (xr (xb [.sl .no 14 (m0L c_.Tenants), .i c_.Quantum, .i c_.Deadline] Z fun p756 => xb [.i i] Z fun p757 => xa (.sl .full 9 e6L) Z (pu_assign Z (AEv.nil 9 (by decide))) (xe (xr (xL 1 isAgg24 sizeOf24 Z (xy Z ?_))))))
 obtain ⟨r758, r758e, h⟩ := bind_some h
 refine xk (project.labels.ok r758e) call15 Z ?_
 rintro _ _ ⟨t759, rfl, rfl⟩
 refine xA (.lit (.map none)) zeroValue42 Z fun p760 => xs 0 [.map t759] sizeOf42 Z (xe (xr (xa (.fn 19 [.ptr p760 0, .ptr p757 0]) Z (pu_makeFunc Z ⟨(tm Z), (tm Z), trivial⟩) (xy Z (xe (xr (xa (.sl .full 9 e6L) Z (pu_assign Z (AEv.nil 9 (by decide))) ?_)))))))
 refine xe ?_
 obtain ⟨s1134, s1134e, h1136⟩ := bind_some h
 refine aw_meet (ν := Nat) (fun v => [(9, .sl (.own v) 9 (m1L s1134))]) (fun v => [(v, .spare)]) ?_ ?_
 have h := s1134e
 refine xr (xy Z (xa (.i (l.length : Int)) Z (pu_lenM Z underlying25 (tm Z)) (xz (.i 0) Z (xe (aw_block (aw_claim 9 (tm Z) fun t1510 => (aw_while (σ := project.Tenant.S0) (ν := Nat) (project.Tenant.body0 l i r758 c_) (fun s1384 v => [(3, .ptr p756 0), (5, .ptr p757 0), (8, .fn 19 [.ptr p760 0, .ptr p757 0]), (9, .sl (.own v) 9 (m1L s1384.out)), (17, .sl .no 9 (m1L l)), (18, .i (l.length : Int)), (19, .i s1384.t19)]) (fun s1384 v => [(p756, .cells [.sl .no 14 (m0L c_.Tenants), .i c_.Quantum, .i c_.Deadline]), (p757, .cells [.i i]), (p760, .cells [.map t759]), (v, .spare), (t759, .abs (mapAbs prog 3 (mpE mkI (AV.int .i64) r758)))]) ⟨([] : List api.Event), 0⟩ t1510 _ h (wi [4, 3, 1, 0, 2] Z) ?_)))))))
 rintro s1384 n1385 x1387 h hx1386
 unfold project.Tenant.body0 at h
 refine xr (xz (bd (s1384.t19 < (l.length : Int))) Z (xe (aw_seq (cd h Z (fun _ h => ?_) (fun _ h => ?_)))))
 refine aw_skip ?_
 obtain ⟨s1447, s1447e, h1449⟩ := bind_some h
 refine aw_meet (ν := Nat) (fun v => [(3, .ptr p756 0), (5, .ptr p757 0), (8, .fn 19 [.ptr p760 0, .ptr p757 0]), (9, .sl (.own v) 9 (m1L s1447)), (17, .sl .no 9 (m1L l)), (18, .i (l.length : Int)), (19, .i s1384.t19)]) (fun v => [(p756, .cells [.sl .no 14 (m0L c_.Tenants), .i c_.Quantum, .i c_.Deadline]), (p757, .cells [.i i]), (p760, .cells [.map t759]), (v, .spare), (t759, .abs (mapAbs prog 3 (mpE mkI (AV.int .i64) r758)))]) ?_ ?_
 have h := s1447e
 refine aw_block (aw_seq (aw_region ?_))
 obtain ⟨c1451, h⟩ := need_of h
 refine xa (.vptr [.i (ix l s1384.t19).Kind, .i (ix l s1384.t19).Handle, .str (ix l s1384.t19).S, .i (ix l s1384.t19).N, .i (ix l s1384.t19).Tenant, .str (ix l s1384.t19).Fault.Name, .i (ix l s1384.t19).Fault.Kind, .i (ix l s1384.t19).Fault.Short, .sl .no 3 (m2L (ix l s1384.t19).Lefts)]) Z (pu_indexAddrM Z underlying25 sizeOf40 (tm Z) (tm Z) c1451 Z) (xc Z (op_loadVN Z isAgg40 sizeOf40 (tm Z) (nb Z) Z (xA (.agg [.i 0, .i 0, .str nS, .i 0, .i 0, .str nS, .i 0, .i 0, .sl .full 3 e0L]) zeroValue40 Z fun p1452 => xs 0 (api.Event.ct .no (ix l s1384.t19)) sizeOf40 Z (xe (xr (xz (.bool false) Z (xe ?_)))))))
 obtain ⟨s1478, s1478e, h1479⟩ := bind_some h
 refine aw_meet (ν := Unit) (fun v => [(3, .ptr p756 0), (5, .ptr p757 0), (8, .fn 19 [.ptr p760 0, .ptr p757 0]), (9, .sl (.own n1385) 9 (m1L s1384.out)), (11, .ptr p1452 0), (12, .bool s1478.1), (17, .sl .no 9 (m1L l)), (18, .i (l.length : Int)), (19, .i s1384.t19)]) (fun v => [(p756, .cells [.sl .no 14 (m0L c_.Tenants), .i c_.Quantum, .i c_.Deadline]), (p757, .cells [.i i]), (p760, .cells [.map t759]), (n1385, .spare), (p1452, .cells (api.Event.ct .no { (ix l s1384.t19) with Lefts := s1478.2 })), (t759, .abs (mapAbs prog 3 (mpE mkI (AV.int .i64) r758)))]) ?_ ?_
 have h := s1478e
 refine xr (xf (.ptr p1452 0) underlying40 sizeOf3 Z (xl 0 isAgg3 Z (xe (aw_block ?_))))
 obtain ⟨s1484, s1484e, h1485⟩ := letO_of h
 refine aw_meet (ν := Unit) (fun v => [(3, .ptr p756 0), (5, .ptr p757 0), (8, .fn 19 [.ptr p760 0, .ptr p757 0]), (9, .sl (.own n1385) 9 (m1L s1384.out)), (11, .ptr p1452 0), (12, .bool false), (17, .sl .no 9 (m1L l)), (18, .i (l.length : Int)), (19, .i s1384.t19), (24, .i (ix l s1384.t19).Kind), (25, .bool s1484)]) (fun v => [(p756, .cells [.sl .no 14 (m0L c_.Tenants), .i c_.Quantum, .i c_.Deadline]), (p757, .cells [.i i]), (p760, .cells [.map t759]), (n1385, .spare), (p1452, .cells (api.Event.ct .no (ix l s1384.t19))), (t759, .abs (mapAbs prog 3 (mpE mkI (AV.int .i64) r758)))]) ?_ ?_
 have h := s1484e.symm
 refine xr (xz (bd ((ix l s1384.t19).Kind = 1)) Z (xy Z (xe (cd h Z (fun _ h => ?_) (fun _ h => ?_)))))
 refine aw_skip ?_
 subst h
 exact ⟨(), wi [1, 2, 3, 4, 0, 5] Z⟩
 refine xr (xz (bd ((ix l s1384.t19).Kind = 2)) Z (xy Z (xe (cd h Z (fun _ h => ?_) (fun _ h => ?_)))))
 refine aw_skip ?_
 subst h
 exact ⟨(), wi [1, 2, 3, 4, 0, 5] Z⟩
 refine xr (xz (bd ((ix l s1384.t19).Kind = 3)) Z (xy Z (xe (cd h Z (fun _ h => ?_) (fun _ h => ?_)))))
 refine aw_skip ?_
 subst h
 exact ⟨(), wi [1, 2, 3, 4, 0, 5] Z⟩
 refine aw_region (xz (bd ((ix l s1384.t19).Kind = 4)) Z (xy Z (xe ?_)))
 subst h
 exact ⟨(), wi [1, 2, 3, 4, 0, 5] Z⟩
 intro _
 have h := h1485
 refine aw_cond (b := s1484) (tm Z) (fun hb1505 => ?_) (fun hb1505 => ?_)
 replace h := ite_t hb1505 h
 refine aw_region (xy Z (xf (.ptr p1452 1) underlying40 sizeOf3 Z (xl 4 isAgg3 Z ?_)))
 obtain ⟨r1490, r1490e, h⟩ := bind_some h
 refine aops_weak (weak_pick [2, 1, 5, 0, 3, 4] (by decide) Z) (xc Z (op_callV (vs := [.i (ix l s1384.t19).Handle]) (H := [(p760, .cells [.map t759]), (p757, .cells [.i i]), (t759, .abs (mapAbs prog 3 (mpE mkI (AV.int .i64) r758)))]) Z (tm Z) call19 ⟨(tm Z), trivial⟩ (List.Perm.refl _) (project.Tenant_1.ok r1490e p760 p757 t759) ?_))
 rintro _ _ ⟨rfl, rfl⟩
 refine xy Z (xe ?_)
 cases h
 exact ⟨(), wi [3, 1, 0, 4, 5, 2] Z⟩
 replace h := ite_fb hb1505 h
 obtain ⟨s1492, s1492e, h1493⟩ := letO_of h
 refine aw_meet (ν := Unit) (fun v => [(3, .ptr p756 0), (5, .ptr p757 0), (8, .fn 19 [.ptr p760 0, .ptr p757 0]), (9, .sl (.own n1385) 9 (m1L s1384.out)), (11, .ptr p1452 0), (12, .bool false), (17, .sl .no 9 (m1L l)), (18, .i (l.length : Int)), (19, .i s1384.t19), (24, .i (ix l s1384.t19).Kind), (34, .bool s1492)]) (fun v => [(p756, .cells [.sl .no 14 (m0L c_.Tenants), .i c_.Quantum, .i c_.Deadline]), (p757, .cells [.i i]), (p760, .cells [.map t759]), (n1385, .spare), (p1452, .cells (api.Event.ct .no (ix l s1384.t19))), (t759, .abs (mapAbs prog 3 (mpE mkI (AV.int .i64) r758)))]) ?_ ?_
 have h := s1492e.symm
 refine xr (xz (bd ((ix l s1384.t19).Kind = 5)) Z (xy Z (xe (cd h Z (fun _ h => ?_) (fun _ h => ?_)))))
 refine aw_skip ?_
 subst h
 exact ⟨(), wi [0, 1, 2, 3, 4, 5] Z⟩
 refine aw_region (xz (bd ((ix l s1384.t19).Kind = 6)) Z (xy Z (xe ?_)))
 subst h
 exact ⟨(), wi [0, 1, 2, 3, 4, 5] Z⟩
 intro _
 have h := h1493
 refine aw_cond (b := s1492) (tm Z) (fun hb1504 => ?_) (fun hb1504 => ?_)
 replace h := ite_t hb1504 h
 refine aw_region (xz (.bool true) Z (xe ?_))
 cases h
 exact ⟨(), wi [0, 1, 2, 3, 4, 5] Z⟩
 replace h := ite_fb hb1504 h
 refine xr (xz (bd ((ix l s1384.t19).Kind = 7)) Z (xy Z (xe (cd h Z (fun _ h => ?_) (fun _ h => ?_)))))
 refine aw_region (xf (.ptr p1452 4) underlying40 sizeOf3 Z (xl 4 isAgg3 Z (xl 1 isAgg3 Z (xz (bd ((ix l s1384.t19).Tenant = i)) Z (xy Z ?_)))))
 rcases Bool.eq_false_or_eq_true (decide ((ix l s1384.t19).Tenant = i)) with hb1496 | hb1496
 replace h := ite_t (dec_t hb1496) h
 refine aops_known 43 Z hb1496 (xg Z Z (op_load1 (i := 1) Z isAgg3 (tm Z) Z Z (xp (bd (0 ≤ i)) Z Z (pe Z) (xz (bd (0 ≤ i)) Z (xy Z ?_)))))
 rcases Bool.eq_false_or_eq_true (decide (0 ≤ i)) with hb1497 | hb1497
 replace h := ite_t (dec_t hb1497) h
 refine aops_known 47 Z hb1497 (xg Z Z (op_load1 (i := 1) Z isAgg3 (tm Z) Z Z (xp (.ptr p756 0) Z Z (fa Z underlying24 Z sizeOf22 Z Z Z) (xg Z Z (op_load1 (i := 0) Z isAgg22 (tm Z) Z Z (xp (.i (c_.Tenants.length : Int)) Z Z (pu_lenM Z underlying22 (tm Z)) (xp (bd (i < (c_.Tenants.length : Int))) Z Z (pe Z) (xz (bd (i < (c_.Tenants.length : Int))) Z (xy Z (xe ?_))))))))))
 cases h
 exact ⟨(), wi [0, 1, 2, 3, 4, 5] Z⟩
 replace h := ite_f (dec_f hb1497) h
 refine aops_known 47 Z hb1497 (xu Z (xu Z (xu Z (xu Z (xu Z (xz (.bool false) Z (xy Z (xe ?_))))))))
 cases h
 exact ⟨(), wi [0, 1, 2, 3, 4, 5] Z⟩
 replace h := ite_f (dec_f hb1496) h
 refine aops_known 43 Z hb1496 (xu Z (xu Z (xz (.bool false) Z (xy Z (xu Z (xu Z (xu Z (xu Z (xu Z ?_)))))))))
 refine xz (.bool false) Z (xy Z (xe ?_))
 cases h
 exact ⟨(), wi [0, 1, 2, 3, 4, 5] Z⟩
 refine xr (xz (bd ((ix l s1384.t19).Kind = 8)) Z (xy Z (xe (cd h Z (fun _ h => ?_) (fun _ h => ?_)))))
 refine xr (xz (.bool true) Z (xe (aw_region (xf (.ptr p1452 8) underlying40 sizeOf38 Z (xl 4 isAgg38 Z ?_)))))
 obtain ⟨r1498, r1498e, h⟩ := bind_some h
 refine xk (slices.Clone_api_Left.ok r1498e) call21 Z ?_
 rintro _ _ ⟨t1499, rfl, rfl⟩
 refine xa (.fn 22 [.ptr p757 0, .ptr p756 0]) Z (pu_makeFunc Z ⟨(tm Z), (tm Z), trivial⟩) ?_
 obtain ⟨r1500, r1500e, h⟩ := bind_some h
 refine aops_weak (weak_pick [0, 2, 1, 3, 4, 5, 6] (by decide) Z) (xk (slices.DeleteFunc_api_Left_v_project_Tenant_2.ok r1500e t1499 p757 p756) call20 Z ?_)
 rintro _ _ ⟨t1501, rfl, rfl⟩
 refine xf (.ptr p1452 8) underlying40 sizeOf38 Z (aops_publish 60 2 (tm Z) Z (xs 4 (api.Event.ct .no { (ix l s1384.t19) with Lefts := r1500 }) sizeOf38 Z (xe ?_)))
 cases h
 exact ⟨(), wi [1, 0, 2, 3, 4, 5] Z⟩
 refine aw_skip ?_
 cases h
 exact ⟨(), wi [0, 1, 2, 3, 4, 5] Z⟩
 intro _
 have h := h1479
 refine xr (xy Z (xe (cb h Z (fun _ h => ?_) (fun _ h => ?_))))
 refine aw_region (xy Z (xL 4 isAgg40 sizeOf40 Z (xc Z (op_buildSlice (xs := ([{ (ix l s1384.t19) with Lefts := s1478.2 }] : List api.Event).map api.Event.av) (aparts := [(0, .agg (api.Event.ct .no { (ix l s1384.t19) with Lefts := s1478.2 }))]) Z underlying25 sizeOf40 zeroValue40 (by decide) (by decide) ⟨Z, (tm Z), trivial⟩ Z Z Z ?_))))
 obtain ⟨c1506, h⟩ := need_of h
 refine xc Z (op_appendOM (q := 3) Z underlying25 underlying25 (.inl Z) typeInfo40 Z Z Z (by decide) (tm Z) Z (given_sl (tm Z)) c1506 ?_)
 intro t1507
 refine xy Z (xe ?_)
 cases h
 exact ⟨t1507, wi [0, 1, 2, 3, 5] Z⟩
 refine aw_skip ?_
 cases h
 exact ⟨n1385, wi [0, 1, 2, 3, 5] Z⟩
 intro n1448
 have h := h1449
 refine aw_region (xz (.i (w64 (s1384.t19 + 1))) Z (xy Z (xe ?_)))
 cases h
 exact ⟨_, n1448, Z, wi [0, 1, 2, 3, 4] Z⟩
 refine aw_exit ?_
 cases h
 cases congrArg some (hx1386 _ rfl)
 exact ⟨n1385, wi [3] Z⟩
 intro n1135
 have h := h1136
 refine xr (xy Z (xy Z (xe (aw_ret ?_))))
 cases h
 exact rt ⟨n1135, Z, Z⟩ Z (wi [0] Z)

theorem slices.Equal_api_Left.ok {s1_ s2_ r} (h : slices.Equal_api_Left s1_ s2_ = some r) : Sp prog 38 [.sl .no 3 (m2L s1_), .sl .no 3 (m2L s2_)] [] (fun v H => v = .bool r ∧ H = []) := by
 unfold slices.Equal_api_Left at h
 refine sb [.tmp 4] func38 Z (xr (xz (.bool false) Z (xe (aw_seq (xr (xy Z (xa (.i (s1_.length : Int)) Z (pu_lenM Z underlying38 (tm Z)) ?_)))))))
 refine xy Z (xa (.i (s2_.length : Int)) Z (pu_lenM Z underlying38 (tm Z)) (xz (bn ((s1_.length : Int) = (s2_.length : Int))) Z (xe (cn h Z (fun _ h => ?_) (fun _ h => ?_)))))
 refine xr (xz (.bool false) Z (xe (aw_ret ?_)))
 cases h
 exact rt ⟨Z, Z⟩ Z w0
 refine aw_skip ?_
 obtain ⟨s81, s81e, h61⟩ := bind_some h
 refine aw_join (σ := Unit) (ν := Unit) (fun u v => []) (fun u v => []) (fun u => s81 = .inl u) ?_ ?_
 intro s60
 intro _
 rintro rfl
 have h := onSum_inl h61
 refine xr (xz (.bool true) Z (xe (aw_ret ?_)))
 cases h
 exact rt ⟨Z, Z⟩ Z w0
 have h := s81e
 refine xr (xy Z (xa (.i (s1_.length : Int)) Z (pu_lenM Z underlying38 (tm Z)) (xz (.i 0) Z (xe (aw_block (aw_while (σ := slices.Equal_api_Left.S0) (ν := Unit) (slices.Equal_api_Left.body0 s1_ s2_) (fun s73 v => [(0, .sl .no 3 (m2L s1_)), (1, .sl .no 3 (m2L s2_)), (12, .i (s1_.length : Int)), (13, .i s73.t13)]) (fun s73 v => []) ⟨0⟩ () _ h (wi [] Z) ?_))))))
 rintro s73 _ x75 h hx74
 unfold slices.Equal_api_Left.body0 at h
 refine xr (xz (bd (s73.t13 < (s1_.length : Int))) Z (xe (aw_seq (cd h Z (fun _ h => ?_) (fun _ h => ?_)))))
 refine aw_skip (aw_seq (aw_block (xr (xy Z (xy Z (xe (aw_seq ?_)))))))
 obtain ⟨c77, h⟩ := need_of h
 obtain ⟨c78, h⟩ := need_of h
 refine aw_planR (by decide +kernel) [[], [], [], [], [], [], [], [], []] [] [] [.sl .no 3 (m2L s1_), .i s73.t13, .vptr [.i (ix s1_ s73.t13).Tenant, .str (ix s1_ s73.t13).Keep.Name, .i (ix s1_ s73.t13).Keep.Bytes], .agg [.i (ix s1_ s73.t13).Tenant, .str (ix s1_ s73.t13).Keep.Name, .i (ix s1_ s73.t13).Keep.Bytes], .sl .no 3 (m2L s2_), .i s73.t13, .vptr [.i (ix s2_ s73.t13).Tenant, .str (ix s2_ s73.t13).Keep.Name, .i (ix s2_ s73.t13).Keep.Bytes], .agg [.i (ix s2_ s73.t13).Tenant, .str (ix s2_ s73.t13).Keep.Name, .i (ix s2_ s73.t13).Keep.Bytes], bn ((ix s1_ s73.t13) = (ix s2_ s73.t13))] (by decide +kernel) Z Z ?_ ?_
 exact ⟨ym Z Z Z, ym Z Z Z, yp Z (pu_indexAddrM Z underlying38 sizeOf52 (tm Z) (tm Z) c77 Z), stepg_plain Z (op_loadVN Z isAgg52 sizeOf52 (tm Z) (nb Z) Z ⟨Z, Z⟩), ym Z Z Z, ym Z Z Z, yp Z (pu_indexAddrM Z underlying38 sizeOf52 (tm Z) (tm Z) c78 Z), stepg_plain Z (op_loadVN Z isAgg52 sizeOf52 (tm Z) (nb Z) Z ⟨Z, Z⟩), yp Z (pu_neV Z (by kernel_rfl) (tm Z) (tm Z) (VEq.eq (VEq.struct (k := 2) underlying52 (by kernel_rfl) ⟨_, _, _, _, ⟨by decide, .inl ⟨isAgg3, Z⟩, .inl ⟨isAgg3, Z⟩, (VEq.of (CEq.int underlying3))⟩, ⟨_, _, _, _, ⟨by decide, .inr ⟨2, isAgg50, sizeOf50, Nat.le_of_ble_eq_true Z, Z⟩, .inr ⟨2, isAgg50, sizeOf50, Nat.le_of_ble_eq_true Z, Z⟩, (VEq.eq (VEq.struct (k := 1) underlying50 (by kernel_rfl) ⟨_, _, _, _, ⟨by decide, .inl ⟨isAgg9, Z⟩, .inl ⟨isAgg9, Z⟩, (VEq.of (CEq.str underlying9))⟩, ⟨_, _, _, _, ⟨by decide, .inl ⟨isAgg3, Z⟩, .inl ⟨isAgg3, Z⟩, (VEq.of (CEq.int underlying3))⟩, Z, Z⟩, Z⟩) (api.Keep.eq_iff (ix s1_ s73.t13).Keep (ix s2_ s73.t13).Keep))⟩, Z, Z⟩, Z⟩) (api.Left.eq_iff (ix s1_ s73.t13) (ix s2_ s73.t13))) (by decide)), trivial⟩
 refine aw_cond (b := (!decide ((ix s1_ s73.t13) = (ix s2_ s73.t13)))) (tm Z) (fun hb79 => ?_) (fun hb79 => ?_)
 replace h := ite_f (ndec_t hb79) h
 refine xr (xz (.bool false) Z (xe (aw_ret ?_)))
 cases h
 cases congrArg some (hx74 _ rfl)
 cases onSum_inr h61
 exact rt ⟨Z, Z⟩ Z w0
 replace h := ite_t (ndec_f hb79) h
 refine aw_skip (aw_region (xz (.i (w64 (s73.t13 + 1))) Z (xy Z (xe ?_))))
 cases h
 exact ⟨_, (), Z, wi [] Z⟩
 refine aw_exit ?_
 cases h
 have h := congrArg some (hx74 _ rfl)
 exact ⟨(), (), (some_of h).symm, w0⟩

theorem event.Same.ok {a b r} (h : event.Same a b = some r) : Sp prog 29 [.agg (api.Event.ct .no a), .agg (api.Event.ct .no b)] [] (fun v H => v = .bool r ∧ H = []) := by
 unfold event.Same at h
 refine sb [.tmp 4] func29 Z (xr (xb (api.Event.ct .no a) Z fun p20 => xb (api.Event.ct .no b) Z fun p21 => xz (.bool false) Z (xe ?_)))
 obtain ⟨s29, s29e, h30⟩ := bind_some h
 refine aw_meet (ν := Unit) (fun v => [(4, .bool s29)]) (fun v => []) ?_ ?_
 have h := s29e
 refine aw_region (xf (.ptr p20 0) underlying40 sizeOf3 Z (xl 1 isAgg3 Z (xf (.ptr p21 0) underlying40 sizeOf3 Z (xl 0 isAgg3 Z (xz (bd (a.Kind = b.Kind)) Z (xy Z ?_))))))
 rcases Bool.eq_false_or_eq_true (decide (a.Kind = b.Kind)) with hb32 | hb32
 replace h := ite_t (dec_t hb32) h
 refine aops_known 10 Z hb32 (xp (.ptr p20 1) Z Z (fa Z underlying40 Z sizeOf3 Z Z Z) (xg Z Z (op_load1 (i := 1) Z isAgg3 (tm Z) Z Z (xp (.ptr p21 1) Z Z (fa Z underlying40 Z sizeOf3 Z Z Z) (xg Z Z (op_load1 (i := 0) Z isAgg3 (tm Z) Z Z (xp (bd (a.Handle = b.Handle)) Z Z (pe Z) (xz (bd (a.Handle = b.Handle)) Z (xy Z ?_)))))))))
 rcases Bool.eq_false_or_eq_true (decide (a.Handle = b.Handle)) with hb33 | hb33
 replace h := ite_t (dec_t hb33) h
 refine aops_known 17 Z hb33 (xp (.ptr p20 2) Z Z (fa Z underlying40 Z sizeOf9 Z Z Z) (xg Z Z (op_load1 (i := 1) Z isAgg9 (tm Z) Z Z (xp (.ptr p21 2) Z Z (fa Z underlying40 Z sizeOf9 Z Z Z) (xg Z Z (op_load1 (i := 0) Z isAgg9 (tm Z) Z Z (xp (bd (a.S = b.S)) Z Z (pu_str (v := bd (a.S = b.S)) Z Z (tm Z) (tm Z) Z) (xz (bd (a.S = b.S)) Z (xy Z ?_)))))))))
 rcases Bool.eq_false_or_eq_true (decide (a.S = b.S)) with hb34 | hb34
 replace h := ite_t (dec_t hb34) h
 refine aops_known 24 Z hb34 (xp (.ptr p20 3) Z Z (fa Z underlying40 Z sizeOf2 Z Z Z) (xg Z Z (op_load1 (i := 1) Z isAgg2 (tm Z) Z Z (xp (.ptr p21 3) Z Z (fa Z underlying40 Z sizeOf2 Z Z Z) (xg Z Z (op_load1 (i := 0) Z isAgg2 (tm Z) Z Z (xp (bd (a.N = b.N)) Z Z (pe Z) (xz (bd (a.N = b.N)) Z (xy Z ?_)))))))))
 rcases Bool.eq_false_or_eq_true (decide (a.N = b.N)) with hb35 | hb35
 replace h := ite_t (dec_t hb35) h
 refine aops_known 31 Z hb35 (xp (.ptr p20 4) Z Z (fa Z underlying40 Z sizeOf3 Z Z Z) (xg Z Z (op_load1 (i := 1) Z isAgg3 (tm Z) Z Z (xp (.ptr p21 4) Z Z (fa Z underlying40 Z sizeOf3 Z Z Z) (xg Z Z (op_load1 (i := 0) Z isAgg3 (tm Z) Z Z (xp (bd (a.Tenant = b.Tenant)) Z Z (pe Z) (xz (bd (a.Tenant = b.Tenant)) Z (xy Z ?_)))))))))
 rcases Bool.eq_false_or_eq_true (decide (a.Tenant = b.Tenant)) with hb36 | hb36
 replace h := ite_t (dec_t hb36) h
 refine aops_known 38 Z hb36 (xp (.ptr p20 5) Z Z (fa Z underlying40 Z sizeOf37 Z Z Z) (xg Z Z (op_loadN (i := 1) Z isAgg37 sizeOf37 (tm Z) Z (nb Z) Z (xp (.ptr p21 5) Z Z (fa Z underlying40 Z sizeOf37 Z Z Z) (xg Z Z (op_loadN (i := 0) Z isAgg37 sizeOf37 (tm Z) Z (nb Z) Z (xp (bd (a.Fault = b.Fault)) Z Z (APure.eq (pu_structEq (b := (decide (a.Fault.Name = b.Fault.Name) && (decide (a.Fault.Kind = b.Fault.Kind) && (decide (a.Fault.Short = b.Fault.Short) && true)))) Z underlying37 (by kernel_rfl) (by kernel_rfl) (tm Z) (tm Z) ⟨_, _, _, _, ⟨by decide, isAgg9, Z, Z, CEq.str underlying9⟩, ⟨_, _, _, _, ⟨by decide, isAgg3, Z, Z, CEq.int underlying3⟩, ⟨_, _, _, _, ⟨by decide, isAgg3, Z, Z, CEq.int underlying3⟩, Z, Z⟩, Z⟩, Z⟩) (congrArg AV.bool (api.Fault.eq_iff a.Fault b.Fault).symm)) (xz (bd (a.Fault = b.Fault)) Z (xy Z ?_)))))))))
 rcases Bool.eq_false_or_eq_true (decide (a.Fault = b.Fault)) with hb37 | hb37
 replace h := ite_t (dec_t hb37) h
 refine aops_known 45 Z hb37 (xp (.ptr p20 8) Z Z (fa Z underlying40 Z sizeOf38 Z Z Z) (xg Z Z (op_load1 (i := 1) Z isAgg38 (tm Z) Z Z (xp (.ptr p21 8) Z Z (fa Z underlying40 Z sizeOf38 Z Z Z) (xg Z Z (op_load1 (i := 0) Z isAgg38 (tm Z) Z Z ?_))))))
 obtain ⟨r38, r38e, h⟩ := bind_some h
 refine xg Z Z (op_call (vs := [.sl .no 3 (m2L a.Lefts), .sl .no 3 (m2L b.Lefts)]) (H := []) Z call38 ⟨(tm Z), (tm Z), trivial⟩ (List.Perm.refl _) (slices.Equal_api_Left.ok r38e) ?_)
 rintro _ _ ⟨rfl, rfl⟩
 refine xz (.bool r38) Z (xy Z (xe ?_))
 cases h
 exact ⟨(), wi [] Z⟩
 replace h := ite_f (dec_f hb37) h
 refine aops_known 45 Z hb37 (xu Z (xu Z (xu Z (xu Z (xu Z (xz (.bool false) Z (xy Z (xe ?_))))))))
 cases h
 exact ⟨(), wi [] Z⟩
 replace h := ite_f (dec_f hb36) h
 refine aops_known 38 Z hb36 (xu Z (xu Z (xu Z (xu Z (xu Z (xz (.bool false) Z (xy Z (xu Z (xu Z ?_)))))))))
 refine xu Z (xu Z (xu Z (xz (.bool false) Z (xy Z (xe ?_)))))
 cases h
 exact ⟨(), wi [] Z⟩
 replace h := ite_f (dec_f hb35) h
 refine aops_known 31 Z hb35 (xu Z (xu Z (xu Z (xu Z (xu Z (xz (.bool false) Z (xy Z (xu Z (xu Z ?_)))))))))
 refine xu Z (xu Z (xu Z (xz (.bool false) Z (xy Z (xu Z (xu Z (xu Z (xu Z (xu Z ?_)))))))))
 refine xz (.bool false) Z (xy Z (xe ?_))
 cases h
 exact ⟨(), wi [] Z⟩
 replace h := ite_f (dec_f hb34) h
 refine aops_known 24 Z hb34 (xu Z (xu Z (xu Z (xu Z (xu Z (xz (.bool false) Z (xy Z (xu Z (xu Z ?_)))))))))
 refine xu Z (xu Z (xu Z (xz (.bool false) Z (xy Z (xu Z (xu Z (xu Z (xu Z (xu Z ?_)))))))))
 refine xz (.bool false) Z (xy Z (xu Z (xu Z (xu Z (xu Z (xu Z (xz (.bool false) Z (xy Z (xe ?_)))))))))
 cases h
 exact ⟨(), wi [] Z⟩
 replace h := ite_f (dec_f hb33) h
 refine aops_known 17 Z hb33 (xu Z (xu Z (xu Z (xu Z (xu Z (xz (.bool false) Z (xy Z (xu Z (xu Z ?_)))))))))
 refine xu Z (xu Z (xu Z (xz (.bool false) Z (xy Z (xu Z (xu Z (xu Z (xu Z (xu Z ?_)))))))))
 refine xz (.bool false) Z (xy Z (xu Z (xu Z (xu Z (xu Z (xu Z (xz (.bool false) Z (xy Z (xu Z ?_)))))))))
 refine xu Z (xu Z (xu Z (xu Z (xz (.bool false) Z (xy Z (xe ?_))))))
 cases h
 exact ⟨(), wi [] Z⟩
 replace h := ite_f (dec_f hb32) h
 refine aops_known 10 Z hb32 (xu Z (xu Z (xu Z (xu Z (xu Z (xz (.bool false) Z (xy Z (xu Z (xu Z ?_)))))))))
 refine xu Z (xu Z (xu Z (xz (.bool false) Z (xy Z (xu Z (xu Z (xu Z (xu Z (xu Z ?_)))))))))
 refine xz (.bool false) Z (xy Z (xu Z (xu Z (xu Z (xu Z (xu Z (xz (.bool false) Z (xy Z (xu Z ?_)))))))))
 refine xu Z (xu Z (xu Z (xu Z (xz (.bool false) Z (xy Z (xu Z (xu Z (xu Z (xu Z ?_)))))))))
 refine xu Z (xz (.bool false) Z (xy Z (xe ?_)))
 cases h
 exact ⟨(), wi [] Z⟩
 intro _
 have h := h30
 refine aw_ret ?_
 cases h
 exact rt ⟨Z, Z⟩ Z w0

theorem slices.EqualFunc_api_Event_event_Same.ok {s1_ s2_ r} (h : slices.EqualFunc_api_Event_event_Same s1_ s2_ = some r) : Sp prog 28 [.sl .no 9 (m1L s1_), .sl .no 9 (m1L s2_), .fn 29 []] [] (fun v H => v = .bool r ∧ H = []) := by
 unfold slices.EqualFunc_api_Event_event_Same at h
 refine sb [.tmp 6] func28 Z (xr (xz (.bool false) Z (xe (aw_seq (xr (xy Z (xa (.i (s1_.length : Int)) Z (pu_lenM Z underlying25 (tm Z)) ?_)))))))
 refine xy Z (xa (.i (s2_.length : Int)) Z (pu_lenM Z underlying25 (tm Z)) (xz (bn ((s1_.length : Int) = (s2_.length : Int))) Z (xe (cn h Z (fun _ h => ?_) (fun _ h => ?_)))))
 refine xr (xz (.bool false) Z (xe (aw_ret ?_)))
 cases h
 exact rt ⟨Z, Z⟩ Z w0
 refine aw_skip ?_
 obtain ⟨s117, s117e, h88⟩ := bind_some h
 refine aw_join (σ := Unit) (ν := Unit) (fun u v => []) (fun u v => []) (fun u => s117 = .inl u) ?_ ?_
 intro s87
 intro _
 rintro rfl
 have h := onSum_inl h88
 refine xr (xz (.bool true) Z (xe (aw_ret ?_)))
 cases h
 exact rt ⟨Z, Z⟩ Z w0
 have h := s117e
 refine xr (xy Z (xa (.i (s1_.length : Int)) Z (pu_lenM Z underlying25 (tm Z)) (xz (.i 0) Z (xe (aw_block (aw_while (σ := slices.EqualFunc_api_Event_event_Same.S0) (ν := Unit) (slices.EqualFunc_api_Event_event_Same.body0 s1_ s2_) (fun s106 v => [(1, .sl .no 9 (m1L s2_)), (2, .fn 29 []), (15, .sl .no 9 (m1L s1_)), (16, .i (s1_.length : Int)), (17, .i s106.t17)]) (fun s106 v => []) ⟨0⟩ () _ h (wi [] Z) ?_))))))
 rintro s106 _ x108 h hx107
 unfold slices.EqualFunc_api_Event_event_Same.body0 at h
 refine xr (xz (bd (s106.t17 < (s1_.length : Int))) Z (xe (aw_seq (cd h Z (fun _ h => ?_) (fun _ h => ?_)))))
 refine aw_skip (aw_seq (aw_block (xr (xy Z ?_))))
 obtain ⟨c110, h⟩ := need_of h
 refine xa (.vptr [.i (ix s1_ s106.t17).Kind, .i (ix s1_ s106.t17).Handle, .str (ix s1_ s106.t17).S, .i (ix s1_ s106.t17).N, .i (ix s1_ s106.t17).Tenant, .str (ix s1_ s106.t17).Fault.Name, .i (ix s1_ s106.t17).Fault.Kind, .i (ix s1_ s106.t17).Fault.Short, .sl .no 3 (m2L (ix s1_ s106.t17).Lefts)]) Z (pu_indexAddrM Z underlying25 sizeOf40 (tm Z) (tm Z) c110 Z) (xc Z (op_loadVN Z isAgg40 sizeOf40 (tm Z) (nb Z) Z (xA (.agg [.i 0, .i 0, .str nS, .i 0, .i 0, .str nS, .i 0, .i 0, .sl .full 3 e0L]) zeroValue40 Z fun p111 => xy Z (xs 0 (api.Event.ct .no (ix s1_ s106.t17)) sizeOf40 Z (xe (xr (xy Z (xy Z ?_))))))))
 obtain ⟨c112, h⟩ := need_of h
 refine xa (.vptr [.i (ix s2_ s106.t17).Kind, .i (ix s2_ s106.t17).Handle, .str (ix s2_ s106.t17).S, .i (ix s2_ s106.t17).N, .i (ix s2_ s106.t17).Tenant, .str (ix s2_ s106.t17).Fault.Name, .i (ix s2_ s106.t17).Fault.Kind, .i (ix s2_ s106.t17).Fault.Short, .sl .no 3 (m2L (ix s2_ s106.t17).Lefts)]) Z (pu_indexAddrM Z underlying25 sizeOf40 (tm Z) (tm Z) c112 Z) (xc Z (op_loadVN Z isAgg40 sizeOf40 (tm Z) (nb Z) Z (xA (.agg [.i 0, .i 0, .str nS, .i 0, .i 0, .str nS, .i 0, .i 0, .sl .full 3 e0L]) zeroValue40 Z fun p113 => xs 0 (api.Event.ct .no (ix s2_ s106.t17)) sizeOf40 Z (xe (xr (xy Z (xL 1 isAgg40 sizeOf40 Z (xL 0 isAgg40 sizeOf40 Z ?_))))))))
 obtain ⟨r114, r114e, h⟩ := bind_some h
 refine xc Z (op_callV (vs := [.agg (api.Event.ct .no (ix s1_ s106.t17)), .agg (api.Event.ct .no (ix s2_ s106.t17))]) (H := []) Z (tm Z) call29 ⟨(tm Z), (tm Z), trivial⟩ (List.Perm.refl _) (event.Same.ok r114e) ?_)
 rintro _ _ ⟨rfl, rfl⟩
 refine xz (.bool (!r114)) Z (xe (cb h Z (fun _ h => ?_) (fun _ h => ?_)))
 refine xr (xz (.bool false) Z (xe (aw_ret ?_)))
 cases h
 cases congrArg some (hx107 _ rfl)
 cases onSum_inr h88
 exact rt ⟨Z, Z⟩ Z w0
 refine aw_skip (aw_region (xz (.i (w64 (s106.t17 + 1))) Z (xy Z (xe ?_))))
 cases h
 exact ⟨_, (), Z, wi [] Z⟩
 refine aw_exit ?_
 cases h
 have h := congrArg some (hx107 _ rfl)
 exact ⟨(), (), (some_of h).symm, w0⟩

theorem project.Same.ok {a b r} (h : project.Same a b = some r) : Sp prog 13 [.sl .no 9 (m1L a), .sl .no 9 (m1L b)] [] (fun v H => v = .bool r ∧ H = []) := by
 unfold project.Same at h
 refine sb [.tmp 4] func13 Z (xr (xz (.bool false) Z (xe (xr (xy Z (xy Z ?_))))))
 obtain ⟨r2, r2e, h⟩ := bind_some h
 refine xc Z (op_call (vs := [.sl .no 9 (m1L a), .sl .no 9 (m1L b), .fn 29 []]) (H := []) Z call28 ⟨(tm Z), (tm Z), (AEv.func _), trivial⟩ (List.Perm.refl _) (slices.EqualFunc_api_Event_event_Same.ok r2e) ?_)
 rintro _ _ ⟨rfl, rfl⟩
 refine xy Z (xe (aw_ret ?_))
 cases h
 exact rt ⟨Z, Z⟩ Z w0

end Go.Pu
