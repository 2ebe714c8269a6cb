/- Printed by lift.py: the functions come to them. -/
import Derived.Test.YtakmcdnailmhlaaGreatLiftWS
import Derived.Test.YtakmcdnailmhlaaGreatPSK3
set_option maxRecDepth 100000
set_option maxHeartbeats 0
namespace Go.Pu
open Go.Lift Go.Proofs.Tryz Go.RowKit Go.Proofs

theorem mewsref49.opened.ok {l handle r} (h : mewsref49.opened l handle = some r) : Sp prog 25 [.sl .no 9 (m1L l), .i handle] [] (fun v H => v = .bool r ∧ H = []) := by
 unfold mewsref49.opened at h
 refine sb [.tmp 4] func25 Z (xr (xz (.bool false) Z (xe ?_)))
 obtain ⟨s164, s164e, h123⟩ := bind_some h
 refine aw_join (σ := Unit) (ν := Unit) (fun u v => []) (fun u v => []) (fun u => s164 = .inl u) ?_ ?_
 intro s122
 intro _
 rintro rfl
 have h := onSum_inl h123
 refine xr (xz (.bool false) Z (xe (aw_ret ?_)))
 cases h
 exact rt ⟨Z, Z⟩ Z w0
 have h := s164e
 refine xr (xz (.i 0) Z (xe (aw_block (aw_while (σ := mewsref49.opened.S0) (ν := Unit) (mewsref49.opened.body0 l handle) (fun s149 v => [(0, .sl .no 9 (m1L l)), (1, .i handle), (5, .i s149.i)]) (fun s149 v => []) ⟨0⟩ () _ h (wi [] Z) ?_))))
 rintro s149 _ x151 h hx150
 unfold mewsref49.opened.body0 at h
 refine aw_seq (xr (xy Z (xy Z (xa (.i (l.length : Int)) Z (pu_lenM Z underlying25 (tm Z)) (xz (bd (s149.i < (l.length : Int))) Z (xe (cd h Z (fun _ h => ?_) (fun _ h => ?_))))))))
 refine aw_skip (aw_seq (aw_block ?_))
 obtain ⟨s156, s156e, h157⟩ := bind_some h
 refine aw_meet (ν := Unit) (fun v => [(0, .sl .no 9 (m1L l)), (1, .i handle), (5, .i s149.i), (26, .bool s156)]) (fun v => []) ?_ ?_
 have h := s156e
 refine aw_region (xy Z (xy Z ?_))
 obtain ⟨c159, h⟩ := need_of h
 refine xa (.vptr [.i (ix l s149.i).Kind, .i (ix l s149.i).Handle, .str (ix l s149.i).S, .i (ix l s149.i).N, .i (ix l s149.i).Tenant, .str (ix l s149.i).Fault.Name, .i (ix l s149.i).Fault.Kind, .i (ix l s149.i).Fault.Short, .sl .no 3 (m2L (ix l s149.i).Lefts)]) Z (pu_indexAddrM Z underlying25 sizeOf40 (tm Z) (tm Z) c159 Z) (xf (.vptr [.i (ix l s149.i).Kind, .i (ix l s149.i).Handle, .str (ix l s149.i).S, .i (ix l s149.i).N, .i (ix l s149.i).Tenant, .str (ix l s149.i).Fault.Name, .i (ix l s149.i).Fault.Kind, .i (ix l s149.i).Fault.Short, .sl .no 3 (m2L (ix l s149.i).Lefts)]) underlying40 sizeOf3 Z (xc Z (op_loadV1 Z isAgg3 (tm Z) Z (xz (bd ((ix l s149.i).Kind = 1)) Z (xy Z ?_)))))
 rcases Bool.eq_false_or_eq_true (decide ((ix l s149.i).Kind = 1)) with hb160 | hb160
 replace h := ite_t (dec_t hb160) h
 refine aops_known 18 Z hb160 (xq Z Z Z Z (xq Z Z Z Z ?_))
 obtain ⟨c161, h⟩ := need_of h
 refine xp (.vptr [.i (ix l s149.i).Kind, .i (ix l s149.i).Handle, .str (ix l s149.i).S, .i (ix l s149.i).N, .i (ix l s149.i).Tenant, .str (ix l s149.i).Fault.Name, .i (ix l s149.i).Fault.Kind, .i (ix l s149.i).Fault.Short, .sl .no 3 (m2L (ix l s149.i).Lefts)]) Z Z (pu_indexAddrM Z underlying25 sizeOf40 (tm Z) (tm Z) c161 Z) (xp (.vptr [.i (ix l s149.i).Handle, .str (ix l s149.i).S, .i (ix l s149.i).N, .i (ix l s149.i).Tenant, .str (ix l s149.i).Fault.Name, .i (ix l s149.i).Fault.Kind, .i (ix l s149.i).Fault.Short, .sl .no 3 (m2L (ix l s149.i).Lefts)]) Z Z (fa Z underlying40 Z sizeOf3 Z Z Z) (xg Z Z (op_loadV1 Z isAgg3 (tm Z) Z (xq Z Z Z Z (xp (bd ((ix l s149.i).Handle = handle)) Z Z (pe Z) (xz (bd ((ix l s149.i).Handle = handle)) Z (xe ?_)))))))
 cases h
 exact ⟨(), wi [] Z⟩
 replace h := ite_f (dec_f hb160) h
 refine aops_known 18 Z hb160 (xu Z (xu Z (xu Z (xu Z (xu Z (xu Z (xu Z (xz (.bool false) Z (xe ?_)))))))))
 cases h
 exact ⟨(), wi [] Z⟩
 intro _
 have h := h157
 refine aw_cond (b := s156) (tm Z) (fun hb162 => ?_) (fun hb162 => ?_)
 replace h := ite_t hb162 h
 refine xr (xz (.bool true) Z (xe (aw_ret ?_)))
 cases h
 cases congrArg some (hx150 _ rfl)
 cases onSum_inr h123
 exact rt ⟨Z, Z⟩ Z w0
 replace h := ite_fb hb162 h
 refine aw_skip (aw_region (xy Z (xz (.i (w64 (s149.i + 1))) Z (xy Z (xe ?_)))))
 cases h
 exact ⟨_, (), Z, wi [] Z⟩
 refine aw_exit ?_
 cases h
 have h := congrArg some (hx150 _ rfl)
 exact ⟨(), (), (some_of h).symm, w0⟩

theorem mewsref48.Bytes.ok {l handle r} (h : mewsref48.Bytes l handle = some r) : Sp prog 27 [.sl .no 9 (m1L l), .i handle] [] (fun v H => v = .str r ∧ H = []) := by
 unfold mewsref48.Bytes at h
 refine sb [.tmp 4] func27 Z (xr (xa (.str nS) Z (pu_assign Z (AEv.const Z)) (xe (xr (xz (.i 0) Z (xe ?_))))))
 obtain ⟨s488, s488e, h489⟩ := bind_some h
 refine aw_meet (ν := Unit) (fun v => [(0, .sl .no 9 (m1L l)), (1, .i handle), (5, .i s488)]) (fun v => []) ?_ ?_
 have h := s488e
 refine aw_block (aw_while (σ := mewsref48.Bytes.S0) (ν := Unit) (mewsref48.Bytes.body0 l handle) (fun s517 v => [(0, .sl .no 9 (m1L l)), (1, .i handle), (5, .i s517.from_)]) (fun s517 v => []) ⟨0⟩ () _ h (wi [] Z) ?_)
 rintro s517 _ x519 h hx518
 unfold mewsref48.Bytes.body0 at h
 refine aw_seq ?_
 obtain ⟨s525, s525e, h526⟩ := bind_some h
 refine aw_meet (ν := Unit) (fun v => [(0, .sl .no 9 (m1L l)), (1, .i handle), (5, .i s517.from_), (28, .bool s525)]) (fun v => []) ?_ ?_
 have h := s525e
 refine aw_region (xy Z (xy Z (xa (.i (l.length : Int)) Z (pu_lenM Z underlying25 (tm Z)) (xz (bd (s517.from_ < (l.length : Int))) Z (xy Z ?_)))))
 rcases Bool.eq_false_or_eq_true (decide (s517.from_ < (l.length : Int))) with hb528 | hb528
 replace h := ite_t (dec_t hb528) h
 refine aops_known 12 Z hb528 (xq Z Z Z Z (xq Z Z Z Z ?_))
 obtain ⟨c529, h⟩ := need_of h
 refine xp (.vptr [.i (ix l s517.from_).Kind, .i (ix l s517.from_).Handle, .str (ix l s517.from_).S, .i (ix l s517.from_).N, .i (ix l s517.from_).Tenant, .str (ix l s517.from_).Fault.Name, .i (ix l s517.from_).Fault.Kind, .i (ix l s517.from_).Fault.Short, .sl .no 3 (m2L (ix l s517.from_).Lefts)]) Z Z (pu_indexAddrM Z underlying25 sizeOf40 (tm Z) (tm Z) c529 Z) (xp (.vptr [.i (ix l s517.from_).Kind, .i (ix l s517.from_).Handle, .str (ix l s517.from_).S, .i (ix l s517.from_).N, .i (ix l s517.from_).Tenant, .str (ix l s517.from_).Fault.Name, .i (ix l s517.from_).Fault.Kind, .i (ix l s517.from_).Fault.Short, .sl .no 3 (m2L (ix l s517.from_).Lefts)]) Z Z (fa Z underlying40 Z sizeOf3 Z Z Z) (xg Z Z (op_loadV1 Z isAgg3 (tm Z) Z (xp (bn ((ix l s517.from_).Kind = 1)) Z Z (pe Z) (xq Z Z Z Z ?_)))))
 rcases Bool.eq_false_or_eq_true (!decide ((ix l s517.from_).Kind = 1)) with hb530 | hb530
 replace h := ite_f (ndec_t hb530) h
 refine aops_known 19 Z hb530 (xu Z (xu Z (xu Z (xu Z (xu Z (xu Z (xu Z (xp (.bool true) Z Z (pe Z) (xz (.bool true) Z ?_)))))))))
 refine xe ?_
 cases h
 exact ⟨(), wi [] Z⟩
 replace h := ite_t (ndec_f hb530) h
 refine aops_known 19 Z hb530 (xq Z Z Z Z (xq Z Z Z Z ?_))
 obtain ⟨c531, h⟩ := need_of h
 refine xp (.vptr [.i (ix l s517.from_).Kind, .i (ix l s517.from_).Handle, .str (ix l s517.from_).S, .i (ix l s517.from_).N, .i (ix l s517.from_).Tenant, .str (ix l s517.from_).Fault.Name, .i (ix l s517.from_).Fault.Kind, .i (ix l s517.from_).Fault.Short, .sl .no 3 (m2L (ix l s517.from_).Lefts)]) Z Z (pu_indexAddrM Z underlying25 sizeOf40 (tm Z) (tm Z) c531 Z) (xp (.vptr [.i (ix l s517.from_).Handle, .str (ix l s517.from_).S, .i (ix l s517.from_).N, .i (ix l s517.from_).Tenant, .str (ix l s517.from_).Fault.Name, .i (ix l s517.from_).Fault.Kind, .i (ix l s517.from_).Fault.Short, .sl .no 3 (m2L (ix l s517.from_).Lefts)]) Z Z (fa Z underlying40 Z sizeOf3 Z Z Z) (xg Z Z (op_loadV1 Z isAgg3 (tm Z) Z (xq Z Z Z Z (xp (bn ((ix l s517.from_).Handle = handle)) Z Z (pe Z) (xp (bn ((ix l s517.from_).Handle = handle)) Z Z (pe Z) (xz (bn ((ix l s517.from_).Handle = handle)) Z (xe ?_))))))))
 cases h
 exact ⟨(), wi [] Z⟩
 replace h := ite_f (dec_f hb528) h
 refine aops_known 12 Z hb528 (xu Z (xu Z (xu Z (xu Z (xu Z (xu Z (xu Z (xv Z Z (xv Z Z ?_)))))))))
 refine xv Z Z (xv Z Z (xv Z Z (xv Z Z (xv Z Z (xu Z (xz (.bool false) Z (xe ?_)))))))
 cases h
 exact ⟨(), wi [] Z⟩
 intro _
 have h := h526
 refine aw_cond (b := s525) (tm Z) (fun hb532 => ?_) (fun hb532 => ?_)
 replace h := ite_t hb532 h
 refine aw_skip (aw_block (aw_region (xy Z (xz (.i (w64 (s517.from_ + 1))) Z (xy Z (xe ?_))))))
 cases h
 exact ⟨_, (), Z, wi [] Z⟩
 replace h := ite_fb hb532 h
 refine aw_exit ?_
 cases h
 cases congrArg some (hx518 _ rfl)
 exact ⟨(), wi [] Z⟩
 intro _
 have h := h489
 refine xr (xa (.str nS) Z (pu_assign Z (AEv.const Z)) (xe ?_))
 obtain ⟨s890, s890e, h711⟩ := bind_some h
 refine aw_join (σ := List UInt8) (ν := Unit) (fun u v => [(6, .str u)]) (fun u v => []) (fun u => s890 = .inl u) ?_ ?_
 intro s710
 intro _
 rintro rfl
 have h := onSum_inl h711
 refine xr (xy Z (xy Z (xe (aw_ret ?_))))
 cases h
 exact rt ⟨Z, Z⟩ Z w0
 have h := s890e
 refine xr (xy Z (xy Z (xe (aw_block (aw_while (σ := mewsref48.Bytes.S2) (ν := Unit) (mewsref48.Bytes.body2 l handle) (fun s829 v => [(0, .sl .no 9 (m1L l)), (1, .i handle), (6, .str s829.s), (7, .i s829.i)]) (fun s829 v => []) ⟨nS, s488⟩ () _ h (wi [] Z) ?_)))))
 rintro s829 _ x831 h hx830
 unfold mewsref48.Bytes.body2 at h
 refine aw_seq (xr (xy Z (xy Z (xa (.i (l.length : Int)) Z (pu_lenM Z underlying25 (tm Z)) (xz (bd (s829.i < (l.length : Int))) Z (xe (cd h Z (fun _ h => ?_) (fun _ h => ?_))))))))
 refine aw_skip ?_
 obtain ⟨s888, s888e, h860⟩ := bind_some h
 refine aw_join (σ := List UInt8) (ν := Unit) (fun u v => [(0, .sl .no 9 (m1L l)), (1, .i handle), (6, .str u), (7, .i s829.i)]) (fun u v => []) (fun u => s888 = .inl u) ?_ ?_
 intro s859
 intro _
 rintro rfl
 have h := onSum_inl h860
 refine aw_region (xy Z (xz (.i (w64 (s829.i + 1))) Z (xy Z (xe ?_))))
 cases h
 exact ⟨_, (), Z, wi [] Z⟩
 have h := s888e
 refine aw_block (aw_seq ?_)
 obtain ⟨s867, s867e, h868⟩ := bind_some h
 refine aw_meet (ν := Unit) (fun v => [(0, .sl .no 9 (m1L l)), (1, .i handle), (6, .str s829.s), (7, .i s829.i), (60, .bool s867)]) (fun v => []) ?_ ?_
 have h := s867e
 refine aw_region (xy Z (xy Z ?_))
 obtain ⟨c870, h⟩ := need_of h
 refine xa (.vptr [.i (ix l s829.i).Kind, .i (ix l s829.i).Handle, .str (ix l s829.i).S, .i (ix l s829.i).N, .i (ix l s829.i).Tenant, .str (ix l s829.i).Fault.Name, .i (ix l s829.i).Fault.Kind, .i (ix l s829.i).Fault.Short, .sl .no 3 (m2L (ix l s829.i).Lefts)]) Z (pu_indexAddrM Z underlying25 sizeOf40 (tm Z) (tm Z) c870 Z) (xf (.vptr [.i (ix l s829.i).Kind, .i (ix l s829.i).Handle, .str (ix l s829.i).S, .i (ix l s829.i).N, .i (ix l s829.i).Tenant, .str (ix l s829.i).Fault.Name, .i (ix l s829.i).Fault.Kind, .i (ix l s829.i).Fault.Short, .sl .no 3 (m2L (ix l s829.i).Lefts)]) underlying40 sizeOf3 Z (xc Z (op_loadV1 Z isAgg3 (tm Z) Z (xz (bd ((ix l s829.i).Kind = 8)) Z (xy Z ?_)))))
 rcases Bool.eq_false_or_eq_true (decide ((ix l s829.i).Kind = 8)) with hb871 | hb871
 replace h := ite_t (dec_t hb871) h
 refine aops_known 44 Z hb871 (xu Z (xu Z (xu Z (xu Z (xu Z (xu Z (xu Z (xv Z Z (xv Z Z ?_)))))))))
 refine xv Z Z (xv Z Z (xv Z Z (xv Z Z (xv Z Z (xu Z (xz (.bool true) Z (xe ?_)))))))
 cases h
 exact ⟨(), wi [] Z⟩
 replace h := ite_f (dec_f hb871) h
 refine aops_known 44 Z hb871 (xq Z Z Z Z (xq Z Z Z Z ?_))
 obtain ⟨c872, h⟩ := need_of h
 refine xp (.vptr [.i (ix l s829.i).Kind, .i (ix l s829.i).Handle, .str (ix l s829.i).S, .i (ix l s829.i).N, .i (ix l s829.i).Tenant, .str (ix l s829.i).Fault.Name, .i (ix l s829.i).Fault.Kind, .i (ix l s829.i).Fault.Short, .sl .no 3 (m2L (ix l s829.i).Lefts)]) Z Z (pu_indexAddrM Z underlying25 sizeOf40 (tm Z) (tm Z) c872 Z) (xp (.vptr [.i (ix l s829.i).Kind, .i (ix l s829.i).Handle, .str (ix l s829.i).S, .i (ix l s829.i).N, .i (ix l s829.i).Tenant, .str (ix l s829.i).Fault.Name, .i (ix l s829.i).Fault.Kind, .i (ix l s829.i).Fault.Short, .sl .no 3 (m2L (ix l s829.i).Lefts)]) Z Z (fa Z underlying40 Z sizeOf3 Z Z Z) (xg Z Z (op_loadV1 Z isAgg3 (tm Z) Z (xp (bd ((ix l s829.i).Kind = 4)) Z Z (pe Z) (xq Z Z Z Z ?_)))))
 rcases Bool.eq_false_or_eq_true (decide ((ix l s829.i).Kind = 4)) with hb873 | hb873
 replace h := ite_t (dec_t hb873) h
 refine aops_known 51 Z hb873 (xq Z Z Z Z (xq Z Z Z Z ?_))
 obtain ⟨c874, h⟩ := need_of h
 refine xp (.vptr [.i (ix l s829.i).Kind, .i (ix l s829.i).Handle, .str (ix l s829.i).S, .i (ix l s829.i).N, .i (ix l s829.i).Tenant, .str (ix l s829.i).Fault.Name, .i (ix l s829.i).Fault.Kind, .i (ix l s829.i).Fault.Short, .sl .no 3 (m2L (ix l s829.i).Lefts)]) Z Z (pu_indexAddrM Z underlying25 sizeOf40 (tm Z) (tm Z) c874 Z) (xp (.vptr [.i (ix l s829.i).Handle, .str (ix l s829.i).S, .i (ix l s829.i).N, .i (ix l s829.i).Tenant, .str (ix l s829.i).Fault.Name, .i (ix l s829.i).Fault.Kind, .i (ix l s829.i).Fault.Short, .sl .no 3 (m2L (ix l s829.i).Lefts)]) Z Z (fa Z underlying40 Z sizeOf3 Z Z Z) (xg Z Z (op_loadV1 Z isAgg3 (tm Z) Z (xq Z Z Z Z (xp (bd ((ix l s829.i).Handle = handle)) Z Z (pe Z) (xp (bd ((ix l s829.i).Handle = handle)) Z Z (pe Z) (xz (bd ((ix l s829.i).Handle = handle)) Z (xe ?_))))))))
 cases h
 exact ⟨(), wi [] Z⟩
 replace h := ite_f (dec_f hb873) h
 refine aops_known 51 Z hb873 (xu Z (xu Z (xu Z (xu Z (xu Z (xu Z (xu Z (xp (.bool false) Z Z (pe Z) (xz (.bool false) Z ?_)))))))))
 refine xe ?_
 cases h
 exact ⟨(), wi [] Z⟩
 intro _
 have h := h868
 refine aw_cond (b := s867) (tm Z) (fun hb887 => ?_) (fun hb887 => ?_)
 replace h := ite_t hb887 h
 refine xr (xy Z (xy Z (xe (aw_ret ?_))))
 cases h
 cases onSum_inr h860
 cases congrArg some (hx830 _ rfl)
 cases onSum_inr h711
 exact rt ⟨Z, Z⟩ Z w0
 replace h := ite_fb hb887 h
 refine aw_skip ?_
 obtain ⟨s878, s878e, h879⟩ := bind_some h
 refine aw_meet (ν := Unit) (fun v => [(0, .sl .no 9 (m1L l)), (1, .i handle), (6, .str s829.s), (7, .i s829.i), (76, .bool s878)]) (fun v => []) ?_ ?_
 have h := s878e
 refine aw_region (xy Z (xy Z ?_))
 obtain ⟨c881, h⟩ := need_of h
 refine xa (.vptr [.i (ix l s829.i).Kind, .i (ix l s829.i).Handle, .str (ix l s829.i).S, .i (ix l s829.i).N, .i (ix l s829.i).Tenant, .str (ix l s829.i).Fault.Name, .i (ix l s829.i).Fault.Kind, .i (ix l s829.i).Fault.Short, .sl .no 3 (m2L (ix l s829.i).Lefts)]) Z (pu_indexAddrM Z underlying25 sizeOf40 (tm Z) (tm Z) c881 Z) (xf (.vptr [.i (ix l s829.i).Kind, .i (ix l s829.i).Handle, .str (ix l s829.i).S, .i (ix l s829.i).N, .i (ix l s829.i).Tenant, .str (ix l s829.i).Fault.Name, .i (ix l s829.i).Fault.Kind, .i (ix l s829.i).Fault.Short, .sl .no 3 (m2L (ix l s829.i).Lefts)]) underlying40 sizeOf3 Z (xc Z (op_loadV1 Z isAgg3 (tm Z) Z (xz (bd ((ix l s829.i).Kind = 2)) Z (xy Z ?_)))))
 rcases Bool.eq_false_or_eq_true (decide ((ix l s829.i).Kind = 2)) with hb882 | hb882
 replace h := ite_t (dec_t hb882) h
 refine aops_known 68 Z hb882 (xq Z Z Z Z (xq Z Z Z Z ?_))
 obtain ⟨c883, h⟩ := need_of h
 refine xp (.vptr [.i (ix l s829.i).Kind, .i (ix l s829.i).Handle, .str (ix l s829.i).S, .i (ix l s829.i).N, .i (ix l s829.i).Tenant, .str (ix l s829.i).Fault.Name, .i (ix l s829.i).Fault.Kind, .i (ix l s829.i).Fault.Short, .sl .no 3 (m2L (ix l s829.i).Lefts)]) Z Z (pu_indexAddrM Z underlying25 sizeOf40 (tm Z) (tm Z) c883 Z) (xp (.vptr [.i (ix l s829.i).Handle, .str (ix l s829.i).S, .i (ix l s829.i).N, .i (ix l s829.i).Tenant, .str (ix l s829.i).Fault.Name, .i (ix l s829.i).Fault.Kind, .i (ix l s829.i).Fault.Short, .sl .no 3 (m2L (ix l s829.i).Lefts)]) Z Z (fa Z underlying40 Z sizeOf3 Z Z Z) (xg Z Z (op_loadV1 Z isAgg3 (tm Z) Z (xq Z Z Z Z (xp (bd ((ix l s829.i).Handle = handle)) Z Z (pe Z) (xz (bd ((ix l s829.i).Handle = handle)) Z (xe ?_)))))))
 cases h
 exact ⟨(), wi [] Z⟩
 replace h := ite_f (dec_f hb882) h
 refine aops_known 68 Z hb882 (xu Z (xu Z (xu Z (xu Z (xu Z (xu Z (xu Z (xz (.bool false) Z (xe ?_)))))))))
 cases h
 exact ⟨(), wi [] Z⟩
 intro _
 have h := h879
 refine aw_cond (b := s878) (tm Z) (fun hb886 => ?_) (fun hb886 => ?_)
 replace h := ite_t hb886 h
 refine aw_region (xy Z (xy Z (xy Z ?_)))
 obtain ⟨c884, h⟩ := need_of h
 refine xa (.vptr [.i (ix l s829.i).Kind, .i (ix l s829.i).Handle, .str (ix l s829.i).S, .i (ix l s829.i).N, .i (ix l s829.i).Tenant, .str (ix l s829.i).Fault.Name, .i (ix l s829.i).Fault.Kind, .i (ix l s829.i).Fault.Short, .sl .no 3 (m2L (ix l s829.i).Lefts)]) Z (pu_indexAddrM Z underlying25 sizeOf40 (tm Z) (tm Z) c884 Z) (xf (.vptr [.str (ix l s829.i).S, .i (ix l s829.i).N, .i (ix l s829.i).Tenant, .str (ix l s829.i).Fault.Name, .i (ix l s829.i).Fault.Kind, .i (ix l s829.i).Fault.Short, .sl .no 3 (m2L (ix l s829.i).Lefts)]) underlying40 sizeOf9 Z (xc Z (op_loadV1 Z isAgg9 (tm Z) Z ?_)))
 obtain ⟨c885, h⟩ := need_of h
 refine xa (.str (s829.s ++ (ix l s829.i).S)) Z (pu_strAdd Z (tm Z) (tm Z) c885) (xy Z (xe ?_))
 exact ⟨s829.s ++ (ix l s829.i).S, (), (some_of h).symm, wi [] Z⟩
 replace h := ite_fb hb886 h
 refine aw_skip ?_
 exact ⟨s829.s, (), (some_of h).symm, wi [] Z⟩
 refine aw_exit ?_
 cases h
 have h := congrArg some (hx830 _ rfl)
 exact ⟨s829.s, (), (some_of h).symm, wi [] Z⟩

theorem mewsref05.between.ok {n_ most r} (h : mewsref05.between n_ most = some r) : Sp prog 65 [.i n_, .i most] [] (fun v H => v = .i r ∧ H = []) := by
 unfold mewsref05.between at h
 refine sb [.tmp 4] func65 Z (xr (xz (.i 0) Z (xe (aw_seq (xr (xy Z (xz (bd (n_ < 1)) Z ?_)))))))
 refine xe (cd h Z (fun _ h => ?_) (fun _ h => ?_))
 refine xr (xz (.i 1) Z (xe (aw_ret ?_)))
 cases h
 exact rt ⟨Z, Z⟩ Z w0
 refine aw_skip (aw_seq (xr (xy Z (xy Z (xz (bd (most < n_)) Z (xe (cd h Z (fun _ h => ?_) (fun _ h => ?_))))))))
 refine xr (xy Z (xy Z (xe (aw_ret ?_))))
 cases h
 exact rt ⟨Z, Z⟩ Z w0
 refine aw_skip (xr (xy Z (xy Z (xe (aw_ret ?_)))))
 cases h
 exact rt ⟨Z, Z⟩ Z w0

theorem mewsref05.Limits.ok {l r} (h : mewsref05.Limits l = some r) : Sp prog 45 [.agg [.i l.Args, .i l.Bulk, .i l.Line]] [] (fun v H => v = .agg [.i r.Args, .i r.Bulk, .i r.Line] ∧ H = []) := by
 unfold mewsref05.Limits at h
 refine sb [.cell 2 66] func45 Z (xr (xb [.i l.Args, .i l.Bulk, .i l.Line] Z fun p6 => xA (.agg [.i 0, .i 0, .i 0]) zeroValue66 Z fun p7 => xe (aw_seq ?_)))
 obtain ⟨r8, r8e, h⟩ := bind_some h
 obtain ⟨r9, r9e, h⟩ := bind_some h
 obtain ⟨r10, r10e, h⟩ := bind_some h
 refine aw_planR (by decide +kernel) [[], [(1, 0, false)], [], [], [(1, 0, false)], [], [], [(1, 0, false)], [], [], [(0, 0, true)]] [[10], []] [[[(p7, .cells [.i 0, .i 0, .i 0])], [(p7, .cells [.i r8, .i r9, .i r10])]], [[(p6, .cells [.i l.Args, .i l.Bulk, .i l.Line])]]] [.ptr p6 0, .i l.Args, .i r8, .ptr p6 1, .i l.Bulk, .i r9, .ptr p6 2, .i l.Line, .i r10, .agg [.i r8, .i r9, .i r10], .un] (by decide +kernel) Z Z ?_ ?_
 exact ⟨yp Z (fa Z underlying66 Z sizeOf3 Z Z Z), stepg_plain Z (op_load1 (i := 0) Z isAgg3 (tm Z) Z Z ⟨Z, Z⟩), stepg_plain Z (op_call (vs := [.i l.Args, .i 65536]) (H := []) Z call65 ⟨(tm Z), (AEv.int _ _), trivial⟩ (R := []) (List.Perm.refl _) (mewsref05.between.ok r8e) (by rintro _ _ ⟨rfl, rfl⟩; exact ⟨Z, Z⟩)), yp Z (fa Z underlying66 Z sizeOf3 Z Z Z), stepg_plain Z (op_load1 (i := 0) Z isAgg3 (tm Z) Z Z ⟨Z, Z⟩), stepg_plain Z (op_call (vs := [.i l.Bulk, .i 1048576]) (H := []) Z call65 ⟨(tm Z), (AEv.int _ _), trivial⟩ (R := []) (List.Perm.refl _) (mewsref05.between.ok r9e) (by rintro _ _ ⟨rfl, rfl⟩; exact ⟨Z, Z⟩)), yp Z (fa Z underlying66 Z sizeOf3 Z Z Z), stepg_plain Z (op_load1 (i := 0) Z isAgg3 (tm Z) Z Z ⟨Z, Z⟩), stepg_plain Z (op_call (vs := [.i l.Line, .i 65536]) (H := []) Z call65 ⟨(tm Z), (AEv.int _ _), trivial⟩ (R := []) (List.Perm.refl _) (mewsref05.between.ok r10e) (by rintro _ _ ⟨rfl, rfl⟩; exact ⟨Z, Z⟩)), yp Z (pu_build (zs := [.i 0, .i 0, .i 0]) (szs := [1, 1, 1]) (aparts := [(0, .i r8), (1, .i r9), (2, .i r10)]) (cs := [.i r8, .i r9, .i r10]) Z underlying66 zeroValue66 Z ⟨sizeOf3, sizeOf3, sizeOf3, trivial⟩ ⟨Z, (tm Z), ⟨Z, (tm Z), ⟨Z, (tm Z), trivial⟩⟩⟩ Z), stepg_plain Z (op_store (i := 0) (cs' := [.i r8, .i r9, .i r10]) Z sizeOf66 (tm Z) (v := .agg [.i r8, .i r9, .i r10]) (tm Z) Z Z Z (nb Z) Z ⟨Z, Z⟩), trivial⟩
 refine aw_ret ?_
 cases h
 exact rq [.agg [.i r8, .i r9, .i r10]] ⟨Z, Z⟩ vr ⟨(CellOk.agg 0 (tm Z) Z isAgg66 sizeOf66 (nb Z) Z), trivial⟩ w0

theorem mewsref01.digits.rec.ok (kk : Nat) : ∀ {n_ : Int} {r : List UInt8} (h : mewsref01.digits.rec kk n_ = some r), Sp prog 99 [.i n_] [] (fun v H => v = .str r ∧ H = []) := by
 induction kk with
 | zero => intro n_ r h; exact nomatch h
 | succ kk ih =>
  intro n_ r h
  rw [mewsref01.digits.rec.eq_2] at h
  refine sb [.tmp 2] func99 Z (xr (xa (.str nS) Z (pu_assign Z (AEv.const Z)) (xe (xr (xa (.str [48, 49, 50, 51, 52, 53, 54, 55, 56, 57]) Z (pu_assign Z (AEv.const Z)) (xe (aw_seq ?_)))))))
  refine aw_region (xy Z (xa (.i (n_.tmod 10)) Z (pu_rem Z (tm Z) (AEv.int _ _) (by decide)) (xa (.i (w64 (0 - (n_.tmod 10)))) Z (pu_neg Z (tm Z)) (xy Z (xe (aw_seq (xr (xy Z ?_))))))))
  refine xz (bd ((-10) < n_)) Z (xe (cd h Z (fun _ h => ?_) (fun _ h => ?_)))
  ·refine xr (xy Z (xy Z (xy Z (xz (.i (w64 ((w64 (0 - (n_.tmod 10))) + 1))) Z ?_))))
   obtain ⟨c8, h⟩ := need_of h
   obtain ⟨x9, x9e, h⟩ := letO_of h
   refine xa (.str x9) Z (APure.eq (pu_strSliceM Z underlying9 (tm Z) ⟨_, (tm Z)⟩ ⟨_, (tm Z)⟩ c8) (congrArg (AV.str) x9e.symm)) (xy Z (xe (aw_ret ?_)))
   cases h
   exact rt ⟨Z, Z⟩ Z w0
  ·refine aw_skip (aw_seq ?_)
   obtain ⟨r10, r10e, h⟩ := bind_some h
   obtain ⟨c11, h⟩ := need_of h
   obtain ⟨x12, x12e, h⟩ := letO_of h
   obtain ⟨c13, h⟩ := need_of h
   refine aw_planR (by decide +kernel) [[], [], [], [], [], [], [], [], [], []] [] [] [.i n_, .i (w64 (n_.tdiv 10)), .str r10, .str [48, 49, 50, 51, 52, 53, 54, 55, 56, 57], .i (w64 (0 - (n_.tmod 10))), .i (w64 (0 - (n_.tmod 10))), .i (w64 ((w64 (0 - (n_.tmod 10))) + 1)), .str x12, .str (r10 ++ x12), .str (r10 ++ x12)] (by decide +kernel) Z Z ?_ ?_
   ·exact ⟨ym Z Z Z, yp Z (pu_quo Z (tm Z) (AEv.int _ _) (by decide)), stepg_plain Z (op_call (vs := [.i (w64 (n_.tdiv 10))]) (H := []) Z call99 ⟨(tm Z), trivial⟩ (R := []) (List.Perm.refl _) (ih r10e) (by rintro _ _ ⟨rfl, rfl⟩; exact ⟨Z, Z⟩)), ym Z Z Z, ym Z Z Z, ym Z Z Z, yp Z (pe Z), yp Z (APure.eq (pu_strSliceM Z underlying9 (tm Z) ⟨_, (tm Z)⟩ ⟨_, (tm Z)⟩ c11) (congrArg (AV.str) x12e.symm)), yp Z (pu_strAdd Z (tm Z) (tm Z) c13), ym Z Z Z, trivial⟩
   refine aw_ret ?_
   cases h
   exact rt ⟨Z, Z⟩ Z w0

theorem mewsref01.digits.ok {n_ r} (h : mewsref01.digits n_ = some r) : Sp prog 99 [.i n_] [] (fun v H => v = .str r ∧ H = []) := by
 obtain ⟨kk, hk⟩ := fixO_some h
 exact mewsref01.digits.rec.ok kk hk

theorem mewsref01.Text.ok {n_ r} (h : mewsref01.Text n_ = some r) : Sp prog 93 [.i n_] [] (fun v H => v = .str r ∧ H = []) := by
 unfold mewsref01.Text at h
 refine sb [.tmp 2] func93 Z (xr (xa (.str nS) Z (pu_assign Z (AEv.const Z)) (xe (aw_seq (xr (xy Z (xz (bd (n_ < 0)) Z ?_)))))))
 refine xe (cd h Z (fun _ h => ?_) (fun _ h => ?_))
 refine xr (xy Z ?_)
 obtain ⟨r5, r5e, h⟩ := bind_some h
 refine xo (mewsref01.digits.ok r5e) call99 Z ?_
 obtain ⟨c6, h⟩ := need_of h
 refine xa (.str ([45] ++ r5)) Z (pu_strAdd Z (AEv.const Z) (tm Z) c6) (xy Z (xe (aw_ret ?_)))
 cases h
 exact rt ⟨Z, Z⟩ Z w0
 refine aw_skip (xr (xy Z (xa (.i (w64 (0 - n_))) Z (pu_neg Z (tm Z)) ?_)))
 obtain ⟨r7, r7e, h⟩ := bind_some h
 refine xo (mewsref01.digits.ok r7e) call99 Z (xy Z (xe (aw_ret ?_)))
 cases h
 exact rt ⟨Z, Z⟩ Z w0

theorem mewsref01.Parse.ok {s_ r} (h : mewsref01.Parse s_ = some r) : Sp prog 82 [.str s_] [] (fun v H => v = .tup [.i r.1, .bool r.2] ∧ H = []) := by
 unfold mewsref01.Parse at h
 refine sb [.tmp 2, .tmp 3] func82 Z (xr (xz (.i 0) Z (xz (.bool false) Z (xe ?_))))
 obtain ⟨s309, s309e, h310⟩ := bind_some h
 refine aw_meet (ν := Unit) (fun v => [(0, .str s_), (4, .bool s309)]) (fun v => []) ?_ ?_
 have h := s309e
 refine aw_region (xy Z (xa (.i (s_.length : Int)) Z (pu_strLen Z underlying9 (tm Z)) (xz (bd (0 < (s_.length : Int))) Z (xy Z ?_))))
 rcases Bool.eq_false_or_eq_true (decide (0 < (s_.length : Int))) with hb312 | hb312
 replace h := ite_t (dec_t hb312) h
 refine aops_known 11 Z hb312 (xq Z Z Z Z ?_)
 obtain ⟨c313, h⟩ := need_of h
 refine xp (.int .u8 (bix s_ 0)) Z Z (pu_strIdxM Z underlying9 (tm Z) (AEv.int _ _) c313) (xp (bd ((bix s_ 0) = 45)) Z Z (pe Z) (xz (bd ((bix s_ 0) = 45)) Z (xy Z (xe ?_))))
 cases h
 exact ⟨(), wi [] Z⟩
 replace h := ite_f (dec_f hb312) h
 refine aops_known 11 Z hb312 (xu Z (xu Z (xu Z (xz (.bool false) Z (xy Z (xe ?_))))))
 cases h
 exact ⟨(), wi [] Z⟩
 intro _
 have h := h310
 refine xr (xz (.i 0) Z (xe ?_))
 obtain ⟨s612, s612e, h456⟩ := bind_some h
 refine aw_join (σ := Int) (ν := Unit) (fun u v => [(0, .str s_), (4, .bool s309), (5, .i u)]) (fun u v => []) (fun u => s612 = .inl u) ?_ ?_
 intro s455
 intro _
 rintro rfl
 have h := onSum_inl h456
 refine aw_seq ?_
 obtain ⟨s600, s600e, h601⟩ := letO_of h
 refine aw_meet (ν := Unit) (fun v => [(0, .str s_), (4, .bool s309), (5, .i s455), (56, .bool s600)]) (fun v => []) ?_ ?_
 have h := s600e.symm
 refine aw_region (xy Z (xz (.bool (!s309)) Z (xy Z ?_)))
 rcases Bool.eq_false_or_eq_true (!s309) with hb603 | hb603
 replace h := ite_t hb603 h
 refine aops_known 53 Z hb603 (xq Z Z Z Z (xp (bd (s455 = (-9223372036854775808))) Z Z (pe Z) (xz (bd (s455 = (-9223372036854775808))) Z (xe ?_))))
 subst h
 exact ⟨(), wi [] Z⟩
 replace h := ite_fb hb603 h
 refine aops_known 53 Z hb603 (xu Z (xu Z (xz (.bool false) Z (xe ?_))))
 subst h
 exact ⟨(), wi [] Z⟩
 intro _
 have h := h601
 refine aw_cond (b := s600) (tm Z) (fun hb611 => ?_) (fun hb611 => ?_)
 replace h := ite_t hb611 h
 refine xr (xz (.i 0) Z (xz (.bool false) Z (xe (aw_ret ?_))))
 cases h
 exact rt ⟨Z, Z⟩ Z w0
 replace h := ite_fb hb611 h
 refine aw_skip ?_
 obtain ⟨s605, s605e, h606⟩ := letO_of h
 refine aw_meet (ν := Unit) (fun v => [(0, .str s_), (5, .i s605)]) (fun v => []) ?_ ?_
 have h := s605e.symm
 refine xr (xy Z (xz (.bool (!s309)) Z (xe (cb h Z (fun _ h => ?_) (fun _ h => ?_)))))
 refine aw_region (xy Z (xa (.i (w64 (0 - s455))) Z (pu_neg Z (tm Z)) (xy Z (xe ?_))))
 subst h
 exact ⟨(), wi [] Z⟩
 refine aw_skip ?_
 subst h
 exact ⟨(), wi [] Z⟩
 intro _
 have h := h606
 refine aw_seq (xr (xy Z ?_))
 obtain ⟨r609, r609e, h⟩ := bind_some h
 refine xo (mewsref01.Text.ok r609e) call93 Z (xy Z (xa (bn (r609 = s_)) Z (pu_str (v := bn (r609 = s_)) Z Z (tm Z) (tm Z) Z) (xe (cn h Z (fun _ h => ?_) (fun _ h => ?_)))))
 refine xr (xz (.i 0) Z (xz (.bool false) Z (xe (aw_ret ?_))))
 cases h
 exact rt ⟨Z, Z⟩ Z w0
 refine aw_skip (xr (xy Z (xy Z (xz (.bool true) Z (xe (aw_ret ?_))))))
 cases h
 exact rt ⟨Z, Z⟩ Z w0
 have h := s612e
 refine xr (xz (.i 0) Z (xe (aw_block (aw_while (σ := mewsref01.Parse.S0) (ν := Unit) (mewsref01.Parse.body0 s_ s309) (fun s550 v => [(0, .str s_), (4, .bool s309), (5, .i s550.n), (6, .i s550.i)]) (fun s550 v => []) ⟨0, 0⟩ () _ h (wi [] Z) ?_))))
 rintro s550 _ x552 h hx551
 unfold mewsref01.Parse.body0 at h
 refine aw_seq (xr (xy Z (xy Z (xa (.i (s_.length : Int)) Z (pu_strLen Z underlying9 (tm Z)) (xz (bd (s550.i < (s_.length : Int))) Z (xe (cd h Z (fun _ h => ?_) (fun _ h => ?_))))))))
 refine aw_skip ?_
 obtain ⟨s597, s597e, h575⟩ := bind_some h
 refine aw_join (σ := Int) (ν := Unit) (fun u v => [(0, .str s_), (4, .bool s309), (5, .i u), (6, .i s550.i)]) (fun u v => []) (fun u => s597 = .inl u) ?_ ?_
 intro s574
 intro _
 rintro rfl
 have h := onSum_inl h575
 refine aw_region (xy Z (xz (.i (w64 (s550.i + 1))) Z (xy Z (xe ?_))))
 cases h
 exact ⟨_, (), Z, wi [] Z⟩
 have h := s597e
 refine aw_block (aw_seq ?_)
 obtain ⟨s578, s578e, h579⟩ := letO_of h
 refine aw_meet (ν := Unit) (fun v => [(0, .str s_), (4, .bool s309), (5, .i s550.n), (6, .i s550.i), (26, .bool s578)]) (fun v => []) ?_ ?_
 have h := s578e.symm
 refine aw_region (xy Z (xz (bd (s550.i = 0)) Z (xy Z ?_)))
 rcases Bool.eq_false_or_eq_true (decide (s550.i = 0)) with hb581 | hb581
 replace h := ite_t (dec_t hb581) h
 refine aops_known 24 Z hb581 (xq Z Z Z Z (xz (.bool s309) Z (xe ?_)))
 subst h
 exact ⟨(), wi [] Z⟩
 replace h := ite_f (dec_f hb581) h
 refine aops_known 24 Z hb581 (xu Z (xz (.bool false) Z (xe ?_)))
 subst h
 exact ⟨(), wi [] Z⟩
 intro _
 have h := h579
 refine aw_cond (b := s578) (tm Z) (fun hb596 => ?_) (fun hb596 => ?_)
 replace h := ite_t hb596 h
 refine aw_exit ?_
 exact ⟨s550.n, (), (some_of h).symm, wi [] Z⟩
 replace h := ite_fb hb596 h
 refine aw_skip (aw_seq ?_)
 obtain ⟨s585, s585e, h586⟩ := bind_some h
 refine aw_meet (ν := Unit) (fun v => [(0, .str s_), (4, .bool s309), (5, .i s550.n), (6, .i s550.i), (36, .bool s585)]) (fun v => []) ?_ ?_
 have h := s585e
 refine aw_region (xy Z (xy Z ?_))
 obtain ⟨c588, h⟩ := need_of h
 refine xa (.int .u8 (bix s_ s550.i)) Z (pu_strIdxM Z underlying9 (tm Z) (tm Z) c588) (xz (bd ((bix s_ s550.i) < 48)) Z (xy Z ?_))
 rcases Bool.eq_false_or_eq_true (decide ((bix s_ s550.i) < 48)) with hb589 | hb589
 replace h := ite_t (dec_t hb589) h
 refine aops_known 31 Z hb589 (xu Z (xu Z (xu Z (xu Z (xz (.bool true) Z (xe ?_))))))
 cases h
 exact ⟨(), wi [] Z⟩
 replace h := ite_f (dec_f hb589) h
 refine aops_known 31 Z hb589 (xq Z Z Z Z (xq Z Z Z Z ?_))
 obtain ⟨c590, h⟩ := need_of h
 refine xp (.int .u8 (bix s_ s550.i)) Z Z (pu_strIdxM Z underlying9 (tm Z) (tm Z) c590) (xp (bd (57 < (bix s_ s550.i))) Z Z (pe Z) (xz (bd (57 < (bix s_ s550.i))) Z (xe ?_)))
 cases h
 exact ⟨(), wi [] Z⟩
 intro _
 have h := h586
 refine aw_cond (b := s585) (tm Z) (fun hb595 => ?_) (fun hb595 => ?_)
 replace h := ite_t hb595 h
 refine xr (xz (.i 0) Z (xz (.bool false) Z (xe (aw_ret ?_))))
 cases h
 cases onSum_inr h575
 cases congrArg some (hx551 _ rfl)
 cases onSum_inr h456
 exact rt ⟨Z, Z⟩ Z w0
 replace h := ite_fb hb595 h
 refine aw_skip (xr (xy Z (xy Z ?_)))
 obtain ⟨c591, h⟩ := need_of h
 refine xa (.int .u8 (bix s_ s550.i)) Z (pu_strIdxM Z underlying9 (tm Z) (tm Z) c591) (xz (.int .u8 (IntKind.wrap .u8 ((bix s_ s550.i) - 48))) Z (xa (.i (w64 (IntKind.wrap .u8 ((bix s_ s550.i) - 48)))) Z (pu_conv Z underlying5 underlying2 (tm Z)) (xy Z (xe (aw_seq (xr (xy Z (xy Z ?_))))))))
 refine xz (.i (w64 ((-9223372036854775808) + (w64 (IntKind.wrap .u8 ((bix s_ s550.i) - 48)))))) Z ?_
 obtain ⟨x592, x592e, h⟩ := letO_of h
 refine xa (.i x592) Z (APure.eq (pu_quo Z (tm Z) (AEv.int _ _) (by decide)) (congrArg (AV.int .i64) x592e.symm)) (xz (bd (s550.n < x592)) Z (xe (cd h Z (fun _ h => ?_) (fun _ h => ?_))))
 refine xr (xz (.i 0) Z (xz (.bool false) Z (xe (aw_ret ?_))))
 cases h
 cases onSum_inr h575
 cases congrArg some (hx551 _ rfl)
 cases onSum_inr h456
 exact rt ⟨Z, Z⟩ Z w0
 refine aw_skip (aw_region (xy Z (xz (.i (w64 (s550.n * 10))) Z (xy Z ?_))))
 obtain ⟨x593, x593e, h⟩ := letO_of h
 refine xa (.i x593) Z (APure.eq (pe Z) (congrArg (AV.int .i64) x593e.symm)) (xy Z (xe ?_))
 exact ⟨x593, (), (some_of h).symm, wi [] Z⟩
 refine aw_exit ?_
 cases h
 have h := congrArg some (hx551 _ rfl)
 exact ⟨s550.n, (), (some_of h).symm, wi [] Z⟩

theorem mewsref05.first.ok {s_ mark most over r} (h : mewsref05.first s_ mark most over = some r) : Sp prog 66 [.str s_, .int .u8 mark, .i most, .i over] [] (fun v H => v = .tup [.i r.1, .i r.2.1, .i r.2.2] ∧ H = []) := by
 unfold mewsref05.first at h
 refine sb [.tmp 8, .tmp 9, .tmp 10] func66 Z (xr (xz (.i 0) Z (xz (.i 0) Z (xz (.i 0) Z (xe (aw_seq (aw_seq (aw_region ?_))))))))
 refine xy Z (xa (bd (s_ = nS)) Z (pu_str (v := bd (s_ = nS)) Z Z (tm Z) (AEv.const Z) Z) (xe (cd h Z (fun _ h => ?_) (fun _ h => ?_))))
 refine xr (xz (.i 0) Z (xz (.i 0) Z (xz (.i (-1)) Z (xe (aw_ret ?_)))))
 cases h
 exact rt ⟨Z, Z⟩ Z w0
 refine aw_skip (aw_seq (xr (xy Z ?_)))
 obtain ⟨c203, h⟩ := need_of h
 refine xa (.int .u8 (bix s_ 0)) Z (pu_strIdxM Z underlying9 (tm Z) (AEv.int _ _) c203) (xy Z (xz (bn ((bix s_ 0) = mark)) Z (xe (cn h Z (fun _ h => ?_) (fun _ h => ?_)))))
 refine xr (xz (.i 0) Z (xz (.i 0) Z (xz (.i 5) Z (xe (aw_ret ?_)))))
 cases h
 exact rt ⟨Z, Z⟩ Z w0
 refine aw_skip (xr (xz (.i 1) Z (xe ?_)))
 obtain ⟨s402, s402e, h295⟩ := bind_some h
 refine aw_join (σ := Int) (ν := Unit) (fun u v => [(0, .str s_), (11, .i u)]) (fun u v => []) (fun u => s402 = .inl u) ?_ ?_
 intro s294
 intro _
 rintro rfl
 have h := onSum_inl h295
 refine xr (xy Z (xy Z ?_))
 obtain ⟨c387, h⟩ := need_of h
 refine xa (.str (sub s_ 1 s294)) Z (pu_strSliceM Z underlying9 (tm Z) ⟨_, (AEv.int _ _)⟩ ⟨_, (tm Z)⟩ c387) ?_
 obtain ⟨r388, r388e, h⟩ := bind_some h
 refine xo (mewsref01.Parse.ok r388e) call82 Z (xy Z (xz (.i r388.1) Z (xz (.bool r388.2) Z (xy Z (xy Z (xe (xr (xy Z (xy Z ?_)))))))))
 obtain ⟨c389, h⟩ := need_of h
 refine xa (.str (sub s_ s294 (s_.length : Int))) Z (pu_strSliceM Z underlying9 (tm Z) ⟨_, (tm Z)⟩ Z c389) (xy Z (xe (aw_seq (aw_block (xr (xy Z (xa (bd ((sub s_ s294 (s_.length : Int)) = nS)) Z (pu_str (v := bd ((sub s_ s294 (s_.length : Int)) = nS)) Z Z (tm Z) (AEv.const Z) Z) (xy Z ?_))))))))
 refine xe (cd h Z (fun _ h => ?_) (fun _ h => ?_))
 refine xr (xz (.i 0) Z (xz (.i 0) Z (xz (.i (-1)) Z (xe (aw_ret ?_)))))
 cases h
 exact rt ⟨Z, Z⟩ Z w0
 obtain ⟨s392, s392e, h393⟩ := bind_some h
 refine aw_meet (ν := Unit) (fun v => [(11, .i s294), (14, .i r388.1), (16, .str (sub s_ s294 (s_.length : Int))), (77, .bool s392)]) (fun v => []) ?_ ?_
 have h := s392e
 refine aw_region (xy Z (xz (bd (s294 = 1)) Z (xy Z ?_)))
 rcases Bool.eq_false_or_eq_true (decide (s294 = 1)) with hb395 | hb395
 replace h := ite_t (dec_t hb395) h
 refine aops_known 80 Z hb395 (xu Z (xu Z (xu Z (xz (.bool true) Z (xy Z (xe ?_))))))
 cases h
 exact ⟨(), wi [] Z⟩
 replace h := ite_f (dec_f hb395) h
 refine aops_known 80 Z hb395 (xq Z Z Z Z ?_)
 obtain ⟨c396, h⟩ := need_of h
 refine xp (.int .u8 (bix (sub s_ s294 (s_.length : Int)) 0)) Z Z (pu_strIdxM Z underlying9 (tm Z) (AEv.int _ _) c396) (xp (bn ((bix (sub s_ s294 (s_.length : Int)) 0) = 13)) Z Z (pe Z) (xz (bn ((bix (sub s_ s294 (s_.length : Int)) 0) = 13)) Z (xy Z (xe ?_))))
 cases h
 exact ⟨(), wi [] Z⟩
 intro _
 have h := h393
 refine aw_cond (b := s392) (tm Z) (fun hb400 => ?_) (fun hb400 => ?_)
 replace h := ite_t hb400 h
 refine xr (xz (.i 0) Z (xz (.i 0) Z (xz (.i 5) Z (xe (aw_ret ?_)))))
 cases h
 exact rt ⟨Z, Z⟩ Z w0
 replace h := ite_fb hb400 h
 refine xr (xy Z (xa (.i ((sub s_ s294 (s_.length : Int)).length : Int)) Z (pu_strLen Z underlying9 (tm Z)) (xz (bd (((sub s_ s294 (s_.length : Int)).length : Int) = 1)) Z (xy Z (xe (cd h Z (fun _ h => ?_) (fun _ h => ?_)))))))
 refine xr (xz (.i 0) Z (xz (.i 0) Z (xz (.i (-1)) Z (xe (aw_ret ?_)))))
 cases h
 exact rt ⟨Z, Z⟩ Z w0
 refine xr (xy Z ?_)
 obtain ⟨c397, h⟩ := need_of h
 refine xa (.int .u8 (bix (sub s_ s294 (s_.length : Int)) 1)) Z (pu_strIdxM Z underlying9 (tm Z) (AEv.int _ _) c397) (xz (bn ((bix (sub s_ s294 (s_.length : Int)) 1) = 10)) Z (xy Z (xe (cn h Z (fun _ h => ?_) (fun _ h => ?_)))))
 refine xr (xz (.i 0) Z (xz (.i 0) Z (xz (.i 5) Z (xe (aw_ret ?_)))))
 cases h
 exact rt ⟨Z, Z⟩ Z w0
 refine aw_skip (xr (xy Z (xy Z (xz (.i (w64 (s294 + 2))) Z (xy Z (xy Z (xz (.i 0) Z (xe ?_))))))))
 refine aw_ret ?_
 cases h
 exact rt ⟨Z, Z⟩ Z w0
 have h := s402e
 refine aw_block (aw_while (σ := mewsref05.first.S0) (ν := Unit) (mewsref05.first.body0 s_ most over) (fun s355 v => [(0, .str s_), (2, .i most), (3, .i over), (11, .i s355.digits)]) (fun s355 v => []) ⟨1⟩ () _ h (wi [] Z) ?_)
 rintro s355 _ x357 h hx356
 unfold mewsref05.first.body0 at h
 refine aw_seq ?_
 obtain ⟨s363, s363e, h364⟩ := bind_some h
 refine aw_meet (ν := Unit) (fun v => [(0, .str s_), (2, .i most), (3, .i over), (11, .i s355.digits), (38, .bool s363)]) (fun v => []) ?_ ?_
 have h := s363e
 refine aw_region (xy Z (xy Z (xa (.i (s_.length : Int)) Z (pu_strLen Z underlying9 (tm Z)) (xz (bd (s355.digits < (s_.length : Int))) Z (xy Z ?_)))))
 rcases Bool.eq_false_or_eq_true (decide (s355.digits < (s_.length : Int))) with hb366 | hb366
 replace h := ite_t (dec_t hb366) h
 refine aops_known 27 Z hb366 (xq Z Z Z Z (xq Z Z Z Z ?_))
 obtain ⟨c367, h⟩ := need_of h
 refine xp (.int .u8 (bix s_ s355.digits)) Z Z (pu_strIdxM Z underlying9 (tm Z) (tm Z) c367) (xp (bd (48 ≤ (bix s_ s355.digits))) Z Z (pe Z) (xz (bd (48 ≤ (bix s_ s355.digits))) Z (xy Z ?_)))
 rcases Bool.eq_false_or_eq_true (decide (48 ≤ (bix s_ s355.digits))) with hb368 | hb368
 replace h := ite_t (dec_t hb368) h
 refine aops_known 33 Z hb368 (xq Z Z Z Z (xq Z Z Z Z ?_))
 obtain ⟨c369, h⟩ := need_of h
 refine xp (.int .u8 (bix s_ s355.digits)) Z Z (pu_strIdxM Z underlying9 (tm Z) (tm Z) c369) (xp (bd ((bix s_ s355.digits) ≤ 57)) Z Z (pe Z) (xz (bd ((bix s_ s355.digits) ≤ 57)) Z (xe ?_)))
 cases h
 exact ⟨(), wi [] Z⟩
 replace h := ite_f (dec_f hb368) h
 refine aops_known 33 Z hb368 (xu Z (xu Z (xu Z (xu Z (xz (.bool false) Z (xe ?_))))))
 cases h
 exact ⟨(), wi [] Z⟩
 replace h := ite_f (dec_f hb366) h
 refine aops_known 27 Z hb366 (xu Z (xu Z (xu Z (xu Z (xz (.bool false) Z (xy Z (xu Z (xu Z (xu Z ?_)))))))))
 refine xu Z (xz (.bool false) Z (xe ?_))
 cases h
 exact ⟨(), wi [] Z⟩
 intro _
 have h := h364
 refine aw_cond (b := s363) (tm Z) (fun hb386 => ?_) (fun hb386 => ?_)
 replace h := ite_t hb386 h
 refine aw_skip (aw_block (xr (xy Z (xy Z (xz (.i (w64 (s355.digits + 1))) Z ?_)))))
 obtain ⟨c370, h⟩ := need_of h
 refine xa (.str (sub s_ 1 (w64 (s355.digits + 1)))) Z (pu_strSliceM Z underlying9 (tm Z) ⟨_, (AEv.int _ _)⟩ ⟨_, (tm Z)⟩ c370) ?_
 obtain ⟨r371, r371e, h⟩ := bind_some h
 refine xo (mewsref01.Parse.ok r371e) call82 Z (xy Z (xz (.i r371.1) Z (xz (.bool r371.2) Z (xy Z (xy Z (xe (aw_seq ?_)))))))
 obtain ⟨s374, s374e, h375⟩ := bind_some h
 refine aw_meet (ν := Unit) (fun v => [(0, .str s_), (2, .i most), (3, .i over), (11, .i s355.digits), (12, .i r371.1), (13, .bool r371.2), (53, .bool s374)]) (fun v => []) ?_ ?_
 have h := s374e
 refine aw_region (xy Z (xz (.bool (!r371.2)) Z (xy Z ?_)))
 rcases Bool.eq_false_or_eq_true (!r371.2) with hb377 | hb377
 replace h := ite_t hb377 h
 refine aops_known 49 Z hb377 (xq Z Z Z Z ?_)
 obtain ⟨c378, h⟩ := need_of h
 refine xp (.int .u8 (bix s_ 1)) Z Z (pu_strIdxM Z underlying9 (tm Z) (AEv.int _ _) c378) (xp (bd ((bix s_ 1) = 48)) Z Z (pe Z) (xz (bd ((bix s_ 1) = 48)) Z (xe ?_)))
 cases h
 exact ⟨(), wi [] Z⟩
 replace h := ite_fb hb377 h
 refine aops_known 49 Z hb377 (xu Z (xu Z (xu Z (xz (.bool false) Z (xe ?_)))))
 cases h
 exact ⟨(), wi [] Z⟩
 intro _
 have h := h375
 refine aw_cond (b := s374) (tm Z) (fun hb385 => ?_) (fun hb385 => ?_)
 replace h := ite_t hb385 h
 refine xr (xz (.i 0) Z (xz (.i 0) Z (xz (.i 5) Z (xe (aw_ret ?_)))))
 cases h
 cases congrArg some (hx356 _ rfl)
 cases onSum_inr h295
 exact rt ⟨Z, Z⟩ Z w0
 replace h := ite_fb hb385 h
 refine aw_skip (aw_seq ?_)
 obtain ⟨s380, s380e, h381⟩ := letO_of h
 refine aw_meet (ν := Unit) (fun v => [(0, .str s_), (2, .i most), (3, .i over), (11, .i s355.digits), (60, .bool s380)]) (fun v => []) ?_ ?_
 have h := s380e.symm
 refine aw_region (xy Z (xz (.bool (!r371.2)) Z (xy Z ?_)))
 rcases Bool.eq_false_or_eq_true (!r371.2) with hb383 | hb383
 replace h := ite_t hb383 h
 refine aops_known 56 Z hb383 (xu Z (xu Z (xu Z (xz (.bool true) Z (xe ?_)))))
 subst h
 exact ⟨(), wi [] Z⟩
 replace h := ite_fb hb383 h
 refine aops_known 56 Z hb383 (xq Z Z Z Z (xq Z Z Z Z (xp (bd (most < r371.1)) Z Z (pe Z) (xz (bd (most < r371.1)) Z (xe ?_)))))
 subst h
 exact ⟨(), wi [] Z⟩
 intro _
 have h := h381
 refine aw_cond (b := s380) (tm Z) (fun hb384 => ?_) (fun hb384 => ?_)
 replace h := ite_t hb384 h
 refine xr (xy Z (xz (.i 0) Z (xz (.i 0) Z (xy Z (xe (aw_ret ?_))))))
 cases h
 cases congrArg some (hx356 _ rfl)
 cases onSum_inr h295
 exact rt ⟨Z, Z⟩ Z w0
 replace h := ite_fb hb384 h
 refine aw_skip (aw_region (xy Z (xz (.i (w64 (s355.digits + 1))) Z (xy Z (xe ?_)))))
 cases h
 exact ⟨_, (), Z, wi [] Z⟩
 replace h := ite_fb hb386 h
 refine aw_exit ?_
 cases h
 have h := congrArg some (hx356 _ rfl)
 exact ⟨s355.digits, (), (some_of h).symm, wi [] Z⟩

theorem mewsref05.ends.ok {s_ r} (h : mewsref05.ends s_ = some r) : Sp prog 67 [.str s_] [] (fun v H => v = .i r ∧ H = []) := by
 unfold mewsref05.ends at h
 refine sb [.tmp 2] func67 Z (xr (xz (.i 0) Z (xe (xr (xa (.str [13, 10]) Z (pu_assign Z (AEv.const Z)) (xe ?_))))))
 obtain ⟨s92, s92e, h69⟩ := bind_some h
 refine aw_join (σ := Unit) (ν := Unit) (fun u v => []) (fun u v => []) (fun u => s92 = .inl u) ?_ ?_
 intro s68
 intro _
 rintro rfl
 have h := onSum_inl h69
 refine xr (xz (.i 0) Z (xe (aw_ret ?_)))
 cases h
 exact rt ⟨Z, Z⟩ Z w0
 have h := s92e
 refine xr (xz (.i 0) Z (xe (aw_block (aw_while (σ := mewsref05.ends.S0) (ν := Unit) (mewsref05.ends.body0 s_) (fun s83 v => [(0, .str s_), (3, .str [13, 10]), (4, .i s83.i)]) (fun s83 v => []) ⟨0⟩ () _ h (wi [] Z) ?_))))
 rintro s83 _ x85 h hx84
 unfold mewsref05.ends.body0 at h
 refine aw_seq (xr (xy Z (xz (bd (s83.i < 2)) Z (xe (cd h Z (fun _ h => ?_) (fun _ h => ?_))))))
 refine aw_skip (aw_seq (aw_block (aw_seq (xr (xy Z (xa (.i (s_.length : Int)) Z (pu_strLen Z underlying9 (tm Z)) (xy Z (xz (bd ((s_.length : Int) ≤ s83.i)) Z ?_))))))))
 refine xe (cd h Z (fun _ h => ?_) (fun _ h => ?_))
 refine xr (xz (.i (-1)) Z (xe (aw_ret ?_)))
 cases h
 cases congrArg some (hx84 _ rfl)
 cases onSum_inr h69
 exact rt ⟨Z, Z⟩ Z w0
 refine aw_skip (aw_seq ?_)
 obtain ⟨c87, h⟩ := need_of h
 obtain ⟨c88, h⟩ := need_of h
 refine aw_planR (by decide +kernel) [[], [], [], [], [], [], []] [] [] [.str s_, .i s83.i, .int .u8 (bix s_ s83.i), .str [13, 10], .i s83.i, .int .u8 (bix [13, 10] s83.i), bn ((bix s_ s83.i) = (bix [13, 10] s83.i))] (by decide +kernel) Z Z ?_ ?_
 exact ⟨ym Z Z Z, ym Z Z Z, yp Z (pu_strIdxM Z underlying9 (tm Z) (tm Z) c87), ym Z Z Z, ym Z Z Z, yp Z (pu_strIdxM Z underlying9 (tm Z) (tm Z) c88), yp Z (pe Z), trivial⟩
 refine aw_cond (b := (!decide ((bix s_ s83.i) = (bix [13, 10] s83.i)))) (tm Z) (fun hb89 => ?_) (fun hb89 => ?_)
 replace h := ite_f (ndec_t hb89) h
 refine xr (xz (.i 5) Z (xe (aw_ret ?_)))
 cases h
 cases congrArg some (hx84 _ rfl)
 cases onSum_inr h69
 exact rt ⟨Z, Z⟩ Z w0
 replace h := ite_t (ndec_f hb89) h
 refine aw_skip (aw_region (xy Z (xz (.i (w64 (s83.i + 1))) Z (xy Z (xe ?_)))))
 cases h
 exact ⟨_, (), Z, wi [] Z⟩
 refine aw_exit ?_
 cases h
 have h := congrArg some (hx84 _ rfl)
 exact ⟨(), (), (some_of h).symm, w0⟩

theorem mewsref05.many.ok {s_ l r} (h : mewsref05.many s_ l = some r) : Sp prog 46 [.str s_, .agg [.i l.Args, .i l.Bulk, .i l.Line]] [] (fun v H => v = .tup [.agg [.str r.1.Rest, .sl .no 1 (m3L r.1.Args), .i r.1.Left, .i r.1.Size, .bool r.1.Body, .i r.1.Need, .i r.1.Dead], .i r.2] ∧ H = []) := by
 unfold mewsref05.many at h
 refine sb [.cell 4 74, .tmp 5] func46 Z (xr (xb [.i l.Args, .i l.Bulk, .i l.Line] Z fun p161 => xA (.agg [.str nS, .sl .full 1 e2L, .i 0, .i 0, .bool false, .i 0, .i 0]) zeroValue74 Z fun p162 => xz (.i 0) Z (xe (xr (xy Z (xf (.ptr p161 0) underlying66 sizeOf3 Z (xl 1 isAgg3 Z ?_)))))))
 obtain ⟨r163, r163e, h⟩ := bind_some h
 refine xo (mewsref05.first.ok r163e) call66 Z (xy Z (xz (.i r163.1) Z (xz (.i r163.2.1) Z (xz (.i r163.2.2) Z (xy Z (xy Z (xy Z (xe (aw_seq (aw_seq ?_))))))))))
 refine aw_region (xy Z (xz (bn (r163.2.2 = 0)) Z (xe (cn h Z (fun _ h => ?_) (fun _ h => ?_)))))
 refine xr (xy Z (xa (.agg [.str s_, .sl .full 1 e2L, .i 0, .i 0, .bool false, .i 0, .i 0]) Z (pu_build (zs := [.str nS, .sl .full 1 e2L, .i 0, .i 0, .bool false, .i 0, .i 0]) (szs := [1, 1, 1, 1, 1, 1, 1]) (aparts := [(0, .str s_)]) (cs := [.str s_, .sl .full 1 e2L, .i 0, .i 0, .bool false, .i 0, .i 0]) Z underlying74 zeroValue74 Z ⟨sizeOf9, sizeOf71, sizeOf3, sizeOf3, sizeOf4, sizeOf3, sizeOf72, trivial⟩ ⟨Z, (tm Z), trivial⟩ Z) (xy Z (xs 0 [.str s_, .sl .full 1 e2L, .i 0, .i 0, .bool false, .i 0, .i 0] sizeOf74 Z (xy Z (xe (aw_ret ?_)))))))
 cases h
 exact rq [.agg [.str s_, .sl .full 1 e2L, .i 0, .i 0, .bool false, .i 0, .i 0], .i r163.2.2] ⟨Z, Z⟩ (AV.Le.tup ⟨(AV.Le.agg ⟨vr, (AV.Le.forget _ _ _), vr, vr, vr, vr, vr, trivial⟩), vr, trivial⟩) ⟨(CellOk.agg 0 (tm Z) Z isAgg74 sizeOf74 (nb Z) Z), (tm Z), trivial⟩ w0
 refine aw_skip (xr (xy Z (xy Z (xa (.agg [.str nS, .sl .full 1 e2L, .i r163.1, .i r163.2.1, .bool false, .i 0, .i 0]) Z (pu_build (zs := [.str nS, .sl .full 1 e2L, .i 0, .i 0, .bool false, .i 0, .i 0]) (szs := [1, 1, 1, 1, 1, 1, 1]) (aparts := [(2, .i r163.1), (3, .i r163.2.1)]) (cs := [.str nS, .sl .full 1 e2L, .i r163.1, .i r163.2.1, .bool false, .i 0, .i 0]) Z underlying74 zeroValue74 Z ⟨sizeOf9, sizeOf71, sizeOf3, sizeOf3, sizeOf4, sizeOf3, sizeOf72, trivial⟩ ⟨Z, (tm Z), ⟨Z, (tm Z), trivial⟩⟩ Z) (xA (.agg [.str nS, .sl .full 1 e2L, .i 0, .i 0, .bool false, .i 0, .i 0]) zeroValue74 Z fun p164 => xs 0 [.str nS, .sl .full 1 e2L, .i r163.1, .i r163.2.1, .bool false, .i 0, .i 0] sizeOf74 Z (xe ?_))))))
 obtain ⟨s319, s319e, h242⟩ := bind_some h
 refine aw_join (σ := (List (List UInt8)) × Int × Int) (ν := Nat) (fun u v => [(4, .ptr p162 0), (9, .ptr p164 0)]) (fun u v => [(p162, .cells [.str nS, .sl .full 1 e2L, .i 0, .i 0, .bool false, .i 0, .i 0]), (p164, .cells [.str nS, .sl (.own v) 1 (m3L u.1), .i u.2.1, .i u.2.2, .bool false, .i 0, .i 0]), (v, .spare)]) (fun u => s319 = .inl u) ?_ ?_
 intro s240
 intro n241
 rintro rfl
 have h := onSum_inl h242
 refine xr (xL 1 isAgg74 sizeOf74 Z (xs 0 [.str nS, .sl (.own n241) 1 (m3L s240.1), .i s240.2.1, .i s240.2.2, .bool false, .i 0, .i 0] sizeOf74 Z (xz (.i 0) Z (xe (aw_ret ?_)))))
 cases h
 exact rq [.agg [.str nS, .sl (.own n241) 1 (m3L s240.1), .i s240.2.1, .i s240.2.2, .bool false, .i 0, .i 0], .i 0] ⟨Z, Z⟩ (AV.Le.tup ⟨(AV.Le.agg ⟨vr, (AV.Le.forget _ _ _), vr, vr, vr, vr, vr, trivial⟩), vr, trivial⟩) ⟨(CellOk.agg 0 (tm Z) Z isAgg74 sizeOf74 (nb Z) Z), (tm Z), trivial⟩ w0
 have h := s319e
 refine aw_block (aw_claimCell 0 1 Z Z fun t318 => (aw_while (σ := mewsref05.many.S0) (ν := Nat) (mewsref05.many.body0 s_ l) (fun s291 v => [(0, .str s_), (3, .ptr p161 0), (4, .ptr p162 0), (9, .ptr p164 0)]) (fun s291 v => [(p161, .cells [.i l.Args, .i l.Bulk, .i l.Line]), (p162, .cells [.str nS, .sl .full 1 e2L, .i 0, .i 0, .bool false, .i 0, .i 0]), (p164, .cells [.str nS, .sl (.own v) 1 (m3L s291.c), .i s291.c2, .i s291.c3, .bool false, .i 0, .i 0]), (v, .spare)]) ⟨([] : List (List UInt8)), r163.1, r163.2.1⟩ t318 _ h (wi [3, 2, 1, 0] Z) ?_))
 rintro s291 n292 x294 h hx293
 unfold mewsref05.many.body0 at h
 refine aw_seq (xr (xf (.ptr p164 2) underlying74 sizeOf3 Z (xl 2 isAgg3 Z (xz (bd (0 < s291.c2)) Z (xe (cd h Z (fun _ h => ?_) (fun _ h => ?_)))))))
 refine aw_skip (aw_block (aw_seq ?_))
 obtain ⟨c296, h⟩ := need_of h
 obtain ⟨r297, r297e, h⟩ := bind_some h
 refine aw_planR (by decide +kernel) [[], [], [(2, 0, false)], [], [], [(0, 0, false)], [], [], [], [], [], [], [], []] [[], [], [], []] [[[(p161, .cells [.i l.Args, .i l.Bulk, .i l.Line])]], [[(p162, .cells [.str nS, .sl .full 1 e2L, .i 0, .i 0, .bool false, .i 0, .i 0])]], [[(p164, .cells [.str nS, .sl (.own n292) 1 (m3L s291.c), .i s291.c2, .i s291.c3, .bool false, .i 0, .i 0])]], [[(n292, .spare)]]] [.str s_, .ptr p164 3, .i s291.c3, .str (sub s_ s291.c3 (s_.length : Int)), .ptr p161 1, .i l.Bulk, .tup [.i r297.1, .i r297.2.1, .i r297.2.2], .tup [.i r297.1, .i r297.2.1, .i r297.2.2], .i r297.1, .i r297.2.1, .i r297.2.2, .i r297.1, .i r297.2.1, .i r297.2.2] (by decide +kernel) Z Z ?_ ?_
 exact ⟨ym Z Z Z, yp Z (fa Z underlying74 Z sizeOf3 Z Z Z), stepg_plain Z (op_load1 (i := 0) Z isAgg3 (tm Z) Z Z ⟨Z, Z⟩), yp Z (pu_strSliceM Z underlying9 (tm Z) ⟨_, (tm Z)⟩ Z c296), yp Z (fa Z underlying66 Z sizeOf3 Z Z Z), stepg_plain Z (op_load1 (i := 0) Z isAgg3 (tm Z) Z Z ⟨Z, Z⟩), stepg_plain Z (op_call (vs := [.str (sub s_ s291.c3 (s_.length : Int)), .int .u8 36, .i l.Bulk, .i 6]) (H := []) Z call66 ⟨(tm Z), (AEv.int _ _), (tm Z), (AEv.int _ _), trivial⟩ (R := []) (List.Perm.refl _) (mewsref05.first.ok r297e) (by rintro _ _ ⟨rfl, rfl⟩; exact ⟨Z, Z⟩)), ym Z Z Z, yp Z (pe Z), yp Z (pe Z), yp Z (pe Z), ym Z Z Z, ym Z Z Z, ym Z Z Z, trivial⟩
 refine aw_seq (xr (xy Z (xz (bn (r297.2.2 = 0)) Z (xe (cn h Z (fun _ h => ?_) (fun _ h => ?_))))))
 refine xr (xy Z (xf (.ptr p164 3) underlying74 sizeOf3 Z (xl 2 isAgg3 Z ?_)))
 obtain ⟨c298, h⟩ := need_of h
 refine xa (.str (sub s_ s291.c3 (s_.length : Int))) Z (pu_strSliceM Z underlying9 (tm Z) ⟨_, (tm Z)⟩ Z c298) (xf (.ptr p164 0) underlying74 sizeOf9 Z (xs 2 [.str (sub s_ s291.c3 (s_.length : Int)), .sl (.own n292) 1 (m3L s291.c), .i s291.c2, .i s291.c3, .bool false, .i 0, .i 0] sizeOf9 Z (xe (xr (xL 2 isAgg74 sizeOf74 Z (xy Z (xs 1 [.str (sub s_ s291.c3 (s_.length : Int)), .sl (.own n292) 1 (m3L s291.c), .i s291.c2, .i s291.c3, .bool false, .i 0, .i 0] sizeOf74 Z (xy Z ?_))))))))
 refine xe (aw_ret ?_)
 cases h
 cases congrArg some (hx293 _ rfl)
 cases onSum_inr h242
 exact rq [.agg [.str (sub s_ s291.c3 (s_.length : Int)), .sl (.own n292) 1 (m3L s291.c), .i s291.c2, .i s291.c3, .bool false, .i 0, .i 0], .i r297.2.2] ⟨Z, Z⟩ (AV.Le.tup ⟨(AV.Le.agg ⟨vr, (AV.Le.forget _ _ _), vr, vr, vr, vr, vr, trivial⟩), vr, trivial⟩) ⟨(CellOk.agg 1 (tm Z) Z isAgg74 sizeOf74 (nb Z) Z), (tm Z), trivial⟩ w0
 refine aw_skip (xr (xf (.ptr p164 3) underlying74 sizeOf3 Z (xl 2 isAgg3 Z (xy Z (xz (.i (w64 (s291.c3 + r297.2.1))) Z (xf (.ptr p164 3) underlying74 sizeOf3 Z (xs 2 [.str nS, .sl (.own n292) 1 (m3L s291.c), .i s291.c2, .i (w64 (s291.c3 + r297.2.1)), .bool false, .i 0, .i 0] sizeOf3 Z (xe ?_))))))))
 refine xr (xy Z (xf (.ptr p164 3) underlying74 sizeOf3 Z (xl 2 isAgg3 Z ?_)))
 obtain ⟨c299, h⟩ := need_of h
 refine xa (.str (sub s_ (w64 (s291.c3 + r297.2.1)) (s_.length : Int))) Z (pu_strSliceM Z underlying9 (tm Z) ⟨_, (tm Z)⟩ Z c299) (xy Z (xe (xr (xz (.i (-1)) Z (xe ?_)))))
 obtain ⟨s304, s304e, h305⟩ := bind_some h
 refine aw_meet (ν := Unit) (fun v => [(0, .str s_), (3, .ptr p161 0), (4, .ptr p162 0), (9, .ptr p164 0), (10, .i r297.1), (13, .str (sub s_ (w64 (s291.c3 + r297.2.1)) (s_.length : Int))), (14, .i s304)]) (fun v => [(p161, .cells [.i l.Args, .i l.Bulk, .i l.Line]), (p162, .cells [.str nS, .sl .full 1 e2L, .i 0, .i 0, .bool false, .i 0, .i 0]), (p164, .cells [.str nS, .sl (.own n292) 1 (m3L s291.c), .i s291.c2, .i (w64 (s291.c3 + r297.2.1)), .bool false, .i 0, .i 0]), (n292, .spare)]) ?_ ?_
 have h := s304e
 refine xr (xy Z (xa (.i ((sub s_ (w64 (s291.c3 + r297.2.1)) (s_.length : Int)).length : Int)) Z (pu_strLen Z underlying9 (tm Z)) (xy Z (xz (bd (r297.1 ≤ ((sub s_ (w64 (s291.c3 + r297.2.1)) (s_.length : Int)).length : Int))) Z (xe (cd h Z (fun _ h => ?_) (fun _ h => ?_)))))))
 refine aw_region (xy Z (xy Z ?_))
 obtain ⟨c307, h⟩ := need_of h
 obtain ⟨x308, x308e, h⟩ := letO_of h
 refine xa (.str x308) Z (APure.eq (pu_strSliceM Z underlying9 (tm Z) ⟨_, (tm Z)⟩ Z c307) (congrArg (AV.str) x308e.symm)) ?_
 obtain ⟨r309, r309e, h⟩ := bind_some h
 refine xo (mewsref05.ends.ok r309e) call67 Z (xy Z (xe ?_))
 cases h
 exact ⟨(), wi [0, 1, 2, 3] Z⟩
 refine aw_skip ?_
 cases h
 exact ⟨(), wi [0, 1, 2, 3] Z⟩
 intro _
 have h := h305
 refine aw_seq (xr (xy Z (xz (bn (s304 = 0)) Z (xe (cn h Z (fun _ h => ?_) (fun _ h => ?_))))))
 refine xr (xf (.ptr p164 4) underlying74 sizeOf4 Z (xs 2 [.str nS, .sl (.own n292) 1 (m3L s291.c), .i s291.c2, .i (w64 (s291.c3 + r297.2.1)), .bool true, .i 0, .i 0] sizeOf4 Z (xe (xr (xy Z (xf (.ptr p164 5) underlying74 sizeOf3 Z (xs 2 [.str nS, .sl (.own n292) 1 (m3L s291.c), .i s291.c2, .i (w64 (s291.c3 + r297.2.1)), .bool true, .i r297.1, .i 0] sizeOf3 Z ?_)))))))
 refine xe (xr (xy Z (xf (.ptr p164 0) underlying74 sizeOf9 Z (xs 2 [.str (sub s_ (w64 (s291.c3 + r297.2.1)) (s_.length : Int)), .sl (.own n292) 1 (m3L s291.c), .i s291.c2, .i (w64 (s291.c3 + r297.2.1)), .bool true, .i r297.1, .i 0] sizeOf9 Z (xe (xr (xL 2 isAgg74 sizeOf74 Z ?_)))))))
 refine xy Z (xs 1 [.str (sub s_ (w64 (s291.c3 + r297.2.1)) (s_.length : Int)), .sl (.own n292) 1 (m3L s291.c), .i s291.c2, .i (w64 (s291.c3 + r297.2.1)), .bool true, .i r297.1, .i 0] sizeOf74 Z (xy Z (xe (aw_ret ?_))))
 cases h
 cases congrArg some (hx293 _ rfl)
 cases onSum_inr h242
 exact rq [.agg [.str (sub s_ (w64 (s291.c3 + r297.2.1)) (s_.length : Int)), .sl (.own n292) 1 (m3L s291.c), .i s291.c2, .i (w64 (s291.c3 + r297.2.1)), .bool true, .i r297.1, .i 0], .i s304] ⟨Z, Z⟩ (AV.Le.tup ⟨(AV.Le.agg ⟨vr, (AV.Le.forget _ _ _), vr, vr, vr, vr, vr, trivial⟩), vr, trivial⟩) ⟨(CellOk.agg 1 (tm Z) Z isAgg74 sizeOf74 (nb Z) Z), (tm Z), trivial⟩ w0
 refine aw_skip (aw_seq ?_)
 obtain ⟨c311, h⟩ := need_of h
 obtain ⟨x312, x312e, h⟩ := letO_of h
 obtain ⟨c313, h⟩ := need_of h
 refine aw_reserve fun p314 => (aw_planR (by decide +kernel) [[], [(3, 0, false)], [], [], [], [], [(4, 0, true), (0, 0, true)], [], [(3, 0, true)]] [[6], [], [], [8], [6]] [[[(p314, .resv)], [(p314, .spare)]], [[(p161, .cells [.i l.Args, .i l.Bulk, .i l.Line])]], [[(p162, .cells [.str nS, .sl .full 1 e2L, .i 0, .i 0, .bool false, .i 0, .i 0])]], [[(p164, .cells [.str nS, .sl (.own n292) 1 (m3L s291.c), .i s291.c2, .i (w64 (s291.c3 + r297.2.1)), .bool false, .i 0, .i 0])], [(p164, .cells [.str nS, .sl (.own p314) 1 (m3L (s291.c ++ [x312])), .i s291.c2, .i (w64 (s291.c3 + r297.2.1)), .bool false, .i 0, .i 0])]], [[(n292, .spare)], []]] [.ptr p164 1, .sl (.own n292) 1 (m3L s291.c), .str (sub s_ (w64 (s291.c3 + r297.2.1)) (s_.length : Int)), .i r297.1, .str x312, .sl .full 1 ([x312].map AV.str), .sl (.own p314) 1 (m3L (s291.c ++ [x312])), .ptr p164 1, .un] (by decide +kernel) Z Z ?_ ?_)
 exact ⟨yp Z (fa Z underlying74 Z sizeOf71 Z Z Z), stepg_plain Z (op_load1 (i := 0) Z isAgg71 (tm Z) Z Z ⟨Z, Z⟩), ym Z Z Z, ym Z Z Z, yp Z (APure.eq (pu_strSliceM Z underlying9 (tm Z) Z ⟨_, (tm Z)⟩ c311) (congrArg (AV.str) x312e.symm)), stepg_plain Z (op_buildSlice (xs := ([x312] : List (List UInt8)).map AV.str) (aparts := [(0, .str x312)]) Z underlying71 sizeOf9 zeroValue9 (by decide) (by decide) ⟨Z, (tm Z), trivial⟩ Z Z Z ⟨Z, Z⟩), stepg_plain Z (aop_settleS (op_appendOM (q := 0) Z underlying71 underlying71 (.inl Z) typeInfo9 Z Z Z (by decide) (tm Z) Z (given_sl (tm Z)) c313 fun t => ⟨t, Z, Z⟩) ⟨Z, Z⟩), yp Z (fa Z underlying74 Z sizeOf71 Z Z Z), stepg_plain Z (op_store (i := 0) (cs' := [.str nS, .sl (.own p314) 1 (m3L (s291.c ++ [x312])), .i s291.c2, .i (w64 (s291.c3 + r297.2.1)), .bool false, .i 0, .i 0]) Z sizeOf71 (tm Z) (v := .sl (.own p314) 1 (m3L (s291.c ++ [x312]))) (tm Z) Z Z Z (nb Z) Z ⟨Z, Z⟩), trivial⟩
 refine xr (xf (.ptr p164 2) underlying74 sizeOf3 Z (xl 3 isAgg3 Z (xz (.i (w64 (s291.c2 - 1))) Z (xf (.ptr p164 2) underlying74 sizeOf3 Z (xs 3 [.str nS, .sl (.own p314) 1 (m3L (s291.c ++ [x312])), .i (w64 (s291.c2 - 1)), .i (w64 (s291.c3 + r297.2.1)), .bool false, .i 0, .i 0] sizeOf3 Z (xe (aw_region (xf (.ptr p164 3) underlying74 sizeOf3 Z ?_))))))))
 refine xl 3 isAgg3 Z (xy Z (xz (.i (w64 (r297.1 + 2))) Z (xz (.i (w64 ((w64 (s291.c3 + r297.2.1)) + (w64 (r297.1 + 2))))) Z (xf (.ptr p164 3) underlying74 sizeOf3 Z (xs 3 [.str nS, .sl (.own p314) 1 (m3L (s291.c ++ [x312])), .i (w64 (s291.c2 - 1)), .i (w64 ((w64 (s291.c3 + r297.2.1)) + (w64 (r297.1 + 2)))), .bool false, .i 0, .i 0] sizeOf3 Z (xe ?_))))))
 cases h
 exact ⟨_, p314, Z, wl [1, 2, 3, 0] Z ⟨⟨_, Z, cr, Z⟩, ⟨_, Z, cr, Z⟩, ⟨_, Z, ⟨vr, vr, vr, vr, vr, vr, vr, trivial⟩, Z⟩, ⟨_, Z, Z⟩, trivial⟩ ⟨tm Z, tm Z, tm Z, tm Z, trivial⟩⟩
 refine aw_exit ?_
 cases h
 have h := congrArg some (hx293 _ rfl)
 exact ⟨(s291.c, s291.c2, s291.c3), n292, (some_of h).symm, wi [1, 2, 3] Z⟩

theorem mewsref04.digit.ok {c_ r} (h : mewsref04.digit c_ = some r) : Sp prog 83 [.int .u8 c_] [] (fun v H => v = .i r ∧ H = []) := by
 unfold mewsref04.digit at h
 refine sb [.tmp 2] func83 Z (xr (xz (.i 0) Z (xe (xr (xa (.str [48, 49, 50, 51, 52, 53, 54, 55, 56, 57, 97, 98, 99, 100, 101, 102]) Z (pu_assign Z (AEv.const Z)) (xa (.str [48, 49, 50, 51, 52, 53, 54, 55, 56, 57, 65, 66, 67, 68, 69, 70]) Z (pu_assign Z (AEv.const Z)) (xe ?_)))))))
 obtain ⟨s164, s164e, h123⟩ := bind_some h
 refine aw_join (σ := Unit) (ν := Unit) (fun u v => []) (fun u v => []) (fun u => s164 = .inl u) ?_ ?_
 intro s122
 intro _
 rintro rfl
 have h := onSum_inl h123
 refine xr (xz (.i 16) Z (xe (aw_ret ?_)))
 cases h
 exact rt ⟨Z, Z⟩ Z w0
 have h := s164e
 refine xr (xz (.i 0) Z (xe (aw_block (aw_while (σ := mewsref04.digit.S0) (ν := Unit) (mewsref04.digit.body0 c_) (fun s149 v => [(0, .int .u8 c_), (3, .str [48, 49, 50, 51, 52, 53, 54, 55, 56, 57, 97, 98, 99, 100, 101, 102]), (4, .str [48, 49, 50, 51, 52, 53, 54, 55, 56, 57, 65, 66, 67, 68, 69, 70]), (5, .i s149.i)]) (fun s149 v => []) ⟨0⟩ () _ h (wi [] Z) ?_))))
 rintro s149 _ x151 h hx150
 unfold mewsref04.digit.body0 at h
 refine aw_seq (xr (xy Z (xz (bd (s149.i < 16)) Z (xe (cd h Z (fun _ h => ?_) (fun _ h => ?_))))))
 refine aw_skip (aw_seq (aw_block ?_))
 obtain ⟨s156, s156e, h157⟩ := bind_some h
 refine aw_meet (ν := Unit) (fun v => [(0, .int .u8 c_), (3, .str [48, 49, 50, 51, 52, 53, 54, 55, 56, 57, 97, 98, 99, 100, 101, 102]), (4, .str [48, 49, 50, 51, 52, 53, 54, 55, 56, 57, 65, 66, 67, 68, 69, 70]), (5, .i s149.i), (21, .bool s156)]) (fun v => []) ?_ ?_
 have h := s156e
 refine aw_region (xy Z (xy Z ?_))
 obtain ⟨c159, h⟩ := need_of h
 refine xa (.int .u8 (bix [48, 49, 50, 51, 52, 53, 54, 55, 56, 57, 97, 98, 99, 100, 101, 102] s149.i)) Z (pu_strIdxM Z underlying9 (tm Z) (tm Z) c159) (xy Z (xz (bd ((bix [48, 49, 50, 51, 52, 53, 54, 55, 56, 57, 97, 98, 99, 100, 101, 102] s149.i) = c_)) Z (xy Z ?_)))
 rcases Bool.eq_false_or_eq_true (decide ((bix [48, 49, 50, 51, 52, 53, 54, 55, 56, 57, 97, 98, 99, 100, 101, 102] s149.i) = c_)) with hb160 | hb160
 replace h := ite_t (dec_t hb160) h
 refine aops_known 15 Z hb160 (xu Z (xu Z (xu Z (xu Z (xu Z (xz (.bool true) Z (xe ?_)))))))
 cases h
 exact ⟨(), wi [] Z⟩
 replace h := ite_f (dec_f hb160) h
 refine aops_known 15 Z hb160 (xq Z Z Z Z (xq Z Z Z Z ?_))
 obtain ⟨c161, h⟩ := need_of h
 refine xp (.int .u8 (bix [48, 49, 50, 51, 52, 53, 54, 55, 56, 57, 65, 66, 67, 68, 69, 70] s149.i)) Z Z (pu_strIdxM Z underlying9 (tm Z) (tm Z) c161) (xq Z Z Z Z (xp (bd ((bix [48, 49, 50, 51, 52, 53, 54, 55, 56, 57, 65, 66, 67, 68, 69, 70] s149.i) = c_)) Z Z (pe Z) (xz (bd ((bix [48, 49, 50, 51, 52, 53, 54, 55, 56, 57, 65, 66, 67, 68, 69, 70] s149.i) = c_)) Z (xe ?_))))
 cases h
 exact ⟨(), wi [] Z⟩
 intro _
 have h := h157
 refine aw_cond (b := s156) (tm Z) (fun hb162 => ?_) (fun hb162 => ?_)
 replace h := ite_t hb162 h
 refine xr (xy Z (xy Z (xe (aw_ret ?_))))
 cases h
 cases congrArg some (hx150 _ rfl)
 cases onSum_inr h123
 exact rt ⟨Z, Z⟩ Z w0
 replace h := ite_fb hb162 h
 refine aw_skip (aw_region (xy Z (xz (.i (w64 (s149.i + 1))) Z (xy Z (xe ?_)))))
 cases h
 exact ⟨_, (), Z, wi [] Z⟩
 refine aw_exit ?_
 cases h
 have h := congrArg some (hx150 _ rfl)
 exact ⟨(), (), (some_of h).symm, w0⟩

theorem mewsref04.turned.ok {c_ r} (h : mewsref04.turned c_ = some r) : Sp prog 84 [.int .u8 c_] [] (fun v H => v = .int .u8 r ∧ H = []) := by
 unfold mewsref04.turned at h
 refine sb [.tmp 2] func84 Z (xr (xz (.int .u8 0) Z (xe (xr (xa (.str [110, 114, 116, 98, 97]) Z (pu_assign Z (AEv.const Z)) (xa (.str [10, 13, 9, 8, 7]) Z (pu_assign Z (AEv.const Z)) (xe ?_)))))))
 obtain ⟨s80, s80e, h60⟩ := bind_some h
 refine aw_join (σ := Unit) (ν := Unit) (fun u v => [(0, .int .u8 c_)]) (fun u v => []) (fun u => s80 = .inl u) ?_ ?_
 intro s59
 intro _
 rintro rfl
 have h := onSum_inl h60
 refine xr (xy Z (xy Z (xe (aw_ret ?_))))
 cases h
 exact rt ⟨Z, Z⟩ Z w0
 have h := s80e
 refine xr (xz (.i 0) Z (xe (aw_block (aw_while (σ := mewsref04.turned.S0) (ν := Unit) (mewsref04.turned.body0 c_) (fun s72 v => [(0, .int .u8 c_), (3, .str [110, 114, 116, 98, 97]), (4, .str [10, 13, 9, 8, 7]), (5, .i s72.i)]) (fun s72 v => []) ⟨0⟩ () _ h (wi [] Z) ?_))))
 rintro s72 _ x74 h hx73
 unfold mewsref04.turned.body0 at h
 refine aw_seq (xr (xy Z (xy Z (xa (.i ([110, 114, 116, 98, 97].length : Int)) Z (pu_strLen Z underlying9 (tm Z)) (xz (bd (s72.i < ([110, 114, 116, 98, 97].length : Int))) Z (xe (cd h Z (fun _ h => ?_) (fun _ h => ?_))))))))
 refine aw_skip (aw_seq (aw_block (xr (xy Z (xy Z ?_)))))
 obtain ⟨c76, h⟩ := need_of h
 refine xa (.int .u8 (bix [110, 114, 116, 98, 97] s72.i)) Z (pu_strIdxM Z underlying9 (tm Z) (tm Z) c76) (xy Z (xz (bd ((bix [110, 114, 116, 98, 97] s72.i) = c_)) Z (xe (cd h Z (fun _ h => ?_) (fun _ h => ?_)))))
 refine xr (xy Z (xy Z ?_))
 obtain ⟨c77, h⟩ := need_of h
 refine xa (.int .u8 (bix [10, 13, 9, 8, 7] s72.i)) Z (pu_strIdxM Z underlying9 (tm Z) (tm Z) c77) (xy Z (xe (aw_ret ?_)))
 cases h
 cases congrArg some (hx73 _ rfl)
 cases onSum_inr h60
 exact rt ⟨Z, Z⟩ Z w0
 refine aw_skip (aw_region (xy Z (xz (.i (w64 (s72.i + 1))) Z (xy Z (xe ?_)))))
 cases h
 exact ⟨_, (), Z, wi [] Z⟩
 refine aw_exit ?_
 cases h
 have h := congrArg some (hx73 _ rfl)
 exact ⟨(), (), (some_of h).symm, wi [] Z⟩

end Go.Pu
