/- Printed by lift.py: the functions come to them. -/
import Derived.Test.YtakmcdnailmhlaaLiftWS
import Derived.Test.YtakmcdnailmhlaaPTK3
set_option maxRecDepth 100000
set_option maxHeartbeats 0
namespace Go.Pu
open Go.Lift Go.Proofs.Try Go.RowKit Go.Proofs

theorem mewslaw49.ProjectTwice.ok {c_ l i r} (h : mewslaw49.ProjectTwice c_ l i = some r) : Sp prog 3 [.agg [.sl .no 14 (m0L c_.Tenants), .i c_.Quantum, .i c_.Deadline], .sl .no 9 (m1L l), .i i] [] (fun v H => v = .bool r ∧ H = []) := by
 unfold mewslaw49.ProjectTwice at h
 refine sb [.tmp 6] func3 Z (xr (xb [.sl .no 14 (m0L c_.Tenants), .i c_.Quantum, .i c_.Deadline] Z fun p98 => xz (.bool false) Z (xe (aw_seq (xr (xL 0 isAgg24 sizeOf24 Z (xy Z ?_)))))))
 obtain ⟨r99, r99e, h⟩ := bind_some h
 refine xo (mewslaw46.Far.ok r99e) call5 Z (xe (cb h Z (fun _ h => ?_) (fun _ h => ?_)))
 refine aw_seq (aw_region ?_)
 obtain ⟨r100, r100e, h⟩ := bind_some h
 refine xo (mewslaw49.alive.ok r100e) call6 Z (xy Z (xe (aw_ret ?_)))
 cases h
 exact rt ⟨Z, Z⟩ Z w0
 refine aw_skip (xr (xL 0 isAgg24 sizeOf24 Z (xy Z (xy Z ?_))))
 obtain ⟨r101, r101e, h⟩ := bind_some h
 refine xk (project.Tenant.ok r101e) call7 Z ?_
 rintro _ _ ⟨t102, rfl, rfl⟩
 refine xy Z (xe (aw_seq (xr (xL 1 isAgg24 sizeOf24 Z (xy Z (xy Z ?_))))))
 obtain ⟨r103, r103e, h⟩ := bind_some h
 refine xc Z (op_call (vs := [.agg [.sl .no 14 (m0L c_.Tenants), .i c_.Quantum, .i c_.Deadline], .sl .no 9 (m1L r101), .i i]) (H := []) Z call7 ⟨(tm Z), (AEv.le (tm Z) (AV.Le.forget _ _ _)), (tm Z), trivial⟩ (List.Perm.refl _) (project.Tenant.ok r103e) ?_)
 rintro _ _ ⟨t104, rfl, rfl⟩
 refine xy Z ?_
 obtain ⟨r105, r105e, h⟩ := bind_some h
 refine xc Z (op_call (vs := [.sl .no 9 (m1L r103), .sl .no 9 (m1L r101)]) (H := []) Z call8 ⟨(AEv.le (tm Z) (AV.Le.forget _ _ _)), (AEv.le (tm Z) (AV.Le.forget _ _ _)), trivial⟩ (List.Perm.refl _) (project.Same.ok r105e) ?_)
 rintro _ _ ⟨rfl, rfl⟩
 refine xz (.bool (!r105)) Z (xe (cb h Z (fun _ h => ?_) (fun _ h => ?_)))
 refine xr (xz (.bool false) Z (xe (aw_ret ?_)))
 cases h
 exact rt ⟨Z, Z⟩ Z w0
 refine aw_skip ?_
 obtain ⟨s192, s192e, h148⟩ := bind_some h
 refine aw_join (σ := Unit) (ν := Unit) (fun u v => []) (fun u v => []) (fun u => s192 = .inl u) ?_ ?_
 intro s147
 intro _
 rintro rfl
 have h := onSum_inl h148
 refine aw_seq (aw_region ?_)
 obtain ⟨r191, r191e, h⟩ := bind_some h
 refine xo (mewslaw49.alive.ok r191e) call6 Z (xy Z (xe (aw_ret ?_)))
 cases h
 exact rt ⟨Z, Z⟩ Z w0
 have h := s192e
 refine xr (xL 2 isAgg24 sizeOf24 Z (xy Z ?_))
 obtain ⟨r150, r150e, h⟩ := bind_some h
 refine xc Z (op_call (vs := [.agg [.sl .no 14 (m0L c_.Tenants), .i c_.Quantum, .i c_.Deadline], .sl .no 9 (m1L r101)]) (H := []) Z call9 ⟨(tm Z), (AEv.le (tm Z) (AV.Le.forget _ _ _)), trivial⟩ (List.Perm.refl _) (project.Labels.ok r150e) ?_)
 rintro _ _ ⟨t151, rfl, rfl⟩
 refine xa (.i (r150.length : Int)) Z (pu_lenM Z underlying30 (tm Z)) (xz (.i 0) Z (xe (aw_block (aw_while (σ := mewslaw49.ProjectTwice.S0) (ν := Unit) (mewslaw49.ProjectTwice.body0 r150 i c_ l) (fun s176 v => [(1, .sl .no 9 (m1L l)), (2, .i i), (3, .ptr p98 0), (27, .sl (.own t151) 2 (m6L r150)), (28, .i (r150.length : Int)), (29, .i s176.t29)]) (fun s176 v => [(p98, .cells [.sl .no 14 (m0L c_.Tenants), .i c_.Quantum, .i c_.Deadline]), (t151, .spare)]) ⟨0⟩ () _ h (wi [3, 0] Z) ?_))))
 rintro s176 _ x178 h hx177
 unfold mewslaw49.ProjectTwice.body0 at h
 refine xr (xz (bd (s176.t29 < (r150.length : Int))) Z (xe (aw_seq (cd h Z (fun _ h => ?_) (fun _ h => ?_)))))
 refine aw_skip (aw_seq (aw_block (aw_seq (aw_region ?_))))
 obtain ⟨c180, h⟩ := need_of h
 refine xa (.vptr [.i (ix r150 s176.t29).Handle, .i (ix r150 s176.t29).Tenant]) Z (pu_indexAddrM Z underlying30 sizeOf33 (tm Z) (tm Z) c180 Z) (xc Z (op_loadVN Z isAgg33 sizeOf33 (tm Z) (nb Z) Z (xA (.agg [.i 0, .i 0]) zeroValue33 Z fun p181 => xs 0 [.i (ix r150 s176.t29).Handle, .i (ix r150 s176.t29).Tenant] sizeOf33 Z (xe ?_))))
 obtain ⟨s184, s184e, h185⟩ := bind_some h
 refine aw_meet (ν := Unit) (fun v => [(1, .sl .no 9 (m1L l)), (2, .i i), (3, .ptr p98 0), (27, .sl (.own t151) 2 (m6L r150)), (28, .i (r150.length : Int)), (29, .i s176.t29), (45, .bool s184)]) (fun v => [(p98, .cells [.sl .no 14 (m0L c_.Tenants), .i c_.Quantum, .i c_.Deadline]), (t151, .spare)]) ?_ ?_
 have h := s184e
 refine aw_region (xf (.ptr p181 1) underlying33 sizeOf3 Z (xl 0 isAgg3 Z (xy Z (xz (bn ((ix r150 s176.t29).Tenant = i)) Z (xy Z ?_)))))
 rcases Bool.eq_false_or_eq_true (!decide ((ix r150 s176.t29).Tenant = i)) with hb187 | hb187
 replace h := ite_f (ndec_t hb187) h
 refine aops_known 37 Z hb187 (xu Z (xu Z (xu Z (xu Z (xu Z (xu Z (xu Z (xz (.bool true) Z (xe ?_)))))))))
 cases h
 exact ⟨(), wi [1, 2] Z⟩
 replace h := ite_t (ndec_f hb187) h
 refine aops_known 37 Z hb187 (xg Z Z (op_loadN (i := 1) Z isAgg24 sizeOf24 (tm Z) Z (nb Z) Z (xq Z Z Z Z (xp (.ptr p181 0) Z Z (fa Z underlying33 Z sizeOf3 Z Z Z) (xg Z Z (op_load1 (i := 0) Z isAgg3 (tm Z) Z Z ?_))))))
 obtain ⟨r188, r188e, h⟩ := bind_some h
 refine xg Z Z (op_call (vs := [.agg [.sl .no 14 (m0L c_.Tenants), .i c_.Quantum, .i c_.Deadline], .sl .no 9 (m1L l), .i (ix r150 s176.t29).Handle]) (H := []) Z call10 ⟨(tm Z), (tm Z), (tm Z), trivial⟩ (List.Perm.refl _) (project.Of.ok r188e) ?_)
 rintro _ _ ⟨rfl, rfl⟩
 refine xq Z Z Z Z (xp (bn (r188 = i)) Z Z (pe Z) (xz (bn (r188 = i)) Z (xe ?_)))
 cases h
 exact ⟨(), wi [1, 2] Z⟩
 intro _
 have h := h185
 refine aw_cond (b := s184) (tm Z) (fun hb189 => ?_) (fun hb189 => ?_)
 replace h := ite_t hb189 h
 refine xr (xz (.bool false) Z (xe (aw_ret ?_)))
 cases h
 cases congrArg some (hx177 _ rfl)
 cases onSum_inr h148
 exact rt ⟨Z, Z⟩ Z w0
 replace h := ite_fb hb189 h
 refine aw_skip (aw_region (xz (.i (w64 (s176.t29 + 1))) Z (xy Z (xe ?_))))
 cases h
 exact ⟨_, (), Z, wi [0, 1] Z⟩
 refine aw_exit ?_
 cases h
 have h := congrArg some (hx177 _ rfl)
 exact ⟨(), (), (some_of h).symm, w0⟩

end Go.Pu
