/- Printed by lift.py: the functions come to them. -/
import Derived.Test.YtfapgollkabopaaLiftU
import Derived.Test.YtfapgollkabopaaAOK1
set_option maxRecDepth 100000
set_option maxHeartbeats 0
namespace Go.Pu
open Go.Lift Go.Proofs.Try Go.RowKit Go.Proofs

theorem slices.ContainsFunc_api_Tenant_auth_Right_1.ok {s_ : List api.Tenant} {r : Bool} (h : slices.ContainsFunc_api_Tenant_auth_Right_1 s_ = some r) : Go.Lift.Spec prog 65 [.sl .no 14 (s_.map api.Tenant.av), .fn 63 []] [] (fun v H => v = .bool r ∧ H = []) := by
 unfold slices.ContainsFunc_api_Tenant_auth_Right_1 at h
 refine Go.Lift.Spec.of_body (rs := [.tmp 4]) func65 Z Z (Nat.le_of_ble_eq_true Z) Z (aw_seq (aw_region (ap (.bool false) Z Z Z (pu_assign Z (AEv.bool _)) (aops_nil (aw_seq (aw_region (ap (.sl .no 14 (s_.map api.Tenant.av)) Z Z Z (pu_move Z (tm Z)) (ap (.fn 63 []) Z Z Z (pu_move Z (tm Z)) ?_))))))))
 obtain ⟨r2, r2e, h⟩ := bind_some h
 refine ac Z Z Z (op_call (vs := [.sl .no 14 (s_.map api.Tenant.av), .fn 63 []]) (H := []) Z call68 ⟨(tm Z), (tm Z), trivial⟩ (List.Perm.refl _) (slices.IndexFunc_api_Tenant_auth_Right_1.ok r2e) ?_)
 rintro _ _ ⟨rfl, rfl⟩
 refine ap (.bool (decide (0 ≤ r2))) Z Z Z (pu_int (v := .bool (decide (0 ≤ r2))) Z Z (tm Z) (AEv.int _ _) Z) (ap (.bool (decide (0 ≤ r2))) Z Z Z (pu_assign Z (tm Z)) (aops_nil (aw_ret ?_)))
 obtain rfl := some_of h
 exact ⟨[.bool (decide (0 ≤ r2))], _, [], ⟨(tm Z), trivial⟩, (AV.Le.refl _), Weak.mkL [] (by decide) trivial trivial, ⟨Z, Z⟩⟩

theorem auth.Right.ok {c_ : api.Config} {r : Int} (h : auth.Right c_ = some r) : Go.Lift.Spec prog 43 [.agg [.sl .no 14 (c_.Tenants.map api.Tenant.av), .int .i64 c_.Quantum, .int .i64 c_.Deadline]] [] (fun v H => v = .int .i64 r ∧ H = []) := by
 unfold auth.Right at h
 refine Go.Lift.Spec.of_body (rs := [.tmp 2]) func43 Z Z (Nat.le_of_ble_eq_true Z) Z (aw_seq (aw_region (ac Z Z Z (op_box (cs := [.sl .no 14 (c_.Tenants.map api.Tenant.av), .int .i64 c_.Quantum, .int .i64 c_.Deadline]) (v := .agg [.sl .no 14 (c_.Tenants.map api.Tenant.av), .int .i64 c_.Quantum, .int .i64 c_.Deadline]) Z (tm Z) Z Z ?_))))
 intro p500
 refine ap (.int .i64 0) Z Z Z (pu_assign Z (AEv.int _ _)) (aops_nil (aw_seq ?_))
 obtain ⟨s502, s502e, h503⟩ := letO_of h
 refine aw_meet (ν := Unit) (fun v => [(1, .ptr p500 0), (17, .bool s502)]) (fun v => [(p500, .cells [.sl .no 14 (c_.Tenants.map api.Tenant.av), .int .i64 c_.Quantum, .int .i64 c_.Deadline])]) ?_ ?_
 ·have h := s502e.symm
  refine aw_region (ap (.ptr p500 0) Z Z Z (pu_fieldAddr Z underlying78 Z sizeOf76 (by decide) (tm Z) Z) (ac Z Z Z (op_load1 (i := 0) Z isAgg76 (tm Z) Z Z (ap (.int .i64 (c_.Tenants.length : Int)) Z Z Z (pu_lenM Z underlying76 (tm Z)) (ap (.bool (decide ((c_.Tenants.length : Int) < 1))) Z Z Z (pu_int (v := .bool (decide ((c_.Tenants.length : Int) < 1))) Z Z (tm Z) (AEv.int _ _) Z) (ap (.bool (decide ((c_.Tenants.length : Int) < 1))) Z Z Z (pu_move Z (tm Z)) ?_))))))
  rcases Bool.eq_false_or_eq_true (decide ((c_.Tenants.length : Int) < 1)) with hb505 | hb505
  ·replace h := ite_t (dec_t hb505) h
   refine aops_known 12 Z hb505 (an Z Z Z Z Z Z Z Z (an Z Z Z Z Z Z Z Z (an Z Z Z Z Z Z Z Z (an Z Z Z Z Z Z Z Z (ap (.bool true) Z Z Z (pu_pick (b := true) Z (tm Z) (fun _ => (AEv.bool _)) (fun h => nomatch h)) (aops_nil ?_))))))
   subst h
   exact ⟨(), Weak.mkL [0] (by decide) ⟨⟨_, Z, (CellsLe.refl _), Z⟩, trivial⟩ ⟨AEv.tmp Z, AEv.tmp Z, trivial⟩⟩
  ·replace h := ite_f (dec_f hb505) h
   refine aops_known 12 Z hb505 (agp (.ptr p500 0) Z Z Z Z Z Z Z (pu_fieldAddr Z underlying78 Z sizeOf76 (by decide) (tm Z) Z) (ag Z Z Z Z Z Z Z (op_load1 (i := 0) Z isAgg76 (tm Z) Z Z (agp (.int .i64 (c_.Tenants.length : Int)) Z Z Z Z Z Z Z (pu_lenM Z underlying76 (tm Z)) (agp (.bool (decide (16 < (c_.Tenants.length : Int)))) Z Z Z Z Z Z Z (pu_int (v := .bool (decide (16 < (c_.Tenants.length : Int)))) Z Z (tm Z) (AEv.int _ _) Z) (ap (.bool (decide (16 < (c_.Tenants.length : Int)))) Z Z Z (pu_pick (b := false) Z (tm Z) (fun h => nomatch h) (fun _ => (tm Z))) (aops_nil ?_)))))))
   subst h
   exact ⟨(), Weak.mkL [0] (by decide) ⟨⟨_, Z, (CellsLe.refl _), Z⟩, trivial⟩ ⟨AEv.tmp Z, (AEv.le (tm Z) (AV.Le.refl _)), trivial⟩⟩
 ·intro _
  have h := h503
  refine aw_cond (b := s502) (tm Z) (fun hb998 => ?_) (fun hb998 => ?_)
  ·replace h := ite_t hb998 h
   refine aw_seq (aw_region (ap (.int .i64 7) Z Z Z (pu_assign Z (AEv.int _ _)) (aops_nil (aw_ret ?_))))
   obtain rfl := some_of h
   exact ⟨[.int .i64 7], _, [], ⟨(tm Z), trivial⟩, (AV.Le.refl _), Weak.mkL [] (by decide) trivial trivial, ⟨Z, Z⟩⟩
  ·replace h := ite_fb hb998 h
   refine aw_skip (aw_seq (aw_region (ap (.fn 63 []) Z Z Z (pu_assign Z (AEv.func _)) (aops_nil (aw_seq ?_)))))
   obtain ⟨s511, s511e, h512⟩ := bind_some h
   refine aw_meet (ν := Unit) (fun v => [(1, .ptr p500 0), (41, .bool s511)]) (fun v => [(p500, .cells [.sl .no 14 (c_.Tenants.map api.Tenant.av), .int .i64 c_.Quantum, .int .i64 c_.Deadline])]) ?_ ?_
   ·have h := s511e
    refine aw_region (ap (.ptr p500 0) Z Z Z (pu_fieldAddr Z underlying78 Z sizeOf76 (by decide) (tm Z) Z) (ac Z Z Z (op_load1 (i := 0) Z isAgg76 (tm Z) Z Z (ap (.fn 63 []) Z Z Z (pu_move Z (tm Z)) ?_))))
    obtain ⟨r514, r514e, h⟩ := bind_some h
    refine ac Z Z Z (op_call (vs := [.sl .no 14 (c_.Tenants.map api.Tenant.av), .fn 63 []]) (H := []) Z call65 ⟨(tm Z), (tm Z), trivial⟩ (List.Perm.refl _) (slices.ContainsFunc_api_Tenant_auth_Right_1.ok r514e) ?_)
    rintro _ _ ⟨rfl, rfl⟩
    refine ap (.bool r514) Z Z Z (pu_move Z (tm Z)) ?_
    rcases Bool.eq_false_or_eq_true r514 with hb515 | hb515
    ·replace h := ite_t hb515 h
     refine aops_known 22 Z hb515 (an Z Z Z Z Z Z Z Z (an Z Z Z Z Z Z Z Z (an Z Z Z Z Z Z Z Z (ap (.bool true) Z Z Z (pu_pick (b := true) Z (tm Z) (fun _ => (AEv.bool _)) (fun h => nomatch h)) (ap (.bool true) Z Z Z (pu_move Z (tm Z)) (an Z Z Z Z Z Z Z Z (an Z Z Z Z Z Z Z Z (an Z Z Z Z Z Z Z Z (ap (.bool true) Z Z Z (pu_pick (b := true) Z (tm Z) (fun _ => (AEv.bool _)) (fun h => nomatch h)) ?_)))))))))
     refine ap (.bool true) Z Z Z (pu_move Z (tm Z)) (an Z Z Z Z Z Z Z Z (an Z Z Z Z Z Z Z Z (an Z Z Z Z Z Z Z Z (ap (.bool true) Z Z Z (pu_pick (b := true) Z (tm Z) (fun _ => (AEv.bool _)) (fun h => nomatch h)) (ap (.bool true) Z Z Z (pu_move Z (tm Z)) (an Z Z Z Z Z Z Z Z (an Z Z Z Z Z Z Z Z (an Z Z Z Z Z Z Z Z (ap (.bool true) Z Z Z (pu_pick (b := true) Z (tm Z) (fun _ => (AEv.bool _)) (fun h => nomatch h)) ?_)))))))))
     refine aops_nil ?_
     obtain rfl := some_of h
     exact ⟨(), Weak.mkL [0] (by decide) ⟨⟨_, Z, (CellsLe.refl _), Z⟩, trivial⟩ ⟨AEv.tmp Z, AEv.tmp Z, trivial⟩⟩
    ·replace h := ite_fb hb515 h
     refine aops_known 22 Z hb515 (agp (.ptr p500 1) Z Z Z Z Z Z Z (pu_fieldAddr Z underlying78 Z sizeOf3 (by decide) (tm Z) Z) (ag Z Z Z Z Z Z Z (op_load1 (i := 0) Z isAgg3 (tm Z) Z Z (agp (.bool (decide (c_.Quantum < 1))) Z Z Z Z Z Z Z (pu_int (v := .bool (decide (c_.Quantum < 1))) Z Z (tm Z) (AEv.int _ _) Z) (ap (.bool (decide (c_.Quantum < 1))) Z Z Z (pu_pick (b := false) Z (tm Z) (fun h => nomatch h) (fun _ => (tm Z))) (ap (.bool (decide (c_.Quantum < 1))) Z Z Z (pu_move Z (tm Z)) ?_))))))
     rcases Bool.eq_false_or_eq_true (decide (c_.Quantum < 1)) with hb516 | hb516
     ·replace h := ite_t (dec_t hb516) h
      refine aops_known 27 Z hb516 (an Z Z Z Z Z Z Z Z (an Z Z Z Z Z Z Z Z (an Z Z Z Z Z Z Z Z (ap (.bool true) Z Z Z (pu_pick (b := true) Z (tm Z) (fun _ => (AEv.bool _)) (fun h => nomatch h)) (ap (.bool true) Z Z Z (pu_move Z (tm Z)) (an Z Z Z Z Z Z Z Z (an Z Z Z Z Z Z Z Z (an Z Z Z Z Z Z Z Z (ap (.bool true) Z Z Z (pu_pick (b := true) Z (tm Z) (fun _ => (AEv.bool _)) (fun h => nomatch h)) ?_)))))))))
      refine ap (.bool true) Z Z Z (pu_move Z (tm Z)) (an Z Z Z Z Z Z Z Z (an Z Z Z Z Z Z Z Z (an Z Z Z Z Z Z Z Z (ap (.bool true) Z Z Z (pu_pick (b := true) Z (tm Z) (fun _ => (AEv.bool _)) (fun h => nomatch h)) (aops_nil ?_)))))
      obtain rfl := some_of h
      exact ⟨(), Weak.mkL [0] (by decide) ⟨⟨_, Z, (CellsLe.refl _), Z⟩, trivial⟩ ⟨AEv.tmp Z, AEv.tmp Z, trivial⟩⟩
     ·replace h := ite_f (dec_f hb516) h
      refine aops_known 27 Z hb516 (agp (.ptr p500 1) Z Z Z Z Z Z Z (pu_fieldAddr Z underlying78 Z sizeOf3 (by decide) (tm Z) Z) (ag Z Z Z Z Z Z Z (op_load1 (i := 0) Z isAgg3 (tm Z) Z Z (agp (.bool (decide (1000 < c_.Quantum))) Z Z Z Z Z Z Z (pu_int (v := .bool (decide (1000 < c_.Quantum))) Z Z (tm Z) (AEv.int _ _) Z) (ap (.bool (decide (1000 < c_.Quantum))) Z Z Z (pu_pick (b := false) Z (tm Z) (fun h => nomatch h) (fun _ => (tm Z))) (ap (.bool (decide (1000 < c_.Quantum))) Z Z Z (pu_move Z (tm Z)) ?_))))))
      rcases Bool.eq_false_or_eq_true (decide (1000 < c_.Quantum)) with hb517 | hb517
      ·replace h := ite_t (dec_t hb517) h
       refine aops_known 32 Z hb517 (an Z Z Z Z Z Z Z Z (an Z Z Z Z Z Z Z Z (an Z Z Z Z Z Z Z Z (ap (.bool true) Z Z Z (pu_pick (b := true) Z (tm Z) (fun _ => (AEv.bool _)) (fun h => nomatch h)) (ap (.bool true) Z Z Z (pu_move Z (tm Z)) (an Z Z Z Z Z Z Z Z (an Z Z Z Z Z Z Z Z (an Z Z Z Z Z Z Z Z (ap (.bool true) Z Z Z (pu_pick (b := true) Z (tm Z) (fun _ => (AEv.bool _)) (fun h => nomatch h)) ?_)))))))))
       refine aops_nil ?_
       obtain rfl := some_of h
       exact ⟨(), Weak.mkL [0] (by decide) ⟨⟨_, Z, (CellsLe.refl _), Z⟩, trivial⟩ ⟨AEv.tmp Z, AEv.tmp Z, trivial⟩⟩
      ·replace h := ite_f (dec_f hb517) h
       refine aops_known 32 Z hb517 (agp (.ptr p500 2) Z Z Z Z Z Z Z (pu_fieldAddr Z underlying78 Z sizeOf2 (by decide) (tm Z) Z) (ag Z Z Z Z Z Z Z (op_load1 (i := 0) Z isAgg2 (tm Z) Z Z (agp (.bool (decide (c_.Deadline < 1))) Z Z Z Z Z Z Z (pu_int (v := .bool (decide (c_.Deadline < 1))) Z Z (tm Z) (AEv.int _ _) Z) (ap (.bool (decide (c_.Deadline < 1))) Z Z Z (pu_pick (b := false) Z (tm Z) (fun h => nomatch h) (fun _ => (tm Z))) (ap (.bool (decide (c_.Deadline < 1))) Z Z Z (pu_move Z (tm Z)) ?_))))))
       rcases Bool.eq_false_or_eq_true (decide (c_.Deadline < 1)) with hb518 | hb518
       ·replace h := ite_t (dec_t hb518) h
        refine aops_known 37 Z hb518 (an Z Z Z Z Z Z Z Z (an Z Z Z Z Z Z Z Z (an Z Z Z Z Z Z Z Z (ap (.bool true) Z Z Z (pu_pick (b := true) Z (tm Z) (fun _ => (AEv.bool _)) (fun h => nomatch h)) (aops_nil ?_)))))
        obtain rfl := some_of h
        exact ⟨(), Weak.mkL [0] (by decide) ⟨⟨_, Z, (CellsLe.refl _), Z⟩, trivial⟩ ⟨AEv.tmp Z, AEv.tmp Z, trivial⟩⟩
       ·replace h := ite_f (dec_f hb518) h
        refine aops_known 37 Z hb518 (agp (.ptr p500 2) Z Z Z Z Z Z Z (pu_fieldAddr Z underlying78 Z sizeOf2 (by decide) (tm Z) Z) (ag Z Z Z Z Z Z Z (op_load1 (i := 0) Z isAgg2 (tm Z) Z Z (agp (.bool (decide (1099511627776 < c_.Deadline))) Z Z Z Z Z Z Z (pu_int (v := .bool (decide (1099511627776 < c_.Deadline))) Z Z (tm Z) (AEv.int _ _) Z) (ap (.bool (decide (1099511627776 < c_.Deadline))) Z Z Z (pu_pick (b := false) Z (tm Z) (fun h => nomatch h) (fun _ => (tm Z))) (aops_nil ?_))))))
        obtain rfl := some_of h
        exact ⟨(), Weak.mkL [0] (by decide) ⟨⟨_, Z, (CellsLe.refl _), Z⟩, trivial⟩ ⟨AEv.tmp Z, (AEv.le (tm Z) (AV.Le.refl _)), trivial⟩⟩
   ·intro _
    have h := h512
    refine aw_cond (b := s511) (tm Z) (fun hb997 => ?_) (fun hb997 => ?_)
    ·replace h := ite_t hb997 h
     refine aw_seq (aw_region (ap (.int .i64 1) Z Z Z (pu_assign Z (AEv.int _ _)) (aops_nil (aw_ret ?_))))
     obtain rfl := some_of h
     exact ⟨[.int .i64 1], _, [], ⟨(tm Z), trivial⟩, (AV.Le.refl _), Weak.mkL [] (by decide) trivial trivial, ⟨Z, Z⟩⟩
    ·replace h := ite_fb hb997 h
     refine aw_skip ?_
     obtain ⟨s996, s996e, h757⟩ := bind_some h
     refine aw_join (σ := Unit) (ν := Unit) (fun u v => []) (fun u v => []) (fun u => s996 = .inl u) ?_ ?_
     ·intro s756
      intro _
      rintro rfl
      have h := onSum_inl h757
      refine aw_seq (aw_region (ap (.int .i64 0) Z Z Z (pu_assign Z (AEv.int _ _)) (aops_nil (aw_ret ?_))))
      obtain rfl := some_of h
      exact ⟨[.int .i64 0], _, [], ⟨(tm Z), trivial⟩, (AV.Le.refl _), Weak.mkL [] (by decide) trivial trivial, ⟨Z, Z⟩⟩
     ·have h := s996e
      refine aw_seq (aw_region (ap (.ptr p500 0) Z Z Z (pu_fieldAddr Z underlying78 Z sizeOf76 (by decide) (tm Z) Z) (ac Z Z Z (op_load1 (i := 0) Z isAgg76 (tm Z) Z Z (ap (.int .i64 (c_.Tenants.length : Int)) Z Z Z (pu_lenM Z underlying76 (tm Z)) (ap (.int .i64 0) Z Z Z (pu_move Z (AEv.int _ _)) (aops_nil (aw_block (aw_while (σ := auth.Right.S0) (ν := Unit) (auth.Right.body0 c_) (fun s915 v => [(1, .ptr p500 0), (43, .sl .no 14 (c_.Tenants.map api.Tenant.av)), (44, .int .i64 (c_.Tenants.length : Int)), (45, .int .i64 s915.t45)]) (fun s915 v => [(p500, .cells [.sl .no 14 (c_.Tenants.map api.Tenant.av), .int .i64 c_.Quantum, .int .i64 c_.Deadline])]) ⟨0⟩ () _ h (Weak.mkL [0] (by decide) ⟨⟨_, Z, (CellsLe.refl _), Z⟩, trivial⟩ ⟨AEv.tmp Z, AEv.tmp Z, AEv.tmp Z, AEv.tmp Z, trivial⟩) ?_)))))))))
      rintro s915 _ x917 h hx916
      unfold auth.Right.body0 at h
      refine aw_seq (aw_region (ap (.bool (decide (s915.t45 < (c_.Tenants.length : Int)))) Z Z Z (pu_int (v := .bool (decide (s915.t45 < (c_.Tenants.length : Int)))) Z Z (tm Z) (tm Z) Z) (aops_nil (aw_seq (aw_cond (b := decide (s915.t45 < (c_.Tenants.length : Int))) (tm Z) (fun hb995 => ?_) (fun hb995 => ?_))))))
      ·replace h := ite_t (dec_t hb995) h
       refine aw_skip ?_
       obtain ⟨s994, s994e, h956⟩ := bind_some h
       refine aw_join (σ := Unit) (ν := Unit) (fun u v => [(1, .ptr p500 0), (43, .sl .no 14 (c_.Tenants.map api.Tenant.av)), (44, .int .i64 (c_.Tenants.length : Int)), (45, .int .i64 s915.t45)]) (fun u v => [(p500, .cells [.sl .no 14 (c_.Tenants.map api.Tenant.av), .int .i64 c_.Quantum, .int .i64 c_.Deadline])]) (fun u => s994 = .inl u) ?_ ?_
       ·intro s955
        intro _
        rintro rfl
        have h := onSum_inl h956
        refine aw_region (ap (.int .i64 (IntKind.wrap .i64 (s915.t45 + 1))) Z Z Z (pu_int (v := .int .i64 (IntKind.wrap .i64 (s915.t45 + 1))) Z Z (tm Z) (AEv.int _ _) Z) (ap (.int .i64 (IntKind.wrap .i64 (s915.t45 + 1))) Z Z Z (pu_move Z (tm Z)) (aops_nil ?_)))
        obtain rfl := some_of h
        exact ⟨_, (), Z, Weak.mkL [0] (by decide) ⟨⟨_, Z, (CellsLe.refl _), Z⟩, trivial⟩ ⟨AEv.tmp Z, AEv.tmp Z, AEv.tmp Z, (AEv.le (tm Z) (AV.Le.refl _)), trivial⟩⟩
       ·have h := s994e
        refine aw_block (aw_seq (aw_region (ap (.int .i64 s915.t45) Z Z Z (pu_move Z (tm Z)) ?_)))
        obtain ⟨c958, h⟩ := need_of h
        refine ap (.vptr [.str (ix c_.Tenants s915.t45).Name, .str (ix c_.Tenants s915.t45).Token, .int .i64 (ix c_.Tenants s915.t45).Memory, .int .i64 (ix c_.Tenants s915.t45).Policy, .int .i64 (ix c_.Tenants s915.t45).Conns, .int .i64 (ix c_.Tenants s915.t45).In, .int .i64 (ix c_.Tenants s915.t45).Out, .int .i64 (ix c_.Tenants s915.t45).Burst, .int .i64 (ix c_.Tenants s915.t45).Rate, .int .i64 (ix c_.Tenants s915.t45).Disk, .int .i64 (ix c_.Tenants s915.t45).Sync, .int .i64 (ix c_.Tenants s915.t45).Limits.Args, .int .i64 (ix c_.Tenants s915.t45).Limits.Bulk, .int .i64 (ix c_.Tenants s915.t45).Limits.Line]) Z Z Z (pu_indexAddrM Z underlying76 sizeOf53 (tm Z) (tm Z) c958 Z) (ac Z Z Z (op_loadVN Z isAgg53 sizeOf53 (tm Z) (Nat.le_of_ble_eq_true Z) Z (ac Z Z Z (op_alloc (cs := [.str ([] : List UInt8), .str ([] : List UInt8), .int .i64 0, .int .i64 0, .int .i64 0, .int .i64 0, .int .i64 0, .int .i64 0, .int .i64 0, .int .i64 0, .int .i64 0, .int .i64 0, .int .i64 0, .int .i64 0]) (v := .agg [.str ([] : List UInt8), .str ([] : List UInt8), .int .i64 0, .int .i64 0, .int .i64 0, .int .i64 0, .int .i64 0, .int .i64 0, .int .i64 0, .int .i64 0, .int .i64 0, .int .i64 0, .int .i64 0, .int .i64 0]) Z zeroValue53 Z Z Z ?_))))
        intro p959
        refine ap (.int .i64 s915.t45) Z Z Z (pu_assign Z (tm Z)) (ac0 Z Z (op_store (i := 0) (cs' := (api.Tenant.ct (ix c_.Tenants s915.t45))) Z sizeOf53 (tm Z) (v := .agg (api.Tenant.ct (ix c_.Tenants s915.t45))) (tm Z) Z Z Z (Nat.le_of_ble_eq_true Z) Z (aops_nil (aw_seq (aw_region (ap (.ptr p500 0) Z Z Z (pu_fieldAddr Z underlying78 Z sizeOf76 (by decide) (tm Z) Z) (ac Z Z Z (op_load1 (i := 1) Z isAgg76 (tm Z) Z Z (ap (.int .i64 s915.t45) Z Z Z (pu_move Z (tm Z)) ?_)))))))))
        obtain ⟨c960, h⟩ := need_of h
        refine ap (.sl .no 14 ((sub c_.Tenants 0 s915.t45).map api.Tenant.av)) Z Z Z (pu_sliceM Z underlying76 sizeOf53 (tm Z) Z ⟨_, (tm Z)⟩ c960) (ap (.int .i64 ((sub c_.Tenants 0 s915.t45).length : Int)) Z Z Z (pu_lenM Z underlying76 (tm Z)) (ap (.int .i64 0) Z Z Z (pu_move Z (AEv.int _ _)) (aops_nil (aw_block (aw_while (σ := auth.Right.S2) (ν := Unit) (auth.Right.body2 c_ s915) (fun s981 v => [(1, .ptr p500 0), (5, .ptr p959 0), (43, .sl .no 14 (c_.Tenants.map api.Tenant.av)), (44, .int .i64 (c_.Tenants.length : Int)), (45, .int .i64 s915.t45), (53, .sl .no 14 ((sub c_.Tenants 0 s915.t45).map api.Tenant.av)), (54, .int .i64 ((sub c_.Tenants 0 s915.t45).length : Int)), (55, .int .i64 s981.t55)]) (fun s981 v => [(p500, .cells [.sl .no 14 (c_.Tenants.map api.Tenant.av), .int .i64 c_.Quantum, .int .i64 c_.Deadline]), (p959, .cells (api.Tenant.ct (ix c_.Tenants s915.t45)))]) ⟨0⟩ () _ h (Weak.mkL [1, 0] (by decide) ⟨⟨_, Z, (CellsLe.refl _), Z⟩, ⟨_, Z, (CellsLe.refl _), Z⟩, trivial⟩ ⟨AEv.tmp Z, AEv.tmp Z, AEv.tmp Z, AEv.tmp Z, AEv.tmp Z, AEv.tmp Z, AEv.tmp Z, AEv.tmp Z, trivial⟩) ?_)))))
        rintro s981 _ x983 h hx982
        unfold auth.Right.body2 at h
        refine aw_seq (aw_region (ap (.bool (decide (s981.t55 < ((sub c_.Tenants 0 s915.t45).length : Int)))) Z Z Z (pu_int (v := .bool (decide (s981.t55 < ((sub c_.Tenants 0 s915.t45).length : Int)))) Z Z (tm Z) (tm Z) Z) (aops_nil (aw_seq (aw_cond (b := decide (s981.t55 < ((sub c_.Tenants 0 s915.t45).length : Int))) (tm Z) (fun hb993 => ?_) (fun hb993 => ?_))))))
        ·replace h := ite_t (dec_t hb993) h
         refine aw_skip (aw_seq (aw_block (aw_seq (aw_region ?_))))
         obtain ⟨c985, h⟩ := need_of h
         refine ap (.vptr [.str (ix (sub c_.Tenants 0 s915.t45) s981.t55).Name, .str (ix (sub c_.Tenants 0 s915.t45) s981.t55).Token, .int .i64 (ix (sub c_.Tenants 0 s915.t45) s981.t55).Memory, .int .i64 (ix (sub c_.Tenants 0 s915.t45) s981.t55).Policy, .int .i64 (ix (sub c_.Tenants 0 s915.t45) s981.t55).Conns, .int .i64 (ix (sub c_.Tenants 0 s915.t45) s981.t55).In, .int .i64 (ix (sub c_.Tenants 0 s915.t45) s981.t55).Out, .int .i64 (ix (sub c_.Tenants 0 s915.t45) s981.t55).Burst, .int .i64 (ix (sub c_.Tenants 0 s915.t45) s981.t55).Rate, .int .i64 (ix (sub c_.Tenants 0 s915.t45) s981.t55).Disk, .int .i64 (ix (sub c_.Tenants 0 s915.t45) s981.t55).Sync, .int .i64 (ix (sub c_.Tenants 0 s915.t45) s981.t55).Limits.Args, .int .i64 (ix (sub c_.Tenants 0 s915.t45) s981.t55).Limits.Bulk, .int .i64 (ix (sub c_.Tenants 0 s915.t45) s981.t55).Limits.Line]) Z Z Z (pu_indexAddrM Z underlying76 sizeOf53 (tm Z) (tm Z) c985 Z) (ac Z Z Z (op_loadVN Z isAgg53 sizeOf53 (tm Z) (Nat.le_of_ble_eq_true Z) Z (ac Z Z Z (op_alloc (cs := [.str ([] : List UInt8), .str ([] : List UInt8), .int .i64 0, .int .i64 0, .int .i64 0, .int .i64 0, .int .i64 0, .int .i64 0, .int .i64 0, .int .i64 0, .int .i64 0, .int .i64 0, .int .i64 0, .int .i64 0]) (v := .agg [.str ([] : List UInt8), .str ([] : List UInt8), .int .i64 0, .int .i64 0, .int .i64 0, .int .i64 0, .int .i64 0, .int .i64 0, .int .i64 0, .int .i64 0, .int .i64 0, .int .i64 0, .int .i64 0, .int .i64 0]) Z zeroValue53 Z Z Z ?_))))
         intro p986
         refine ac0 Z Z (op_store (i := 0) (cs' := [.str (ix (sub c_.Tenants 0 s915.t45) s981.t55).Name, .str (ix (sub c_.Tenants 0 s915.t45) s981.t55).Token, .int .i64 (ix (sub c_.Tenants 0 s915.t45) s981.t55).Memory, .int .i64 (ix (sub c_.Tenants 0 s915.t45) s981.t55).Policy, .int .i64 (ix (sub c_.Tenants 0 s915.t45) s981.t55).Conns, .int .i64 (ix (sub c_.Tenants 0 s915.t45) s981.t55).In, .int .i64 (ix (sub c_.Tenants 0 s915.t45) s981.t55).Out, .int .i64 (ix (sub c_.Tenants 0 s915.t45) s981.t55).Burst, .int .i64 (ix (sub c_.Tenants 0 s915.t45) s981.t55).Rate, .int .i64 (ix (sub c_.Tenants 0 s915.t45) s981.t55).Disk, .int .i64 (ix (sub c_.Tenants 0 s915.t45) s981.t55).Sync, .int .i64 (ix (sub c_.Tenants 0 s915.t45) s981.t55).Limits.Args, .int .i64 (ix (sub c_.Tenants 0 s915.t45) s981.t55).Limits.Bulk, .int .i64 (ix (sub c_.Tenants 0 s915.t45) s981.t55).Limits.Line]) Z sizeOf53 (tm Z) (v := .agg [.str (ix (sub c_.Tenants 0 s915.t45) s981.t55).Name, .str (ix (sub c_.Tenants 0 s915.t45) s981.t55).Token, .int .i64 (ix (sub c_.Tenants 0 s915.t45) s981.t55).Memory, .int .i64 (ix (sub c_.Tenants 0 s915.t45) s981.t55).Policy, .int .i64 (ix (sub c_.Tenants 0 s915.t45) s981.t55).Conns, .int .i64 (ix (sub c_.Tenants 0 s915.t45) s981.t55).In, .int .i64 (ix (sub c_.Tenants 0 s915.t45) s981.t55).Out, .int .i64 (ix (sub c_.Tenants 0 s915.t45) s981.t55).Burst, .int .i64 (ix (sub c_.Tenants 0 s915.t45) s981.t55).Rate, .int .i64 (ix (sub c_.Tenants 0 s915.t45) s981.t55).Disk, .int .i64 (ix (sub c_.Tenants 0 s915.t45) s981.t55).Sync, .int .i64 (ix (sub c_.Tenants 0 s915.t45) s981.t55).Limits.Args, .int .i64 (ix (sub c_.Tenants 0 s915.t45) s981.t55).Limits.Bulk, .int .i64 (ix (sub c_.Tenants 0 s915.t45) s981.t55).Limits.Line]) (tm Z) Z Z Z (Nat.le_of_ble_eq_true Z) Z (aops_nil ?_))
         obtain ⟨s988, s988e, h989⟩ := letO_of h
         refine aw_meet (ν := Unit) (fun v => [(1, .ptr p500 0), (5, .ptr p959 0), (43, .sl .no 14 (c_.Tenants.map api.Tenant.av)), (44, .int .i64 (c_.Tenants.length : Int)), (45, .int .i64 s915.t45), (53, .sl .no 14 ((sub c_.Tenants 0 s915.t45).map api.Tenant.av)), (54, .int .i64 ((sub c_.Tenants 0 s915.t45).length : Int)), (55, .int .i64 s981.t55), (70, .bool s988)]) (fun v => [(p500, .cells [.sl .no 14 (c_.Tenants.map api.Tenant.av), .int .i64 c_.Quantum, .int .i64 c_.Deadline]), (p959, .cells (api.Tenant.ct (ix c_.Tenants s915.t45)))]) ?_ ?_
         ·have h := s988e.symm
          refine aw_region (ap (.ptr p959 0) Z Z Z (pu_fieldAddr Z underlying53 Z sizeOf9 (by decide) (tm Z) Z) (ac Z Z Z (op_load1 (i := 2) Z isAgg9 (tm Z) Z Z (ap (.ptr p986 0) Z Z Z (pu_fieldAddr Z underlying53 Z sizeOf9 (by decide) (tm Z) Z) (ac Z Z Z (op_load1 (i := 0) Z isAgg9 (tm Z) Z Z (ap (.bool (decide ((ix c_.Tenants s915.t45).Name = (ix (sub c_.Tenants 0 s915.t45) s981.t55).Name))) Z Z Z (pu_str (v := .bool (decide ((ix c_.Tenants s915.t45).Name = (ix (sub c_.Tenants 0 s915.t45) s981.t55).Name))) Z Z (tm Z) (tm Z) Z) (ap (.bool (decide ((ix c_.Tenants s915.t45).Name = (ix (sub c_.Tenants 0 s915.t45) s981.t55).Name))) Z Z Z (pu_move Z (tm Z)) ?_))))))))
          rcases Bool.eq_false_or_eq_true (decide ((ix c_.Tenants s915.t45).Name = (ix (sub c_.Tenants 0 s915.t45) s981.t55).Name)) with hb991 | hb991
          ·replace h := ite_t (dec_t hb991) h
           refine aops_known 64 Z hb991 (an Z Z Z Z Z Z Z Z (an Z Z Z Z Z Z Z Z (an Z Z Z Z Z Z Z Z (an Z Z Z Z Z Z Z Z (an Z Z Z Z Z Z Z Z (ap (.bool true) Z Z Z (pu_pick (b := true) Z (tm Z) (fun _ => (AEv.bool _)) (fun h => nomatch h)) (aops_nil ?_)))))))
           subst h
           exact ⟨(), Weak.mkL [1, 2] (by decide) ⟨⟨_, Z, (CellsLe.refl _), Z⟩, ⟨_, Z, (CellsLe.refl _), Z⟩, trivial⟩ ⟨AEv.tmp Z, AEv.tmp Z, AEv.tmp Z, AEv.tmp Z, AEv.tmp Z, AEv.tmp Z, AEv.tmp Z, AEv.tmp Z, AEv.tmp Z, trivial⟩⟩
          ·replace h := ite_f (dec_f hb991) h
           refine aops_known 64 Z hb991 (agp (.ptr p959 1) Z Z Z Z Z Z Z (pu_fieldAddr Z underlying53 Z sizeOf9 (by decide) (tm Z) Z) (ag Z Z Z Z Z Z Z (op_load1 (i := 2) Z isAgg9 (tm Z) Z Z (agp (.ptr p986 1) Z Z Z Z Z Z Z (pu_fieldAddr Z underlying53 Z sizeOf9 (by decide) (tm Z) Z) (ag Z Z Z Z Z Z Z (op_load1 (i := 0) Z isAgg9 (tm Z) Z Z (agp (.bool (decide ((ix c_.Tenants s915.t45).Token = (ix (sub c_.Tenants 0 s915.t45) s981.t55).Token))) Z Z Z Z Z Z Z (pu_str (v := .bool (decide ((ix c_.Tenants s915.t45).Token = (ix (sub c_.Tenants 0 s915.t45) s981.t55).Token))) Z Z (tm Z) (tm Z) Z) (ap (.bool (decide ((ix c_.Tenants s915.t45).Token = (ix (sub c_.Tenants 0 s915.t45) s981.t55).Token))) Z Z Z (pu_pick (b := false) Z (tm Z) (fun h => nomatch h) (fun _ => (tm Z))) (aops_nil ?_)))))))))
           subst h
           exact ⟨(), Weak.mkL [1, 2] (by decide) ⟨⟨_, Z, (CellsLe.refl _), Z⟩, ⟨_, Z, (CellsLe.refl _), Z⟩, trivial⟩ ⟨AEv.tmp Z, AEv.tmp Z, AEv.tmp Z, AEv.tmp Z, AEv.tmp Z, AEv.tmp Z, AEv.tmp Z, AEv.tmp Z, (AEv.le (tm Z) (AV.Le.refl _)), trivial⟩⟩
         ·intro _
          have h := h989
          refine aw_cond (b := s988) (tm Z) (fun hb992 => ?_) (fun hb992 => ?_)
          ·replace h := ite_t hb992 h
           refine aw_seq (aw_region (ap (.int .i64 9) Z Z Z (pu_assign Z (AEv.int _ _)) (aops_nil (aw_ret ?_))))
           obtain rfl := some_of h
           have h := congrArg some (hx982 _ rfl)
           obtain rfl := some_of h
           have h := onSum_inr h956
           obtain rfl := some_of h
           have h := congrArg some (hx916 _ rfl)
           obtain rfl := some_of h
           have h := onSum_inr h757
           obtain rfl := some_of h
           exact ⟨[.int .i64 9], _, [], ⟨(tm Z), trivial⟩, (AV.Le.refl _), Weak.mkL [] (by decide) trivial trivial, ⟨Z, Z⟩⟩
          ·replace h := ite_fb hb992 h
           refine aw_skip (aw_region (ap (.int .i64 (IntKind.wrap .i64 (s981.t55 + 1))) Z Z Z (pu_int (v := .int .i64 (IntKind.wrap .i64 (s981.t55 + 1))) Z Z (tm Z) (AEv.int _ _) Z) (ap (.int .i64 (IntKind.wrap .i64 (s981.t55 + 1))) Z Z Z (pu_move Z (tm Z)) (aops_nil ?_))))
           obtain rfl := some_of h
           exact ⟨_, (), Z, Weak.mkL [0, 1] (by decide) ⟨⟨_, Z, (CellsLe.refl _), Z⟩, ⟨_, Z, (CellsLe.refl _), Z⟩, trivial⟩ ⟨AEv.tmp Z, AEv.tmp Z, AEv.tmp Z, AEv.tmp Z, AEv.tmp Z, AEv.tmp Z, AEv.tmp Z, (AEv.le (tm Z) (AV.Le.refl _)), trivial⟩⟩
        ·replace h := ite_f (dec_f hb993) h
         refine aw_exit ?_
         obtain rfl := some_of h
         have h := congrArg some (hx982 _ rfl)
         exact ⟨(), (), (some_of h).symm, Weak.mkL [0] (by decide) ⟨⟨_, Z, (CellsLe.refl _), Z⟩, trivial⟩ ⟨AEv.tmp Z, AEv.tmp Z, AEv.tmp Z, AEv.tmp Z, trivial⟩⟩
      ·replace h := ite_f (dec_f hb995) h
       refine aw_exit ?_
       obtain rfl := some_of h
       have h := congrArg some (hx916 _ rfl)
       exact ⟨(), (), (some_of h).symm, Weak.mkL [] (by decide) trivial trivial⟩

theorem auth.Label.ok {c_ : api.Config} {pieces : List (List UInt8)} {r : Int} (h : auth.Label c_ pieces = some r) : Go.Lift.Spec prog 49 [.agg [.sl .no 14 (c_.Tenants.map api.Tenant.av), .int .i64 c_.Quantum, .int .i64 c_.Deadline], .sl .no 1 (pieces.map AV.str)] [] (fun v H => v = .int .i64 r ∧ H = []) := by
 unfold auth.Label at h
 refine Go.Lift.Spec.of_body (rs := [.tmp 4]) func49 Z Z (Nat.le_of_ble_eq_true Z) Z (aw_seq (aw_region (ac Z Z Z (op_box (cs := [.sl .no 14 (c_.Tenants.map api.Tenant.av), .int .i64 c_.Quantum, .int .i64 c_.Deadline]) (v := .agg [.sl .no 14 (c_.Tenants.map api.Tenant.av), .int .i64 c_.Quantum, .int .i64 c_.Deadline]) Z (tm Z) Z Z ?_))))
 intro p49
 refine ap (.int .i64 0) Z Z Z (pu_assign Z (AEv.int _ _)) (aops_nil (aw_seq (aw_region (ap (.agg [.str ([] : List UInt8), .sl .full 1 (([] : List (List UInt8)).map AV.str), .int .i64 0, .int .i64 0, .bool false, .int .i64 0, .int .i64 0]) Z Z Z (pu_build (zs := [.str ([] : List UInt8), .sl .full 1 (([] : List (List UInt8)).map AV.str), .int .i64 0, .int .i64 0, .bool false, .int .i64 0, .int .i64 0]) (szs := [1, 1, 1, 1, 1, 1, 1]) (aparts := []) (cs := [.str ([] : List UInt8), .sl .full 1 (([] : List (List UInt8)).map AV.str), .int .i64 0, .int .i64 0, .bool false, .int .i64 0, .int .i64 0]) Z underlying29 zeroValue29 Z ⟨sizeOf9, sizeOf26, sizeOf3, sizeOf3, sizeOf4, sizeOf3, sizeOf27, trivial⟩ trivial Z) (ac Z Z Z (op_alloc (cs := [.str ([] : List UInt8), .sl .full 1 (([] : List (List UInt8)).map AV.str), .int .i64 0, .int .i64 0, .bool false, .int .i64 0, .int .i64 0]) (v := .agg [.str ([] : List UInt8), .sl .full 1 (([] : List (List UInt8)).map AV.str), .int .i64 0, .int .i64 0, .bool false, .int .i64 0, .int .i64 0]) Z zeroValue29 Z Z Z ?_))))))
 intro p50
 refine ac0 Z Z (op_store (i := 0) (cs' := [.str ([] : List UInt8), .sl .full 1 (([] : List (List UInt8)).map AV.str), .int .i64 0, .int .i64 0, .bool false, .int .i64 0, .int .i64 0]) Z sizeOf29 (tm Z) (v := .agg [.str ([] : List UInt8), .sl .full 1 (([] : List (List UInt8)).map AV.str), .int .i64 0, .int .i64 0, .bool false, .int .i64 0, .int .i64 0]) (tm Z) Z Z Z (Nat.le_of_ble_eq_true Z) Z (aops_nil ?_))
 obtain ⟨s96, s96e, h73⟩ := bind_some h
 refine aw_join (σ := Unit) (ν := Unit) (fun u v => []) (fun u v => []) (fun u => s96 = .inl u) ?_ ?_
 ·intro s72
  intro _
  rintro rfl
  have h := onSum_inl h73
  refine aw_seq (aw_region (ap (.int .i64 (-1)) Z Z Z (pu_assign Z (AEv.int _ _)) (aops_nil (aw_ret ?_))))
  obtain rfl := some_of h
  exact ⟨[.int .i64 (-1)], _, [], ⟨(tm Z), trivial⟩, (AV.Le.refl _), Weak.mkL [] (by decide) trivial trivial, ⟨Z, Z⟩⟩
 ·have h := s96e
  refine aw_seq (aw_region (ap (.sl .no 1 (pieces.map AV.str)) Z Z Z (pu_move Z (tm Z)) (ap (.int .i64 (pieces.length : Int)) Z Z Z (pu_lenM Z underlying26 (tm Z)) (ap (.int .i64 0) Z Z Z (pu_move Z (AEv.int _ _)) (aops_nil (aw_block (aw_while (σ := auth.Label.S0) (ν := Unit) (auth.Label.body0 pieces c_) (fun s87 v => [(2, .ptr p49 0), (5, .ptr p50 0), (13, .sl .no 1 (pieces.map AV.str)), (14, .int .i64 (pieces.length : Int)), (15, .int .i64 s87.t15)]) (fun s87 v => [(p49, .cells [.sl .no 14 (c_.Tenants.map api.Tenant.av), .int .i64 c_.Quantum, .int .i64 c_.Deadline]), (p50, .cells [.str s87.c, .sl .no 1 (s87.c2.map AV.str), .int .i64 s87.c3, .int .i64 s87.c4, .bool s87.c5, .int .i64 s87.c6, .int .i64 s87.c7])]) ⟨0, ([] : List UInt8), ([] : List (List UInt8)), 0, 0, false, 0, 0⟩ () _ h (Weak.mkL [1, 0] (by decide) ⟨⟨_, Z, (CellsLe.refl _), Z⟩, ⟨_, Z, ⟨(AV.Le.refl _), (AV.Le.forget _ _ _), (AV.Le.refl _), (AV.Le.refl _), (AV.Le.refl _), (AV.Le.refl _), (AV.Le.refl _), trivial⟩, Z⟩, trivial⟩ ⟨AEv.tmp Z, AEv.tmp Z, AEv.tmp Z, AEv.tmp Z, AEv.tmp Z, trivial⟩) ?_)))))))
  rintro s87 _ x89 h hx88
  unfold auth.Label.body0 at h
  refine aw_seq (aw_region (ap (.bool (decide (s87.t15 < (pieces.length : Int)))) Z Z Z (pu_int (v := .bool (decide (s87.t15 < (pieces.length : Int)))) Z Z (tm Z) (tm Z) Z) (aops_nil (aw_seq (aw_cond (b := decide (s87.t15 < (pieces.length : Int))) (tm Z) (fun hb95 => ?_) (fun hb95 => ?_))))))
  ·replace h := ite_t (dec_t hb95) h
   refine aw_skip (aw_seq (aw_block (aw_seq (aw_region ?_))))
   obtain ⟨c91, h⟩ := need_of h
   refine ap (.vptr [.str (ix pieces s87.t15)]) Z Z Z (pu_indexAddrM Z underlying26 sizeOf9 (tm Z) (tm Z) c91 Z) (ac Z Z Z (op_loadV1 Z isAgg9 (tm Z) Z (ap (.str (ix pieces s87.t15)) Z Z Z (pu_assign Z (tm Z)) (aops_nil (aw_seq (aw_region (ac Z Z Z (op_loadN (i := 0) Z isAgg78 sizeOf78 (tm Z) Z (Nat.le_of_ble_eq_true Z) Z (ac Z Z Z (op_loadN (i := 1) Z isAgg29 sizeOf29 (tm Z) Z (Nat.le_of_ble_eq_true Z) Z (ap (.str (ix pieces s87.t15)) Z Z Z (pu_move Z (tm Z)) ?_)))))))))))
   obtain ⟨r92, r92e, h⟩ := bind_some h
   refine ac Z Z Z (op_call (vs := [.agg [.sl .no 14 (c_.Tenants.map api.Tenant.av), .int .i64 c_.Quantum, .int .i64 c_.Deadline], .agg [.str s87.c, .sl .no 1 (s87.c2.map AV.str), .int .i64 s87.c3, .int .i64 s87.c4, .bool s87.c5, .int .i64 s87.c6, .int .i64 s87.c7], .str (ix pieces s87.t15)]) (H := []) Z call47 ⟨(tm Z), (tm Z), (tm Z), trivial⟩ (List.Perm.refl _) (auth.First.ok r92e) ?_)
   rintro _ _ ⟨rfl, rfl⟩
   refine ap (.tup [.agg (api.Input.ct .no r92.1), .str r92.2.1, .int .i64 r92.2.2.1, .int .i64 r92.2.2.2]) Z Z Z (pu_move Z (tm Z)) (ap (.agg (api.Input.ct .no r92.1)) Z Z Z (pu_extract Z (tm Z) (Nat.le_of_ble_eq_true Z) Z) (ap (.str r92.2.1) Z Z Z (pu_extract Z (tm Z) (Nat.le_of_ble_eq_true Z) Z) (ap (.int .i64 r92.2.2.1) Z Z Z (pu_extract Z (tm Z) (Nat.le_of_ble_eq_true Z) Z) (ap (.int .i64 r92.2.2.2) Z Z Z (pu_extract Z (tm Z) (Nat.le_of_ble_eq_true Z) Z) (ac Z Z Z (op_alloc (cs := [.str ([] : List UInt8), .sl .full 1 (([] : List (List UInt8)).map AV.str), .int .i64 0, .int .i64 0, .bool false, .int .i64 0, .int .i64 0]) (v := .agg [.str ([] : List UInt8), .sl .full 1 (([] : List (List UInt8)).map AV.str), .int .i64 0, .int .i64 0, .bool false, .int .i64 0, .int .i64 0]) Z zeroValue29 Z Z Z ?_))))))
   intro p93
   refine ac0 Z Z (op_store (i := 0) (cs' := (api.Input.ct .no r92.1)) Z sizeOf29 (tm Z) (v := .agg (api.Input.ct .no r92.1)) (tm Z) Z Z Z (Nat.le_of_ble_eq_true Z) Z (ap (.str r92.2.1) Z Z Z (pu_assign Z (tm Z)) (ap (.int .i64 r92.2.2.1) Z Z Z (pu_assign Z (tm Z)) (ap (.int .i64 r92.2.2.2) Z Z Z (pu_assign Z (tm Z)) (aops_nil (aw_seq (aw_seq (aw_region (ap (.int .i64 r92.2.2.2) Z Z Z (pu_move Z (tm Z)) (ap (.bool (!decide (r92.2.2.2 = 0))) Z Z Z (pu_int (v := .bool (!decide (r92.2.2.2 = 0))) Z Z (tm Z) (AEv.int _ _) Z) ?_))))))))))
   refine aops_nil (aw_cond (b := (!decide (r92.2.2.2 = 0))) (tm Z) (fun hb94 => ?_) (fun hb94 => ?_))
   ·replace h := ite_f (ndec_t hb94) h
    refine aw_seq (aw_region (ap (.int .i64 r92.2.2.1) Z Z Z (pu_move Z (tm Z)) (ap (.int .i64 r92.2.2.1) Z Z Z (pu_assign Z (tm Z)) (aops_nil (aw_ret ?_)))))
    obtain rfl := some_of h
    have h := congrArg some (hx88 _ rfl)
    obtain rfl := some_of h
    have h := onSum_inr h73
    obtain rfl := some_of h
    exact ⟨[.int .i64 r92.2.2.1], _, [], ⟨(tm Z), trivial⟩, (AV.Le.refl _), Weak.mkL [] (by decide) trivial trivial, ⟨Z, Z⟩⟩
   ·replace h := ite_t (ndec_f hb94) h
    refine aw_skip (aw_region (ac Z Z Z (op_loadN (i := 0) Z isAgg29 sizeOf29 (tm Z) Z (Nat.le_of_ble_eq_true Z) Z (ac0 Z Z (op_store (i := 2) (cs' := (api.Input.ct .no r92.1)) Z sizeOf29 (tm Z) (v := .agg (api.Input.ct .no r92.1)) (tm Z) Z Z Z (Nat.le_of_ble_eq_true Z) Z (aops_nil (aw_region (ap (.int .i64 (IntKind.wrap .i64 (s87.t15 + 1))) Z Z Z (pu_int (v := .int .i64 (IntKind.wrap .i64 (s87.t15 + 1))) Z Z (tm Z) (AEv.int _ _) Z) (ap (.int .i64 (IntKind.wrap .i64 (s87.t15 + 1))) Z Z Z (pu_move Z (tm Z)) (aops_nil ?_))))))))))
    obtain rfl := some_of h
    exact ⟨_, (), Z, Weak.mkL [1, 2] (by decide) ⟨⟨_, Z, (CellsLe.refl _), Z⟩, ⟨_, Z, (CellsLe.refl _), Z⟩, trivial⟩ ⟨AEv.tmp Z, AEv.tmp Z, AEv.tmp Z, AEv.tmp Z, (AEv.le (tm Z) (AV.Le.refl _)), trivial⟩⟩
  ·replace h := ite_f (dec_f hb95) h
   refine aw_exit ?_
   obtain rfl := some_of h
   have h := congrArg some (hx88 _ rfl)
   exact ⟨(), (), (some_of h).symm, Weak.mkL [] (by decide) trivial trivial⟩

theorem mewslaw42.alive.ok  {r : Bool} (h : mewslaw42.alive = some r) : Go.Lift.Spec prog 42 [] [] (fun v H => v = .bool r ∧ H = []) := by
 unfold mewslaw42.alive at h
 refine Go.Lift.Spec.of_body (rs := [.tmp 0]) func42 Z Z (Nat.le_of_ble_eq_true Z) Z (aw_seq (aw_region (ap (.bool false) Z Z Z (pu_assign Z (AEv.bool _)) (aops_nil (aw_seq (aw_region ?_))))))
 obtain ⟨r26, r26e, h⟩ := bind_some h
 refine ac Z Z Z (op_call (vs := []) (H := []) Z call62 trivial (List.Perm.refl _) (mewslaw42.some_.ok r26e) ?_)
 rintro _ _ ⟨rfl, rfl⟩
 refine ac Z Z Z (op_alloc (cs := [.sl .full 14 (([] : List api.Tenant).map api.Tenant.av), .int .i64 0, .int .i64 0]) (v := .agg [.sl .full 14 (([] : List api.Tenant).map api.Tenant.av), .int .i64 0, .int .i64 0]) Z zeroValue78 Z Z Z ?_)
 intro p27
 refine ac0 Z Z (op_store (i := 0) (cs' := [.sl .full 14 (r26.Tenants.map api.Tenant.av), .int .i64 r26.Quantum, .int .i64 r26.Deadline]) Z sizeOf78 (tm Z) (v := .agg [.sl .full 14 (r26.Tenants.map api.Tenant.av), .int .i64 r26.Quantum, .int .i64 r26.Deadline]) (tm Z) Z Z Z (Nat.le_of_ble_eq_true Z) Z (aops_nil (aw_seq (aw_region (ac Z Z Z (op_loadN (i := 0) Z isAgg78 sizeOf78 (tm Z) Z (Nat.le_of_ble_eq_true Z) Z (ap (.agg [.str ([] : List UInt8), .sl .full 1 (([] : List (List UInt8)).map AV.str), .int .i64 0, .int .i64 0, .bool false, .int .i64 0, .int .i64 0]) Z Z Z (pu_build (zs := [.str ([] : List UInt8), .sl .full 1 (([] : List (List UInt8)).map AV.str), .int .i64 0, .int .i64 0, .bool false, .int .i64 0, .int .i64 0]) (szs := [1, 1, 1, 1, 1, 1, 1]) (aparts := []) (cs := [.str ([] : List UInt8), .sl .full 1 (([] : List (List UInt8)).map AV.str), .int .i64 0, .int .i64 0, .bool false, .int .i64 0, .int .i64 0]) Z underlying29 zeroValue29 Z ⟨sizeOf9, sizeOf26, sizeOf3, sizeOf3, sizeOf4, sizeOf3, sizeOf27, trivial⟩ trivial Z) ?_)))))))
 obtain ⟨r28, r28e, h⟩ := bind_some h
 refine ac Z Z Z (op_call (vs := [.agg [.sl .no 14 (r26.Tenants.map api.Tenant.av), .int .i64 r26.Quantum, .int .i64 r26.Deadline], .agg [.str ([] : List UInt8), .sl .no 1 (([] : List (List UInt8)).map AV.str), .int .i64 0, .int .i64 0, .bool false, .int .i64 0, .int .i64 0], .str [97, 117, 116, 104, 32, 116, 10, 80, 73, 78, 71]]) (H := []) Z call47 ⟨(AEv.le (tm Z) (AV.Le.agg ⟨(AV.Le.forget _ _ _), (AV.Le.refl _), (AV.Le.refl _), trivial⟩)), (AEv.le (tm Z) (AV.Le.agg ⟨(AV.Le.refl _), (AV.Le.forget _ _ _), (AV.Le.refl _), (AV.Le.refl _), (AV.Le.refl _), (AV.Le.refl _), (AV.Le.refl _), trivial⟩)), (AEv.const Z), trivial⟩ (List.Perm.refl _) (auth.First.ok r28e) ?_)
 rintro _ _ ⟨rfl, rfl⟩
 refine ap (.tup [.agg (api.Input.ct .no r28.1), .str r28.2.1, .int .i64 r28.2.2.1, .int .i64 r28.2.2.2]) Z Z Z (pu_move Z (tm Z)) (ap (.agg (api.Input.ct .no r28.1)) Z Z Z (pu_extract Z (tm Z) (Nat.le_of_ble_eq_true Z) Z) (ap (.str r28.2.1) Z Z Z (pu_extract Z (tm Z) (Nat.le_of_ble_eq_true Z) Z) (ap (.int .i64 r28.2.2.1) Z Z Z (pu_extract Z (tm Z) (Nat.le_of_ble_eq_true Z) Z) (ap (.int .i64 r28.2.2.2) Z Z Z (pu_extract Z (tm Z) (Nat.le_of_ble_eq_true Z) Z) (ac Z Z Z (op_alloc (cs := [.str ([] : List UInt8), .sl .full 1 (([] : List (List UInt8)).map AV.str), .int .i64 0, .int .i64 0, .bool false, .int .i64 0, .int .i64 0]) (v := .agg [.str ([] : List UInt8), .sl .full 1 (([] : List (List UInt8)).map AV.str), .int .i64 0, .int .i64 0, .bool false, .int .i64 0, .int .i64 0]) Z zeroValue29 Z Z Z ?_))))))
 intro p29
 refine ac0 Z Z (op_store (i := 0) (cs' := (api.Input.ct .no r28.1)) Z sizeOf29 (tm Z) (v := .agg (api.Input.ct .no r28.1)) (tm Z) Z Z Z (Nat.le_of_ble_eq_true Z) Z (ap (.str r28.2.1) Z Z Z (pu_assign Z (tm Z)) (ap (.int .i64 r28.2.2.1) Z Z Z (pu_assign Z (tm Z)) (ap (.int .i64 r28.2.2.2) Z Z Z (pu_assign Z (tm Z)) (aops_nil (aw_seq (aw_region (ac Z Z Z (op_loadN (i := 1) Z isAgg78 sizeOf78 (tm Z) Z (Nat.le_of_ble_eq_true Z) Z (ap (.agg [.str ([] : List UInt8), .sl .full 1 (([] : List (List UInt8)).map AV.str), .int .i64 0, .int .i64 0, .bool false, .int .i64 0, .int .i64 0]) Z Z Z (pu_build (zs := [.str ([] : List UInt8), .sl .full 1 (([] : List (List UInt8)).map AV.str), .int .i64 0, .int .i64 0, .bool false, .int .i64 0, .int .i64 0]) (szs := [1, 1, 1, 1, 1, 1, 1]) (aparts := []) (cs := [.str ([] : List UInt8), .sl .full 1 (([] : List (List UInt8)).map AV.str), .int .i64 0, .int .i64 0, .bool false, .int .i64 0, .int .i64 0]) Z underlying29 zeroValue29 Z ⟨sizeOf9, sizeOf26, sizeOf3, sizeOf3, sizeOf4, sizeOf3, sizeOf27, trivial⟩ trivial Z) ?_))))))))))
 obtain ⟨r30, r30e, h⟩ := bind_some h
 refine ac Z Z Z (op_call (vs := [.agg [.sl .no 14 (r26.Tenants.map api.Tenant.av), .int .i64 r26.Quantum, .int .i64 r26.Deadline], .agg [.str ([] : List UInt8), .sl .no 1 (([] : List (List UInt8)).map AV.str), .int .i64 0, .int .i64 0, .bool false, .int .i64 0, .int .i64 0], .str [80, 73, 78, 71, 10]]) (H := []) Z call47 ⟨(AEv.le (tm Z) (AV.Le.agg ⟨(AV.Le.forget _ _ _), (AV.Le.refl _), (AV.Le.refl _), trivial⟩)), (AEv.le (tm Z) (AV.Le.agg ⟨(AV.Le.refl _), (AV.Le.forget _ _ _), (AV.Le.refl _), (AV.Le.refl _), (AV.Le.refl _), (AV.Le.refl _), (AV.Le.refl _), trivial⟩)), (AEv.const Z), trivial⟩ (List.Perm.refl _) (auth.First.ok r30e) ?_)
 rintro _ _ ⟨rfl, rfl⟩
 refine ap (.tup [.agg (api.Input.ct .no r30.1), .str r30.2.1, .int .i64 r30.2.2.1, .int .i64 r30.2.2.2]) Z Z Z (pu_move Z (tm Z)) (ap (.agg (api.Input.ct .no r30.1)) Z Z Z (pu_extract Z (tm Z) (Nat.le_of_ble_eq_true Z) Z) (ap (.str r30.2.1) Z Z Z (pu_extract Z (tm Z) (Nat.le_of_ble_eq_true Z) Z) (ap (.int .i64 r30.2.2.1) Z Z Z (pu_extract Z (tm Z) (Nat.le_of_ble_eq_true Z) Z) (ap (.int .i64 r30.2.2.2) Z Z Z (pu_extract Z (tm Z) (Nat.le_of_ble_eq_true Z) Z) (ac Z Z Z (op_alloc (cs := [.str ([] : List UInt8), .sl .full 1 (([] : List (List UInt8)).map AV.str), .int .i64 0, .int .i64 0, .bool false, .int .i64 0, .int .i64 0]) (v := .agg [.str ([] : List UInt8), .sl .full 1 (([] : List (List UInt8)).map AV.str), .int .i64 0, .int .i64 0, .bool false, .int .i64 0, .int .i64 0]) Z zeroValue29 Z Z Z ?_))))))
 intro p31
 refine ac0 Z Z (op_store (i := 0) (cs' := (api.Input.ct .no r30.1)) Z sizeOf29 (tm Z) (v := .agg (api.Input.ct .no r30.1)) (tm Z) Z Z Z (Nat.le_of_ble_eq_true Z) Z (ap (.str r30.2.1) Z Z Z (pu_assign Z (tm Z)) (ap (.int .i64 r30.2.2.1) Z Z Z (pu_assign Z (tm Z)) (ap (.int .i64 r30.2.2.2) Z Z Z (pu_assign Z (tm Z)) (aops_nil ?_)))))
 obtain ⟨s40, s40e, h41⟩ := bind_some h
 refine aw_meet (ν := Unit) (fun v => [(0, .bool s40)]) (fun v => []) ?_ ?_
 ·have h := s40e
  refine aw_region (ac Z Z Z (op_loadN (i := 2) Z isAgg78 sizeOf78 (tm Z) Z (Nat.le_of_ble_eq_true Z) Z ?_))
  obtain ⟨r43, r43e, h⟩ := bind_some h
  refine ac Z Z Z (op_call (vs := [.agg [.sl .no 14 (r26.Tenants.map api.Tenant.av), .int .i64 r26.Quantum, .int .i64 r26.Deadline]]) (H := []) Z call43 ⟨(AEv.le (tm Z) (AV.Le.agg ⟨(AV.Le.forget _ _ _), (AV.Le.refl _), (AV.Le.refl _), trivial⟩)), trivial⟩ (List.Perm.refl _) (auth.Right.ok r43e) ?_)
  rintro _ _ ⟨rfl, rfl⟩
  refine ap (.bool (decide (r43 = 0))) Z Z Z (pu_int (v := .bool (decide (r43 = 0))) Z Z (tm Z) (AEv.int _ _) Z) (ap (.bool (decide (r43 = 0))) Z Z Z (pu_move Z (tm Z)) ?_)
  rcases Bool.eq_false_or_eq_true (decide (r43 = 0)) with hb44 | hb44
  ·replace h := ite_t (dec_t hb44) h
   refine aops_known 30 Z hb44 (agp (.str r28.2.1) Z Z Z Z Z Z Z (pu_move Z (tm Z)) (agp (.bool (decide (r28.2.1 = [80, 73, 78, 71]))) Z Z Z Z Z Z Z (pu_str (v := .bool (decide (r28.2.1 = [80, 73, 78, 71]))) Z Z (tm Z) (AEv.const Z) Z) (ap (.bool (decide (r28.2.1 = [80, 73, 78, 71]))) Z Z Z (pu_pick (b := true) Z (tm Z) (fun _ => (tm Z)) (fun h => nomatch h)) (ap (.bool (decide (r28.2.1 = [80, 73, 78, 71]))) Z Z Z (pu_move Z (tm Z)) ?_))))
   rcases Bool.eq_false_or_eq_true (decide (r28.2.1 = [80, 73, 78, 71])) with hb45 | hb45
   ·replace h := ite_t (dec_t hb45) h
    refine aops_known 34 Z hb45 (agp (.int .i64 r28.2.2.1) Z Z Z Z Z Z Z (pu_move Z (tm Z)) (agp (.bool (decide (r28.2.2.1 = 1))) Z Z Z Z Z Z Z (pu_int (v := .bool (decide (r28.2.2.1 = 1))) Z Z (tm Z) (AEv.int _ _) Z) (ap (.bool (decide (r28.2.2.1 = 1))) Z Z Z (pu_pick (b := true) Z (tm Z) (fun _ => (tm Z)) (fun h => nomatch h)) (ap (.bool (decide (r28.2.2.1 = 1))) Z Z Z (pu_move Z (tm Z)) ?_))))
    rcases Bool.eq_false_or_eq_true (decide (r28.2.2.1 = 1)) with hb46 | hb46
    ·replace h := ite_t (dec_t hb46) h
     refine aops_known 38 Z hb46 (agp (.int .i64 r28.2.2.2) Z Z Z Z Z Z Z (pu_move Z (tm Z)) (agp (.bool (decide (r28.2.2.2 = 1))) Z Z Z Z Z Z Z (pu_int (v := .bool (decide (r28.2.2.2 = 1))) Z Z (tm Z) (AEv.int _ _) Z) (ap (.bool (decide (r28.2.2.2 = 1))) Z Z Z (pu_pick (b := true) Z (tm Z) (fun _ => (tm Z)) (fun h => nomatch h)) (ap (.bool (decide (r28.2.2.2 = 1))) Z Z Z (pu_move Z (tm Z)) ?_))))
     rcases Bool.eq_false_or_eq_true (decide (r28.2.2.2 = 1)) with hb47 | hb47
     ·replace h := ite_t (dec_t hb47) h
      refine aops_known 42 Z hb47 (agp (.int .i64 r30.2.2.1) Z Z Z Z Z Z Z (pu_move Z (tm Z)) (agp (.bool (decide (r30.2.2.1 = (-1)))) Z Z Z Z Z Z Z (pu_int (v := .bool (decide (r30.2.2.1 = (-1)))) Z Z (tm Z) (AEv.int _ _) Z) (ap (.bool (decide (r30.2.2.1 = (-1)))) Z Z Z (pu_pick (b := true) Z (tm Z) (fun _ => (tm Z)) (fun h => nomatch h)) (ap (.bool (decide (r30.2.2.1 = (-1)))) Z Z Z (pu_move Z (tm Z)) ?_))))
      rcases Bool.eq_false_or_eq_true (decide (r30.2.2.1 = (-1))) with hb48 | hb48
      ·replace h := ite_t (dec_t hb48) h
       refine aops_known 46 Z hb48 (agp (.int .i64 r30.2.2.2) Z Z Z Z Z Z Z (pu_move Z (tm Z)) (agp (.bool (decide (r30.2.2.2 = 2))) Z Z Z Z Z Z Z (pu_int (v := .bool (decide (r30.2.2.2 = 2))) Z Z (tm Z) (AEv.int _ _) Z) (ap (.bool (decide (r30.2.2.2 = 2))) Z Z Z (pu_pick (b := true) Z (tm Z) (fun _ => (tm Z)) (fun h => nomatch h)) (ap (.bool (decide (r30.2.2.2 = 2))) Z Z Z (pu_move Z (tm Z)) ?_))))
       rcases Bool.eq_false_or_eq_true (decide (r30.2.2.2 = 2)) with hb49 | hb49
       ·replace h := ite_t (dec_t hb49) h
        refine aops_known 50 Z hb49 (ag Z Z Z Z Z Z Z (op_loadN (i := 2) Z isAgg78 sizeOf78 (tm Z) Z (Nat.le_of_ble_eq_true Z) Z (ag Z Z Z Z Z Z Z (op_buildSlice (xs := ([[65, 85], [84, 72, 32, 115, 13, 10]] : List (List UInt8)).map AV.str) (aparts := [(0, .str [65, 85]), (1, .str [84, 72, 32, 115, 13, 10])]) Z underlying26 sizeOf9 zeroValue9 (by decide) (by decide) ⟨Z, (AEv.const Z), ⟨Z, (AEv.const Z), trivial⟩⟩ Z Z Z ?_))))
        obtain ⟨r50, r50e, h⟩ := bind_some h
        refine ag Z Z Z Z Z Z Z (op_call (vs := [.agg [.sl .no 14 (r26.Tenants.map api.Tenant.av), .int .i64 r26.Quantum, .int .i64 r26.Deadline], .sl .no 1 ([[65, 85], [84, 72, 32, 115, 13, 10]].map AV.str)]) (H := []) Z call49 ⟨(AEv.le (tm Z) (AV.Le.agg ⟨(AV.Le.forget _ _ _), (AV.Le.refl _), (AV.Le.refl _), trivial⟩)), (AEv.le (tm Z) (AV.Le.forget _ _ _)), trivial⟩ (List.Perm.refl _) (auth.Label.ok r50e) ?_)
        rintro _ _ ⟨rfl, rfl⟩
        refine agp (.bool (decide (r50 = 0))) Z Z Z Z Z Z Z (pu_int (v := .bool (decide (r50 = 0))) Z Z (tm Z) (AEv.int _ _) Z) (ap (.bool (decide (r50 = 0))) Z Z Z (pu_pick (b := true) Z (tm Z) (fun _ => (tm Z)) (fun h => nomatch h)) (ap (.bool (decide (r50 = 0))) Z Z Z (pu_assign Z (tm Z)) (aops_nil ?_)))
        obtain rfl := some_of h
        exact ⟨(), Weak.mkL [] (by decide) trivial ⟨(AEv.le (tm Z) (AV.Le.refl _)), trivial⟩⟩
       ·replace h := ite_f (dec_f hb49) h
        refine aops_known 50 Z hb49 (an Z Z Z Z Z Z Z Z (an Z Z Z Z Z Z Z Z (an Z Z Z Z Z Z Z Z (an Z Z Z Z Z Z Z Z (ap (.bool false) Z Z Z (pu_pick (b := false) Z (tm Z) (fun h => nomatch h) (fun _ => (AEv.bool _))) (ap (.bool false) Z Z Z (pu_assign Z (tm Z)) (aops_nil ?_)))))))
        obtain rfl := some_of h
        exact ⟨(), Weak.mkL [] (by decide) trivial ⟨AEv.tmp Z, trivial⟩⟩
      ·replace h := ite_f (dec_f hb48) h
       refine aops_known 46 Z hb48 (an Z Z Z Z Z Z Z Z (an Z Z Z Z Z Z Z Z (ap (.bool false) Z Z Z (pu_pick (b := false) Z (tm Z) (fun h => nomatch h) (fun _ => (AEv.bool _))) (ap (.bool false) Z Z Z (pu_move Z (tm Z)) (an Z Z Z Z Z Z Z Z (an Z Z Z Z Z Z Z Z (an Z Z Z Z Z Z Z Z (an Z Z Z Z Z Z Z Z (ap (.bool false) Z Z Z (pu_pick (b := false) Z (tm Z) (fun h => nomatch h) (fun _ => (AEv.bool _))) ?_)))))))))
       refine ap (.bool false) Z Z Z (pu_assign Z (tm Z)) (aops_nil ?_)
       obtain rfl := some_of h
       exact ⟨(), Weak.mkL [] (by decide) trivial ⟨AEv.tmp Z, trivial⟩⟩
     ·replace h := ite_f (dec_f hb47) h
      refine aops_known 42 Z hb47 (an Z Z Z Z Z Z Z Z (an Z Z Z Z Z Z Z Z (ap (.bool false) Z Z Z (pu_pick (b := false) Z (tm Z) (fun h => nomatch h) (fun _ => (AEv.bool _))) (ap (.bool false) Z Z Z (pu_move Z (tm Z)) (an Z Z Z Z Z Z Z Z (an Z Z Z Z Z Z Z Z (ap (.bool false) Z Z Z (pu_pick (b := false) Z (tm Z) (fun h => nomatch h) (fun _ => (AEv.bool _))) (ap (.bool false) Z Z Z (pu_move Z (tm Z)) (an Z Z Z Z Z Z Z Z ?_)))))))))
      refine an Z Z Z Z Z Z Z Z (an Z Z Z Z Z Z Z Z (an Z Z Z Z Z Z Z Z (ap (.bool false) Z Z Z (pu_pick (b := false) Z (tm Z) (fun h => nomatch h) (fun _ => (AEv.bool _))) (ap (.bool false) Z Z Z (pu_assign Z (tm Z)) (aops_nil ?_)))))
      obtain rfl := some_of h
      exact ⟨(), Weak.mkL [] (by decide) trivial ⟨AEv.tmp Z, trivial⟩⟩
    ·replace h := ite_f (dec_f hb46) h
     refine aops_known 38 Z hb46 (an Z Z Z Z Z Z Z Z (an Z Z Z Z Z Z Z Z (ap (.bool false) Z Z Z (pu_pick (b := false) Z (tm Z) (fun h => nomatch h) (fun _ => (AEv.bool _))) (ap (.bool false) Z Z Z (pu_move Z (tm Z)) (an Z Z Z Z Z Z Z Z (an Z Z Z Z Z Z Z Z (ap (.bool false) Z Z Z (pu_pick (b := false) Z (tm Z) (fun h => nomatch h) (fun _ => (AEv.bool _))) (ap (.bool false) Z Z Z (pu_move Z (tm Z)) (an Z Z Z Z Z Z Z Z ?_)))))))))
     refine an Z Z Z Z Z Z Z Z (ap (.bool false) Z Z Z (pu_pick (b := false) Z (tm Z) (fun h => nomatch h) (fun _ => (AEv.bool _))) (ap (.bool false) Z Z Z (pu_move Z (tm Z)) (an Z Z Z Z Z Z Z Z (an Z Z Z Z Z Z Z Z (an Z Z Z Z Z Z Z Z (an Z Z Z Z Z Z Z Z (ap (.bool false) Z Z Z (pu_pick (b := false) Z (tm Z) (fun h => nomatch h) (fun _ => (AEv.bool _))) (ap (.bool false) Z Z Z (pu_assign Z (tm Z)) (aops_nil ?_)))))))))
     obtain rfl := some_of h
     exact ⟨(), Weak.mkL [] (by decide) trivial ⟨AEv.tmp Z, trivial⟩⟩
   ·replace h := ite_f (dec_f hb45) h
    refine aops_known 34 Z hb45 (an Z Z Z Z Z Z Z Z (an Z Z Z Z Z Z Z Z (ap (.bool false) Z Z Z (pu_pick (b := false) Z (tm Z) (fun h => nomatch h) (fun _ => (AEv.bool _))) (ap (.bool false) Z Z Z (pu_move Z (tm Z)) (an Z Z Z Z Z Z Z Z (an Z Z Z Z Z Z Z Z (ap (.bool false) Z Z Z (pu_pick (b := false) Z (tm Z) (fun h => nomatch h) (fun _ => (AEv.bool _))) (ap (.bool false) Z Z Z (pu_move Z (tm Z)) (an Z Z Z Z Z Z Z Z ?_)))))))))
    refine an Z Z Z Z Z Z Z Z (ap (.bool false) Z Z Z (pu_pick (b := false) Z (tm Z) (fun h => nomatch h) (fun _ => (AEv.bool _))) (ap (.bool false) Z Z Z (pu_move Z (tm Z)) (an Z Z Z Z Z Z Z Z (an Z Z Z Z Z Z Z Z (ap (.bool false) Z Z Z (pu_pick (b := false) Z (tm Z) (fun h => nomatch h) (fun _ => (AEv.bool _))) (ap (.bool false) Z Z Z (pu_move Z (tm Z)) (an Z Z Z Z Z Z Z Z (an Z Z Z Z Z Z Z Z (an Z Z Z Z Z Z Z Z ?_)))))))))
    refine an Z Z Z Z Z Z Z Z (ap (.bool false) Z Z Z (pu_pick (b := false) Z (tm Z) (fun h => nomatch h) (fun _ => (AEv.bool _))) (ap (.bool false) Z Z Z (pu_assign Z (tm Z)) (aops_nil ?_)))
    obtain rfl := some_of h
    exact ⟨(), Weak.mkL [] (by decide) trivial ⟨AEv.tmp Z, trivial⟩⟩
  ·replace h := ite_f (dec_f hb44) h
   refine aops_known 30 Z hb44 (an Z Z Z Z Z Z Z Z (an Z Z Z Z Z Z Z Z (ap (.bool false) Z Z Z (pu_pick (b := false) Z (tm Z) (fun h => nomatch h) (fun _ => (AEv.bool _))) (ap (.bool false) Z Z Z (pu_move Z (tm Z)) (an Z Z Z Z Z Z Z Z (an Z Z Z Z Z Z Z Z (ap (.bool false) Z Z Z (pu_pick (b := false) Z (tm Z) (fun h => nomatch h) (fun _ => (AEv.bool _))) (ap (.bool false) Z Z Z (pu_move Z (tm Z)) (an Z Z Z Z Z Z Z Z ?_)))))))))
   refine an Z Z Z Z Z Z Z Z (ap (.bool false) Z Z Z (pu_pick (b := false) Z (tm Z) (fun h => nomatch h) (fun _ => (AEv.bool _))) (ap (.bool false) Z Z Z (pu_move Z (tm Z)) (an Z Z Z Z Z Z Z Z (an Z Z Z Z Z Z Z Z (ap (.bool false) Z Z Z (pu_pick (b := false) Z (tm Z) (fun h => nomatch h) (fun _ => (AEv.bool _))) (ap (.bool false) Z Z Z (pu_move Z (tm Z)) (an Z Z Z Z Z Z Z Z (an Z Z Z Z Z Z Z Z (ap (.bool false) Z Z Z (pu_pick (b := false) Z (tm Z) (fun h => nomatch h) (fun _ => (AEv.bool _))) ?_)))))))))
   refine ap (.bool false) Z Z Z (pu_move Z (tm Z)) (an Z Z Z Z Z Z Z Z (an Z Z Z Z Z Z Z Z (an Z Z Z Z Z Z Z Z (an Z Z Z Z Z Z Z Z (ap (.bool false) Z Z Z (pu_pick (b := false) Z (tm Z) (fun h => nomatch h) (fun _ => (AEv.bool _))) (ap (.bool false) Z Z Z (pu_assign Z (tm Z)) (aops_nil ?_)))))))
   obtain rfl := some_of h
   exact ⟨(), Weak.mkL [] (by decide) trivial ⟨AEv.tmp Z, trivial⟩⟩
 ·intro _
  have h := h41
  refine aw_ret ?_
  obtain rfl := some_of h
  exact ⟨[.bool s40], _, [], ⟨(tm Z), trivial⟩, (AV.Le.refl _), Weak.mkL [] (by decide) trivial trivial, ⟨Z, Z⟩⟩

theorem mewsref42.in_.ok {n_ : Int} {low : Int} {high : Int} {r : Bool} (h : mewsref42.in_ n_ low high = some r) : Go.Lift.Spec prog 66 [.int .i64 n_, .int .i64 low, .int .i64 high] [] (fun v H => v = .bool r ∧ H = []) := by
 unfold mewsref42.in_ at h
 refine Go.Lift.Spec.of_body (rs := [.tmp 6]) func66 Z Z (Nat.le_of_ble_eq_true Z) Z (aw_seq (aw_region (ap (.bool false) Z Z Z (pu_assign Z (AEv.bool _)) (aops_nil ?_))))
 obtain ⟨s7, s7e, h8⟩ := letO_of h
 refine aw_meet (ν := Unit) (fun v => [(6, .bool s7)]) (fun v => []) ?_ ?_
 ·have h := s7e.symm
  refine aw_region (ap (.int .i64 n_) Z Z Z (pu_move Z (tm Z)) (ap (.int .i64 low) Z Z Z (pu_move Z (tm Z)) (ap (.bool (decide (low ≤ n_))) Z Z Z (pu_int (v := .bool (decide (low ≤ n_))) Z Z (tm Z) (tm Z) Z) (ap (.bool (decide (low ≤ n_))) Z Z Z (pu_move Z (tm Z)) ?_))))
  rcases Bool.eq_false_or_eq_true (decide (low ≤ n_)) with hb10 | hb10
  ·replace h := ite_t (dec_t hb10) h
   refine aops_known 10 Z hb10 (agp (.int .i64 n_) Z Z Z Z Z Z Z (pu_move Z (tm Z)) (agp (.int .i64 high) Z Z Z Z Z Z Z (pu_move Z (tm Z)) (agp (.bool (decide (n_ ≤ high))) Z Z Z Z Z Z Z (pu_int (v := .bool (decide (n_ ≤ high))) Z Z (tm Z) (tm Z) Z) (ap (.bool (decide (n_ ≤ high))) Z Z Z (pu_pick (b := true) Z (tm Z) (fun _ => (tm Z)) (fun h => nomatch h)) (ap (.bool (decide (n_ ≤ high))) Z Z Z (pu_assign Z (tm Z)) (aops_nil ?_))))))
   subst h
   exact ⟨(), Weak.mkL [] (by decide) trivial ⟨(AEv.le (tm Z) (AV.Le.refl _)), trivial⟩⟩
  ·replace h := ite_f (dec_f hb10) h
   refine aops_known 10 Z hb10 (an Z Z Z Z Z Z Z Z (an Z Z Z Z Z Z Z Z (an Z Z Z Z Z Z Z Z (ap (.bool false) Z Z Z (pu_pick (b := false) Z (tm Z) (fun h => nomatch h) (fun _ => (AEv.bool _))) (ap (.bool false) Z Z Z (pu_assign Z (tm Z)) (aops_nil ?_))))))
   subst h
   exact ⟨(), Weak.mkL [] (by decide) trivial ⟨AEv.tmp Z, trivial⟩⟩
 ·intro _
  have h := h8
  refine aw_ret ?_
  obtain rfl := some_of h
  exact ⟨[.bool s7], _, [], ⟨(tm Z), trivial⟩, (AV.Le.refl _), Weak.mkL [] (by decide) trivial trivial, ⟨Z, Z⟩⟩

theorem mewsref42.May.ok {t_ : api.Tenant} {r : Bool} (h : mewsref42.May t_ = some r) : Go.Lift.Spec prog 67 [.agg (api.Tenant.ct t_)] [] (fun v H => v = .bool r ∧ H = []) := by
 unfold mewsref42.May at h
 refine Go.Lift.Spec.of_body (rs := [.tmp 2]) func67 Z Z (Nat.le_of_ble_eq_true Z) Z (aw_seq (aw_region (ac Z Z Z (op_box (cs := (api.Tenant.ct t_)) (v := .agg (api.Tenant.ct t_)) Z (tm Z) Z Z ?_))))
 intro p69
 refine ap (.bool false) Z Z Z (pu_assign Z (AEv.bool _)) (aops_nil ?_)
 obtain ⟨s73, s73e, h74⟩ := bind_some h
 refine aw_meet (ν := Unit) (fun v => [(1, .ptr p69 0), (3, .bool s73)]) (fun v => [(p69, .cells (api.Tenant.ct t_))]) ?_ ?_
 ·have h := s73e
  refine aw_region (ap (.ptr p69 0) Z Z Z (pu_fieldAddr Z underlying53 Z sizeOf9 (by decide) (tm Z) Z) (ac Z Z Z (op_load1 (i := 0) Z isAgg9 (tm Z) Z Z (ap (.int .i64 (t_.Name.length : Int)) Z Z Z (pu_strLen Z underlying9 (tm Z)) ?_))))
  obtain ⟨r76, r76e, h⟩ := bind_some h
  refine ac Z Z Z (op_call (vs := [.int .i64 (t_.Name.length : Int), .int .i64 1, .int .i64 64]) (H := []) Z call66 ⟨(tm Z), (AEv.int _ _), (AEv.int _ _), trivial⟩ (List.Perm.refl _) (mewsref42.in_.ok r76e) ?_)
  rintro _ _ ⟨rfl, rfl⟩
  refine ap (.bool r76) Z Z Z (pu_move Z (tm Z)) ?_
  rcases Bool.eq_false_or_eq_true r76 with hb77 | hb77
  ·replace h := ite_t hb77 h
   refine aops_known 11 Z hb77 (agp (.ptr p69 1) Z Z Z Z Z Z Z (pu_fieldAddr Z underlying53 Z sizeOf9 (by decide) (tm Z) Z) (ag Z Z Z Z Z Z Z (op_load1 (i := 0) Z isAgg9 (tm Z) Z Z (agp (.int .i64 (t_.Token.length : Int)) Z Z Z Z Z Z Z (pu_strLen Z underlying9 (tm Z)) ?_))))
   obtain ⟨r78, r78e, h⟩ := bind_some h
   refine ag Z Z Z Z Z Z Z (op_call (vs := [.int .i64 (t_.Token.length : Int), .int .i64 1, .int .i64 64]) (H := []) Z call66 ⟨(tm Z), (AEv.int _ _), (AEv.int _ _), trivial⟩ (List.Perm.refl _) (mewsref42.in_.ok r78e) ?_)
   rintro _ _ ⟨rfl, rfl⟩
   refine ap (.bool r78) Z Z Z (pu_pick (b := true) Z (tm Z) (fun _ => (tm Z)) (fun h => nomatch h)) (ap (.bool r78) Z Z Z (pu_assign Z (tm Z)) (aops_nil ?_))
   obtain rfl := some_of h
   exact ⟨(), Weak.mkL [0] (by decide) ⟨⟨_, Z, (CellsLe.refl _), Z⟩, trivial⟩ ⟨AEv.tmp Z, AEv.tmp Z, trivial⟩⟩
  ·replace h := ite_fb hb77 h
   refine aops_known 11 Z hb77 (an Z Z Z Z Z Z Z Z (an Z Z Z Z Z Z Z Z (an Z Z Z Z Z Z Z Z (an Z Z Z Z Z Z Z Z (ap (.bool false) Z Z Z (pu_pick (b := false) Z (tm Z) (fun h => nomatch h) (fun _ => (AEv.bool _))) (ap (.bool false) Z Z Z (pu_assign Z (tm Z)) (aops_nil ?_)))))))
   obtain rfl := some_of h
   exact ⟨(), Weak.mkL [0] (by decide) ⟨⟨_, Z, (CellsLe.refl _), Z⟩, trivial⟩ ⟨AEv.tmp Z, AEv.tmp Z, trivial⟩⟩
 ·intro _
  have h := h74
  obtain ⟨s88, s88e, h89⟩ := bind_some h
  refine aw_meet (ν := Unit) (fun v => [(1, .ptr p69 0), (3, .bool s73), (4, .bool s88)]) (fun v => [(p69, .cells (api.Tenant.ct t_))]) ?_ ?_
  ·have h := s88e
   refine aw_region (ap (.ptr p69 2) Z Z Z (pu_fieldAddr Z underlying53 Z sizeOf3 (by decide) (tm Z) Z) (ac Z Z Z (op_load1 (i := 0) Z isAgg3 (tm Z) Z Z ?_)))
   obtain ⟨r91, r91e, h⟩ := bind_some h
   refine ac Z Z Z (op_call (vs := [.int .i64 t_.Memory, .int .i64 0, .int .i64 524288]) (H := []) Z call66 ⟨(tm Z), (AEv.int _ _), (AEv.int _ _), trivial⟩ (List.Perm.refl _) (mewsref42.in_.ok r91e) ?_)
   rintro _ _ ⟨rfl, rfl⟩
   refine ap (.bool r91) Z Z Z (pu_move Z (tm Z)) ?_
   rcases Bool.eq_false_or_eq_true r91 with hb92 | hb92
   ·replace h := ite_t hb92 h
    refine aops_known 20 Z hb92 (agp (.ptr p69 3) Z Z Z Z Z Z Z (pu_fieldAddr Z underlying53 Z sizeOf3 (by decide) (tm Z) Z) (ag Z Z Z Z Z Z Z (op_load1 (i := 0) Z isAgg3 (tm Z) Z Z ?_)))
    obtain ⟨r93, r93e, h⟩ := bind_some h
    refine ag Z Z Z Z Z Z Z (op_call (vs := [.int .i64 t_.Policy, .int .i64 0, .int .i64 5]) (H := []) Z call66 ⟨(tm Z), (AEv.int _ _), (AEv.int _ _), trivial⟩ (List.Perm.refl _) (mewsref42.in_.ok r93e) ?_)
    rintro _ _ ⟨rfl, rfl⟩
    refine ap (.bool r93) Z Z Z (pu_pick (b := true) Z (tm Z) (fun _ => (tm Z)) (fun h => nomatch h)) (ap (.bool r93) Z Z Z (pu_move Z (tm Z)) ?_)
    rcases Bool.eq_false_or_eq_true r93 with hb94 | hb94
    ·replace h := ite_t hb94 h
     refine aops_known 25 Z hb94 (agp (.ptr p69 5) Z Z Z Z Z Z Z (pu_fieldAddr Z underlying53 Z sizeOf3 (by decide) (tm Z) Z) (ag Z Z Z Z Z Z Z (op_load1 (i := 0) Z isAgg3 (tm Z) Z Z ?_)))
     obtain ⟨r95, r95e, h⟩ := bind_some h
     refine ag Z Z Z Z Z Z Z (op_call (vs := [.int .i64 t_.In, .int .i64 64, .int .i64 1048576]) (H := []) Z call66 ⟨(tm Z), (AEv.int _ _), (AEv.int _ _), trivial⟩ (List.Perm.refl _) (mewsref42.in_.ok r95e) ?_)
     rintro _ _ ⟨rfl, rfl⟩
     refine ap (.bool r95) Z Z Z (pu_pick (b := true) Z (tm Z) (fun _ => (tm Z)) (fun h => nomatch h)) (ap (.bool r95) Z Z Z (pu_move Z (tm Z)) ?_)
     rcases Bool.eq_false_or_eq_true r95 with hb96 | hb96
     ·replace h := ite_t hb96 h
      refine aops_known 30 Z hb96 (agp (.ptr p69 6) Z Z Z Z Z Z Z (pu_fieldAddr Z underlying53 Z sizeOf3 (by decide) (tm Z) Z) (ag Z Z Z Z Z Z Z (op_load1 (i := 0) Z isAgg3 (tm Z) Z Z ?_)))
      obtain ⟨r97, r97e, h⟩ := bind_some h
      refine ag Z Z Z Z Z Z Z (op_call (vs := [.int .i64 t_.Out, .int .i64 64, .int .i64 4194304]) (H := []) Z call66 ⟨(tm Z), (AEv.int _ _), (AEv.int _ _), trivial⟩ (List.Perm.refl _) (mewsref42.in_.ok r97e) ?_)
      rintro _ _ ⟨rfl, rfl⟩
      refine ap (.bool r97) Z Z Z (pu_pick (b := true) Z (tm Z) (fun _ => (tm Z)) (fun h => nomatch h)) (ap (.bool r97) Z Z Z (pu_move Z (tm Z)) ?_)
      rcases Bool.eq_false_or_eq_true r97 with hb98 | hb98
      ·replace h := ite_t hb98 h
       refine aops_known 35 Z hb98 (agp (.ptr p69 9) Z Z Z Z Z Z Z (pu_fieldAddr Z underlying53 Z sizeOf3 (by decide) (tm Z) Z) (ag Z Z Z Z Z Z Z (op_load1 (i := 0) Z isAgg3 (tm Z) Z Z ?_)))
       obtain ⟨r99, r99e, h⟩ := bind_some h
       refine ag Z Z Z Z Z Z Z (op_call (vs := [.int .i64 t_.Disk, .int .i64 0, .int .i64 67108864]) (H := []) Z call66 ⟨(tm Z), (AEv.int _ _), (AEv.int _ _), trivial⟩ (List.Perm.refl _) (mewsref42.in_.ok r99e) ?_)
       rintro _ _ ⟨rfl, rfl⟩
       refine ap (.bool r99) Z Z Z (pu_pick (b := true) Z (tm Z) (fun _ => (tm Z)) (fun h => nomatch h)) (ap (.bool r99) Z Z Z (pu_assign Z (tm Z)) (aops_nil ?_))
       obtain rfl := some_of h
       exact ⟨(), Weak.mkL [0] (by decide) ⟨⟨_, Z, (CellsLe.refl _), Z⟩, trivial⟩ ⟨AEv.tmp Z, AEv.tmp Z, AEv.tmp Z, trivial⟩⟩
      ·replace h := ite_fb hb98 h
       refine aops_known 35 Z hb98 (an Z Z Z Z Z Z Z Z (an Z Z Z Z Z Z Z Z (an Z Z Z Z Z Z Z Z (ap (.bool false) Z Z Z (pu_pick (b := false) Z (tm Z) (fun h => nomatch h) (fun _ => (AEv.bool _))) (ap (.bool false) Z Z Z (pu_assign Z (tm Z)) (aops_nil ?_))))))
       obtain rfl := some_of h
       exact ⟨(), Weak.mkL [0] (by decide) ⟨⟨_, Z, (CellsLe.refl _), Z⟩, trivial⟩ ⟨AEv.tmp Z, AEv.tmp Z, AEv.tmp Z, trivial⟩⟩
     ·replace h := ite_fb hb96 h
      refine aops_known 30 Z hb96 (an Z Z Z Z Z Z Z Z (an Z Z Z Z Z Z Z Z (an Z Z Z Z Z Z Z Z (ap (.bool false) Z Z Z (pu_pick (b := false) Z (tm Z) (fun h => nomatch h) (fun _ => (AEv.bool _))) (ap (.bool false) Z Z Z (pu_move Z (tm Z)) (an Z Z Z Z Z Z Z Z (an Z Z Z Z Z Z Z Z (an Z Z Z Z Z Z Z Z (ap (.bool false) Z Z Z (pu_pick (b := false) Z (tm Z) (fun h => nomatch h) (fun _ => (AEv.bool _))) ?_)))))))))
      refine ap (.bool false) Z Z Z (pu_assign Z (tm Z)) (aops_nil ?_)
      obtain rfl := some_of h
      exact ⟨(), Weak.mkL [0] (by decide) ⟨⟨_, Z, (CellsLe.refl _), Z⟩, trivial⟩ ⟨AEv.tmp Z, AEv.tmp Z, AEv.tmp Z, trivial⟩⟩
    ·replace h := ite_fb hb94 h
     refine aops_known 25 Z hb94 (an Z Z Z Z Z Z Z Z (an Z Z Z Z Z Z Z Z (an Z Z Z Z Z Z Z Z (ap (.bool false) Z Z Z (pu_pick (b := false) Z (tm Z) (fun h => nomatch h) (fun _ => (AEv.bool _))) (ap (.bool false) Z Z Z (pu_move Z (tm Z)) (an Z Z Z Z Z Z Z Z (an Z Z Z Z Z Z Z Z (an Z Z Z Z Z Z Z Z (ap (.bool false) Z Z Z (pu_pick (b := false) Z (tm Z) (fun h => nomatch h) (fun _ => (AEv.bool _))) ?_)))))))))
     refine ap (.bool false) Z Z Z (pu_move Z (tm Z)) (an Z Z Z Z Z Z Z Z (an Z Z Z Z Z Z Z Z (an Z Z Z Z Z Z Z Z (ap (.bool false) Z Z Z (pu_pick (b := false) Z (tm Z) (fun h => nomatch h) (fun _ => (AEv.bool _))) (ap (.bool false) Z Z Z (pu_assign Z (tm Z)) (aops_nil ?_))))))
     obtain rfl := some_of h
     exact ⟨(), Weak.mkL [0] (by decide) ⟨⟨_, Z, (CellsLe.refl _), Z⟩, trivial⟩ ⟨AEv.tmp Z, AEv.tmp Z, AEv.tmp Z, trivial⟩⟩
   ·replace h := ite_fb hb92 h
    refine aops_known 20 Z hb92 (an Z Z Z Z Z Z Z Z (an Z Z Z Z Z Z Z Z (an Z Z Z Z Z Z Z Z (ap (.bool false) Z Z Z (pu_pick (b := false) Z (tm Z) (fun h => nomatch h) (fun _ => (AEv.bool _))) (ap (.bool false) Z Z Z (pu_move Z (tm Z)) (an Z Z Z Z Z Z Z Z (an Z Z Z Z Z Z Z Z (an Z Z Z Z Z Z Z Z (ap (.bool false) Z Z Z (pu_pick (b := false) Z (tm Z) (fun h => nomatch h) (fun _ => (AEv.bool _))) ?_)))))))))
    refine ap (.bool false) Z Z Z (pu_move Z (tm Z)) (an Z Z Z Z Z Z Z Z (an Z Z Z Z Z Z Z Z (an Z Z Z Z Z Z Z Z (ap (.bool false) Z Z Z (pu_pick (b := false) Z (tm Z) (fun h => nomatch h) (fun _ => (AEv.bool _))) (ap (.bool false) Z Z Z (pu_move Z (tm Z)) (an Z Z Z Z Z Z Z Z (an Z Z Z Z Z Z Z Z (an Z Z Z Z Z Z Z Z (ap (.bool false) Z Z Z (pu_pick (b := false) Z (tm Z) (fun h => nomatch h) (fun _ => (AEv.bool _))) ?_)))))))))
    refine ap (.bool false) Z Z Z (pu_assign Z (tm Z)) (aops_nil ?_)
    obtain rfl := some_of h
    exact ⟨(), Weak.mkL [0] (by decide) ⟨⟨_, Z, (CellsLe.refl _), Z⟩, trivial⟩ ⟨AEv.tmp Z, AEv.tmp Z, AEv.tmp Z, trivial⟩⟩
  ·intro _
   have h := h89
   obtain ⟨s107, s107e, h108⟩ := bind_some h
   refine aw_meet (ν := Unit) (fun v => [(1, .ptr p69 0), (3, .bool s73), (4, .bool s88), (5, .bool s107)]) (fun v => [(p69, .cells (api.Tenant.ct t_))]) ?_ ?_
   ·have h := s107e
    refine aw_region (ap (.ptr p69 4) Z Z Z (pu_fieldAddr Z underlying53 Z sizeOf3 (by decide) (tm Z) Z) (ac Z Z Z (op_load1 (i := 0) Z isAgg3 (tm Z) Z Z ?_)))
    obtain ⟨r110, r110e, h⟩ := bind_some h
    refine ac Z Z Z (op_call (vs := [.int .i64 t_.Conns, .int .i64 1, .int .i64 64]) (H := []) Z call66 ⟨(tm Z), (AEv.int _ _), (AEv.int _ _), trivial⟩ (List.Perm.refl _) (mewsref42.in_.ok r110e) ?_)
    rintro _ _ ⟨rfl, rfl⟩
    refine ap (.bool r110) Z Z Z (pu_move Z (tm Z)) ?_
    rcases Bool.eq_false_or_eq_true r110 with hb111 | hb111
    ·replace h := ite_t hb111 h
     refine aops_known 43 Z hb111 (agp (.ptr p69 7) Z Z Z Z Z Z Z (pu_fieldAddr Z underlying53 Z sizeOf3 (by decide) (tm Z) Z) (ag Z Z Z Z Z Z Z (op_load1 (i := 0) Z isAgg3 (tm Z) Z Z ?_)))
     obtain ⟨r112, r112e, h⟩ := bind_some h
     refine ag Z Z Z Z Z Z Z (op_call (vs := [.int .i64 t_.Burst, .int .i64 1, .int .i64 1073741824]) (H := []) Z call66 ⟨(tm Z), (AEv.int _ _), (AEv.int _ _), trivial⟩ (List.Perm.refl _) (mewsref42.in_.ok r112e) ?_)
     rintro _ _ ⟨rfl, rfl⟩
     refine ap (.bool r112) Z Z Z (pu_pick (b := true) Z (tm Z) (fun _ => (tm Z)) (fun h => nomatch h)) (ap (.bool r112) Z Z Z (pu_move Z (tm Z)) ?_)
     rcases Bool.eq_false_or_eq_true r112 with hb113 | hb113
     ·replace h := ite_t hb113 h
      refine aops_known 48 Z hb113 (agp (.ptr p69 8) Z Z Z Z Z Z Z (pu_fieldAddr Z underlying53 Z sizeOf3 (by decide) (tm Z) Z) (ag Z Z Z Z Z Z Z (op_load1 (i := 0) Z isAgg3 (tm Z) Z Z ?_)))
      obtain ⟨r114, r114e, h⟩ := bind_some h
      refine ag Z Z Z Z Z Z Z (op_call (vs := [.int .i64 t_.Rate, .int .i64 0, .int .i64 1048576]) (H := []) Z call66 ⟨(tm Z), (AEv.int _ _), (AEv.int _ _), trivial⟩ (List.Perm.refl _) (mewsref42.in_.ok r114e) ?_)
      rintro _ _ ⟨rfl, rfl⟩
      refine ap (.bool r114) Z Z Z (pu_pick (b := true) Z (tm Z) (fun _ => (tm Z)) (fun h => nomatch h)) (ap (.bool r114) Z Z Z (pu_move Z (tm Z)) ?_)
      rcases Bool.eq_false_or_eq_true r114 with hb115 | hb115
      ·replace h := ite_t hb115 h
       refine aops_known 53 Z hb115 (agp (.ptr p69 10) Z Z Z Z Z Z Z (pu_fieldAddr Z underlying53 Z sizeOf3 (by decide) (tm Z) Z) (ag Z Z Z Z Z Z Z (op_load1 (i := 0) Z isAgg3 (tm Z) Z Z ?_)))
       obtain ⟨r116, r116e, h⟩ := bind_some h
       refine ag Z Z Z Z Z Z Z (op_call (vs := [.int .i64 t_.Sync, .int .i64 1, .int .i64 3]) (H := []) Z call66 ⟨(tm Z), (AEv.int _ _), (AEv.int _ _), trivial⟩ (List.Perm.refl _) (mewsref42.in_.ok r116e) ?_)
       rintro _ _ ⟨rfl, rfl⟩
       refine ap (.bool r116) Z Z Z (pu_pick (b := true) Z (tm Z) (fun _ => (tm Z)) (fun h => nomatch h)) (ap (.bool r116) Z Z Z (pu_assign Z (tm Z)) (aops_nil ?_))
       obtain rfl := some_of h
       exact ⟨(), Weak.mkL [0] (by decide) ⟨⟨_, Z, (CellsLe.refl _), Z⟩, trivial⟩ ⟨AEv.tmp Z, AEv.tmp Z, AEv.tmp Z, AEv.tmp Z, trivial⟩⟩
      ·replace h := ite_fb hb115 h
       refine aops_known 53 Z hb115 (an Z Z Z Z Z Z Z Z (an Z Z Z Z Z Z Z Z (an Z Z Z Z Z Z Z Z (ap (.bool false) Z Z Z (pu_pick (b := false) Z (tm Z) (fun h => nomatch h) (fun _ => (AEv.bool _))) (ap (.bool false) Z Z Z (pu_assign Z (tm Z)) (aops_nil ?_))))))
       obtain rfl := some_of h
       exact ⟨(), Weak.mkL [0] (by decide) ⟨⟨_, Z, (CellsLe.refl _), Z⟩, trivial⟩ ⟨AEv.tmp Z, AEv.tmp Z, AEv.tmp Z, AEv.tmp Z, trivial⟩⟩
     ·replace h := ite_fb hb113 h
      refine aops_known 48 Z hb113 (an Z Z Z Z Z Z Z Z (an Z Z Z Z Z Z Z Z (an Z Z Z Z Z Z Z Z (ap (.bool false) Z Z Z (pu_pick (b := false) Z (tm Z) (fun h => nomatch h) (fun _ => (AEv.bool _))) (ap (.bool false) Z Z Z (pu_move Z (tm Z)) (an Z Z Z Z Z Z Z Z (an Z Z Z Z Z Z Z Z (an Z Z Z Z Z Z Z Z (ap (.bool false) Z Z Z (pu_pick (b := false) Z (tm Z) (fun h => nomatch h) (fun _ => (AEv.bool _))) ?_)))))))))
      refine ap (.bool false) Z Z Z (pu_assign Z (tm Z)) (aops_nil ?_)
      obtain rfl := some_of h
      exact ⟨(), Weak.mkL [0] (by decide) ⟨⟨_, Z, (CellsLe.refl _), Z⟩, trivial⟩ ⟨AEv.tmp Z, AEv.tmp Z, AEv.tmp Z, AEv.tmp Z, trivial⟩⟩
    ·replace h := ite_fb hb111 h
     refine aops_known 43 Z hb111 (an Z Z Z Z Z Z Z Z (an Z Z Z Z Z Z Z Z (an Z Z Z Z Z Z Z Z (ap (.bool false) Z Z Z (pu_pick (b := false) Z (tm Z) (fun h => nomatch h) (fun _ => (AEv.bool _))) (ap (.bool false) Z Z Z (pu_move Z (tm Z)) (an Z Z Z Z Z Z Z Z (an Z Z Z Z Z Z Z Z (an Z Z Z Z Z Z Z Z (ap (.bool false) Z Z Z (pu_pick (b := false) Z (tm Z) (fun h => nomatch h) (fun _ => (AEv.bool _))) ?_)))))))))
     refine ap (.bool false) Z Z Z (pu_move Z (tm Z)) (an Z Z Z Z Z Z Z Z (an Z Z Z Z Z Z Z Z (an Z Z Z Z Z Z Z Z (ap (.bool false) Z Z Z (pu_pick (b := false) Z (tm Z) (fun h => nomatch h) (fun _ => (AEv.bool _))) (ap (.bool false) Z Z Z (pu_assign Z (tm Z)) (aops_nil ?_))))))
     obtain rfl := some_of h
     exact ⟨(), Weak.mkL [0] (by decide) ⟨⟨_, Z, (CellsLe.refl _), Z⟩, trivial⟩ ⟨AEv.tmp Z, AEv.tmp Z, AEv.tmp Z, AEv.tmp Z, trivial⟩⟩
   ·intro _
    have h := h108
    refine aw_seq (aw_region (ap (.ptr p69 11) Z Z Z (pu_fieldAddr Z underlying53 Z sizeOf23 (by decide) (tm Z) Z) (ac Z Z Z (op_loadN (i := 0) Z isAgg23 sizeOf23 (tm Z) Z (Nat.le_of_ble_eq_true Z) Z (ac Z Z Z (op_alloc (cs := [.int .i64 0, .int .i64 0, .int .i64 0]) (v := .agg [.int .i64 0, .int .i64 0, .int .i64 0]) Z zeroValue23 Z Z Z ?_))))))
    intro p117
    refine ac0 Z Z (op_store (i := 0) (cs' := [.int .i64 t_.Limits.Args, .int .i64 t_.Limits.Bulk, .int .i64 t_.Limits.Line]) Z sizeOf23 (tm Z) (v := .agg [.int .i64 t_.Limits.Args, .int .i64 t_.Limits.Bulk, .int .i64 t_.Limits.Line]) (tm Z) Z Z Z (Nat.le_of_ble_eq_true Z) Z (aops_nil ?_))
    obtain ⟨s126, s126e, h127⟩ := bind_some h
    refine aw_meet (ν := Unit) (fun v => [(2, .bool s126)]) (fun v => []) ?_ ?_
    ·have h := s126e
     refine aw_region (ap (.bool s73) Z Z Z (pu_move Z (tm Z)) (ap (.bool s73) Z Z Z (pu_move Z (tm Z)) ?_))
     rcases Bool.eq_false_or_eq_true s73 with hb129 | hb129
     ·replace h := ite_t hb129 h
      refine aops_known 61 Z hb129 (agp (.bool s88) Z Z Z Z Z Z Z (pu_move Z (tm Z)) (ap (.bool s88) Z Z Z (pu_pick (b := true) Z (tm Z) (fun _ => (tm Z)) (fun h => nomatch h)) (ap (.bool s88) Z Z Z (pu_move Z (tm Z)) ?_)))
      rcases Bool.eq_false_or_eq_true s88 with hb130 | hb130
      ·replace h := ite_t hb130 h
       refine aops_known 64 Z hb130 (agp (.bool s107) Z Z Z Z Z Z Z (pu_move Z (tm Z)) (ap (.bool s107) Z Z Z (pu_pick (b := true) Z (tm Z) (fun _ => (tm Z)) (fun h => nomatch h)) (ap (.bool s107) Z Z Z (pu_move Z (tm Z)) ?_)))
       rcases Bool.eq_false_or_eq_true s107 with hb131 | hb131
       ·replace h := ite_t hb131 h
        refine aops_known 67 Z hb131 (agp (.ptr p117 0) Z Z Z Z Z Z Z (pu_fieldAddr Z underlying23 Z sizeOf3 (by decide) (tm Z) Z) (ag Z Z Z Z Z Z Z (op_load1 (i := 0) Z isAgg3 (tm Z) Z Z ?_)))
        obtain ⟨r132, r132e, h⟩ := bind_some h
        refine ag Z Z Z Z Z Z Z (op_call (vs := [.int .i64 t_.Limits.Args, .int .i64 1, .int .i64 65536]) (H := []) Z call66 ⟨(tm Z), (AEv.int _ _), (AEv.int _ _), trivial⟩ (List.Perm.refl _) (mewsref42.in_.ok r132e) ?_)
        rintro _ _ ⟨rfl, rfl⟩
        refine ap (.bool r132) Z Z Z (pu_pick (b := true) Z (tm Z) (fun _ => (tm Z)) (fun h => nomatch h)) (ap (.bool r132) Z Z Z (pu_move Z (tm Z)) ?_)
        rcases Bool.eq_false_or_eq_true r132 with hb133 | hb133
        ·replace h := ite_t hb133 h
         refine aops_known 72 Z hb133 (agp (.ptr p117 1) Z Z Z Z Z Z Z (pu_fieldAddr Z underlying23 Z sizeOf3 (by decide) (tm Z) Z) (ag Z Z Z Z Z Z Z (op_load1 (i := 0) Z isAgg3 (tm Z) Z Z ?_)))
         obtain ⟨r134, r134e, h⟩ := bind_some h
         refine ag Z Z Z Z Z Z Z (op_call (vs := [.int .i64 t_.Limits.Bulk, .int .i64 1, .int .i64 1048576]) (H := []) Z call66 ⟨(tm Z), (AEv.int _ _), (AEv.int _ _), trivial⟩ (List.Perm.refl _) (mewsref42.in_.ok r134e) ?_)
         rintro _ _ ⟨rfl, rfl⟩
         refine ap (.bool r134) Z Z Z (pu_pick (b := true) Z (tm Z) (fun _ => (tm Z)) (fun h => nomatch h)) (ap (.bool r134) Z Z Z (pu_move Z (tm Z)) ?_)
         rcases Bool.eq_false_or_eq_true r134 with hb135 | hb135
         ·replace h := ite_t hb135 h
          refine aops_known 77 Z hb135 (agp (.ptr p117 2) Z Z Z Z Z Z Z (pu_fieldAddr Z underlying23 Z sizeOf3 (by decide) (tm Z) Z) (ag Z Z Z Z Z Z Z (op_load1 (i := 0) Z isAgg3 (tm Z) Z Z ?_)))
          obtain ⟨r136, r136e, h⟩ := bind_some h
          refine ag Z Z Z Z Z Z Z (op_call (vs := [.int .i64 t_.Limits.Line, .int .i64 1, .int .i64 65536]) (H := []) Z call66 ⟨(tm Z), (AEv.int _ _), (AEv.int _ _), trivial⟩ (List.Perm.refl _) (mewsref42.in_.ok r136e) ?_)
          rintro _ _ ⟨rfl, rfl⟩
          refine ap (.bool r136) Z Z Z (pu_pick (b := true) Z (tm Z) (fun _ => (tm Z)) (fun h => nomatch h)) (ap (.bool r136) Z Z Z (pu_assign Z (tm Z)) (aops_nil ?_))
          obtain rfl := some_of h
          exact ⟨(), Weak.mkL [] (by decide) trivial ⟨AEv.tmp Z, trivial⟩⟩
         ·replace h := ite_fb hb135 h
          refine aops_known 77 Z hb135 (an Z Z Z Z Z Z Z Z (an Z Z Z Z Z Z Z Z (an Z Z Z Z Z Z Z Z (ap (.bool false) Z Z Z (pu_pick (b := false) Z (tm Z) (fun h => nomatch h) (fun _ => (AEv.bool _))) (ap (.bool false) Z Z Z (pu_assign Z (tm Z)) (aops_nil ?_))))))
          obtain rfl := some_of h
          exact ⟨(), Weak.mkL [] (by decide) trivial ⟨AEv.tmp Z, trivial⟩⟩
        ·replace h := ite_fb hb133 h
         refine aops_known 72 Z hb133 (an Z Z Z Z Z Z Z Z (an Z Z Z Z Z Z Z Z (an Z Z Z Z Z Z Z Z (ap (.bool false) Z Z Z (pu_pick (b := false) Z (tm Z) (fun h => nomatch h) (fun _ => (AEv.bool _))) (ap (.bool false) Z Z Z (pu_move Z (tm Z)) (an Z Z Z Z Z Z Z Z (an Z Z Z Z Z Z Z Z (an Z Z Z Z Z Z Z Z (ap (.bool false) Z Z Z (pu_pick (b := false) Z (tm Z) (fun h => nomatch h) (fun _ => (AEv.bool _))) ?_)))))))))
         refine ap (.bool false) Z Z Z (pu_assign Z (tm Z)) (aops_nil ?_)
         obtain rfl := some_of h
         exact ⟨(), Weak.mkL [] (by decide) trivial ⟨AEv.tmp Z, trivial⟩⟩
       ·replace h := ite_fb hb131 h
        refine aops_known 67 Z hb131 (an Z Z Z Z Z Z Z Z (an Z Z Z Z Z Z Z Z (an Z Z Z Z Z Z Z Z (ap (.bool false) Z Z Z (pu_pick (b := false) Z (tm Z) (fun h => nomatch h) (fun _ => (AEv.bool _))) (ap (.bool false) Z Z Z (pu_move Z (tm Z)) (an Z Z Z Z Z Z Z Z (an Z Z Z Z Z Z Z Z (an Z Z Z Z Z Z Z Z (ap (.bool false) Z Z Z (pu_pick (b := false) Z (tm Z) (fun h => nomatch h) (fun _ => (AEv.bool _))) ?_)))))))))
        refine ap (.bool false) Z Z Z (pu_move Z (tm Z)) (an Z Z Z Z Z Z Z Z (an Z Z Z Z Z Z Z Z (an Z Z Z Z Z Z Z Z (ap (.bool false) Z Z Z (pu_pick (b := false) Z (tm Z) (fun h => nomatch h) (fun _ => (AEv.bool _))) (ap (.bool false) Z Z Z (pu_assign Z (tm Z)) (aops_nil ?_))))))
        obtain rfl := some_of h
        exact ⟨(), Weak.mkL [] (by decide) trivial ⟨AEv.tmp Z, trivial⟩⟩
      ·replace h := ite_fb hb130 h
       refine aops_known 64 Z hb130 (an Z Z Z Z Z Z Z Z (ap (.bool false) Z Z Z (pu_pick (b := false) Z (tm Z) (fun h => nomatch h) (fun _ => (AEv.bool _))) (ap (.bool false) Z Z Z (pu_move Z (tm Z)) (an Z Z Z Z Z Z Z Z (an Z Z Z Z Z Z Z Z (an Z Z Z Z Z Z Z Z (ap (.bool false) Z Z Z (pu_pick (b := false) Z (tm Z) (fun h => nomatch h) (fun _ => (AEv.bool _))) (ap (.bool false) Z Z Z (pu_move Z (tm Z)) (an Z Z Z Z Z Z Z Z ?_)))))))))
       refine an Z Z Z Z Z Z Z Z (an Z Z Z Z Z Z Z Z (ap (.bool false) Z Z Z (pu_pick (b := false) Z (tm Z) (fun h => nomatch h) (fun _ => (AEv.bool _))) (ap (.bool false) Z Z Z (pu_move Z (tm Z)) (an Z Z Z Z Z Z Z Z (an Z Z Z Z Z Z Z Z (an Z Z Z Z Z Z Z Z (ap (.bool false) Z Z Z (pu_pick (b := false) Z (tm Z) (fun h => nomatch h) (fun _ => (AEv.bool _))) (ap (.bool false) Z Z Z (pu_assign Z (tm Z)) (aops_nil ?_)))))))))
       obtain rfl := some_of h
       exact ⟨(), Weak.mkL [] (by decide) trivial ⟨AEv.tmp Z, trivial⟩⟩
     ·replace h := ite_fb hb129 h
      refine aops_known 61 Z hb129 (an Z Z Z Z Z Z Z Z (ap (.bool false) Z Z Z (pu_pick (b := false) Z (tm Z) (fun h => nomatch h) (fun _ => (AEv.bool _))) (ap (.bool false) Z Z Z (pu_move Z (tm Z)) (an Z Z Z Z Z Z Z Z (ap (.bool false) Z Z Z (pu_pick (b := false) Z (tm Z) (fun h => nomatch h) (fun _ => (AEv.bool _))) (ap (.bool false) Z Z Z (pu_move Z (tm Z)) (an Z Z Z Z Z Z Z Z (an Z Z Z Z Z Z Z Z (an Z Z Z Z Z Z Z Z ?_)))))))))
      refine ap (.bool false) Z Z Z (pu_pick (b := false) Z (tm Z) (fun h => nomatch h) (fun _ => (AEv.bool _))) (ap (.bool false) Z Z Z (pu_move Z (tm Z)) (an Z Z Z Z Z Z Z Z (an Z Z Z Z Z Z Z Z (an Z Z Z Z Z Z Z Z (ap (.bool false) Z Z Z (pu_pick (b := false) Z (tm Z) (fun h => nomatch h) (fun _ => (AEv.bool _))) (ap (.bool false) Z Z Z (pu_move Z (tm Z)) (an Z Z Z Z Z Z Z Z (an Z Z Z Z Z Z Z Z (an Z Z Z Z Z Z Z Z ?_)))))))))
      refine ap (.bool false) Z Z Z (pu_pick (b := false) Z (tm Z) (fun h => nomatch h) (fun _ => (AEv.bool _))) (ap (.bool false) Z Z Z (pu_assign Z (tm Z)) (aops_nil ?_))
      obtain rfl := some_of h
      exact ⟨(), Weak.mkL [] (by decide) trivial ⟨AEv.tmp Z, trivial⟩⟩
    ·intro _
     have h := h127
     refine aw_ret ?_
     obtain rfl := some_of h
     exact ⟨[.bool s126], _, [], ⟨(tm Z), trivial⟩, (AV.Le.refl _), Weak.mkL [] (by decide) trivial trivial, ⟨Z, Z⟩⟩

theorem mewsref42.Right.ok {c_ : api.Config} {r : Int} (h : mewsref42.Right c_ = some r) : Go.Lift.Spec prog 44 [.agg [.sl .no 14 (c_.Tenants.map api.Tenant.av), .int .i64 c_.Quantum, .int .i64 c_.Deadline]] [] (fun v H => v = .int .i64 r ∧ H = []) := by
 unfold mewsref42.Right at h
 refine Go.Lift.Spec.of_body (rs := [.tmp 2]) func44 Z Z (Nat.le_of_ble_eq_true Z) Z (aw_seq (aw_region (ac Z Z Z (op_box (cs := [.sl .no 14 (c_.Tenants.map api.Tenant.av), .int .i64 c_.Quantum, .int .i64 c_.Deadline]) (v := .agg [.sl .no 14 (c_.Tenants.map api.Tenant.av), .int .i64 c_.Quantum, .int .i64 c_.Deadline]) Z (tm Z) Z Z ?_))))
 intro p568
 refine ap (.int .i64 0) Z Z Z (pu_assign Z (AEv.int _ _)) (aops_nil (aw_seq (aw_seq (aw_region (ap (.ptr p568 0) Z Z Z (pu_fieldAddr Z underlying78 Z sizeOf76 (by decide) (tm Z) Z) (ac Z Z Z (op_load1 (i := 0) Z isAgg76 (tm Z) Z Z (ap (.int .i64 (c_.Tenants.length : Int)) Z Z Z (pu_lenM Z underlying76 (tm Z)) ?_))))))))
 obtain ⟨r569, r569e, h⟩ := bind_some h
 refine ac Z Z Z (op_call (vs := [.int .i64 (c_.Tenants.length : Int), .int .i64 1, .int .i64 16]) (H := []) Z call66 ⟨(tm Z), (AEv.int _ _), (AEv.int _ _), trivial⟩ (List.Perm.refl _) (mewsref42.in_.ok r569e) ?_)
 rintro _ _ ⟨rfl, rfl⟩
 refine ap (.bool (!r569)) Z Z Z (pu_not Z (tm Z)) (aops_nil (aw_cond (b := (!r569)) (tm Z) (fun hb1134 => ?_) (fun hb1134 => ?_)))
 ·replace h := ite_t hb1134 h
  refine aw_seq (aw_region (ap (.int .i64 7) Z Z Z (pu_assign Z (AEv.int _ _)) (aops_nil (aw_ret ?_))))
  obtain rfl := some_of h
  exact ⟨[.int .i64 7], _, [], ⟨(tm Z), trivial⟩, (AV.Le.refl _), Weak.mkL [] (by decide) trivial trivial, ⟨Z, Z⟩⟩
 ·replace h := ite_fb hb1134 h
  refine aw_skip ?_
  obtain ⟨s1133, s1133e, h589⟩ := bind_some h
  refine aw_join (σ := Unit) (ν := Unit) (fun u v => [(1, .ptr p568 0)]) (fun u v => [(p568, .cells [.sl .no 14 (c_.Tenants.map api.Tenant.av), .int .i64 c_.Quantum, .int .i64 c_.Deadline])]) (fun u => s1133 = .inl u) ?_ ?_
  ·intro s588
   intro _
   rintro rfl
   have h := onSum_inl h589
   refine aw_seq ?_
   obtain ⟨s612, s612e, h613⟩ := bind_some h
   refine aw_meet (ν := Unit) (fun v => [(1, .ptr p568 0), (40, .bool s612)]) (fun v => [(p568, .cells [.sl .no 14 (c_.Tenants.map api.Tenant.av), .int .i64 c_.Quantum, .int .i64 c_.Deadline])]) ?_ ?_
   ·have h := s612e
    refine aw_region (ap (.ptr p568 1) Z Z Z (pu_fieldAddr Z underlying78 Z sizeOf3 (by decide) (tm Z) Z) (ac Z Z Z (op_load1 (i := 0) Z isAgg3 (tm Z) Z Z ?_)))
    obtain ⟨r615, r615e, h⟩ := bind_some h
    refine ac Z Z Z (op_call (vs := [.int .i64 c_.Quantum, .int .i64 1, .int .i64 1000]) (H := []) Z call66 ⟨(tm Z), (AEv.int _ _), (AEv.int _ _), trivial⟩ (List.Perm.refl _) (mewsref42.in_.ok r615e) ?_)
    rintro _ _ ⟨rfl, rfl⟩
    refine ap (.bool (!r615)) Z Z Z (pu_not Z (tm Z)) (ap (.bool (!r615)) Z Z Z (pu_move Z (tm Z)) ?_)
    rcases Bool.eq_false_or_eq_true (!r615) with hb616 | hb616
    ·replace h := ite_t hb616 h
     refine aops_known 31 Z hb616 (an Z Z Z Z Z Z Z Z (an Z Z Z Z Z Z Z Z (an Z Z Z Z Z Z Z Z (ap (.bool true) Z Z Z (pu_pick (b := true) Z (tm Z) (fun _ => (AEv.bool _)) (fun h => nomatch h)) (ap (.bool true) Z Z Z (pu_move Z (tm Z)) (an Z Z Z Z Z Z Z Z (an Z Z Z Z Z Z Z Z (an Z Z Z Z Z Z Z Z (ap (.bool true) Z Z Z (pu_pick (b := true) Z (tm Z) (fun _ => (AEv.bool _)) (fun h => nomatch h)) ?_)))))))))
     refine aops_nil ?_
     obtain rfl := some_of h
     exact ⟨(), Weak.mkL [0] (by decide) ⟨⟨_, Z, (CellsLe.refl _), Z⟩, trivial⟩ ⟨AEv.tmp Z, AEv.tmp Z, trivial⟩⟩
    ·replace h := ite_fb hb616 h
     refine aops_known 31 Z hb616 (agp (.ptr p568 2) Z Z Z Z Z Z Z (pu_fieldAddr Z underlying78 Z sizeOf2 (by decide) (tm Z) Z) (ag Z Z Z Z Z Z Z (op_load1 (i := 0) Z isAgg2 (tm Z) Z Z (agp (.bool (decide (c_.Deadline < 1))) Z Z Z Z Z Z Z (pu_int (v := .bool (decide (c_.Deadline < 1))) Z Z (tm Z) (AEv.int _ _) Z) (ap (.bool (decide (c_.Deadline < 1))) Z Z Z (pu_pick (b := false) Z (tm Z) (fun h => nomatch h) (fun _ => (tm Z))) (ap (.bool (decide (c_.Deadline < 1))) Z Z Z (pu_move Z (tm Z)) ?_))))))
     rcases Bool.eq_false_or_eq_true (decide (c_.Deadline < 1)) with hb617 | hb617
     ·replace h := ite_t (dec_t hb617) h
      refine aops_known 36 Z hb617 (an Z Z Z Z Z Z Z Z (an Z Z Z Z Z Z Z Z (an Z Z Z Z Z Z Z Z (ap (.bool true) Z Z Z (pu_pick (b := true) Z (tm Z) (fun _ => (AEv.bool _)) (fun h => nomatch h)) (aops_nil ?_)))))
      obtain rfl := some_of h
      exact ⟨(), Weak.mkL [0] (by decide) ⟨⟨_, Z, (CellsLe.refl _), Z⟩, trivial⟩ ⟨AEv.tmp Z, AEv.tmp Z, trivial⟩⟩
     ·replace h := ite_f (dec_f hb617) h
      refine aops_known 36 Z hb617 (agp (.ptr p568 2) Z Z Z Z Z Z Z (pu_fieldAddr Z underlying78 Z sizeOf2 (by decide) (tm Z) Z) (ag Z Z Z Z Z Z Z (op_load1 (i := 0) Z isAgg2 (tm Z) Z Z (agp (.bool (decide (1099511627776 < c_.Deadline))) Z Z Z Z Z Z Z (pu_int (v := .bool (decide (1099511627776 < c_.Deadline))) Z Z (tm Z) (AEv.int _ _) Z) (ap (.bool (decide (1099511627776 < c_.Deadline))) Z Z Z (pu_pick (b := false) Z (tm Z) (fun h => nomatch h) (fun _ => (tm Z))) (aops_nil ?_))))))
      obtain rfl := some_of h
      exact ⟨(), Weak.mkL [0] (by decide) ⟨⟨_, Z, (CellsLe.refl _), Z⟩, trivial⟩ ⟨AEv.tmp Z, (AEv.le (tm Z) (AV.Le.refl _)), trivial⟩⟩
   ·intro _
    have h := h613
    refine aw_cond (b := s612) (tm Z) (fun hb1132 => ?_) (fun hb1132 => ?_)
    ·replace h := ite_t hb1132 h
     refine aw_seq (aw_region (ap (.int .i64 1) Z Z Z (pu_assign Z (AEv.int _ _)) (aops_nil (aw_ret ?_))))
     obtain rfl := some_of h
     exact ⟨[.int .i64 1], _, [], ⟨(tm Z), trivial⟩, (AV.Le.refl _), Weak.mkL [] (by decide) trivial trivial, ⟨Z, Z⟩⟩
    ·replace h := ite_fb hb1132 h
     refine aw_skip ?_
     obtain ⟨s1131, s1131e, h874⟩ := bind_some h
     refine aw_join (σ := Unit) (ν := Unit) (fun u v => []) (fun u v => []) (fun u => s1131 = .inl u) ?_ ?_
     ·intro s873
      intro _
      rintro rfl
      have h := onSum_inl h874
      refine aw_seq (aw_region (ap (.int .i64 0) Z Z Z (pu_assign Z (AEv.int _ _)) (aops_nil (aw_ret ?_))))
      obtain rfl := some_of h
      exact ⟨[.int .i64 0], _, [], ⟨(tm Z), trivial⟩, (AV.Le.refl _), Weak.mkL [] (by decide) trivial trivial, ⟨Z, Z⟩⟩
     ·have h := s1131e
      refine aw_seq (aw_region (ap (.int .i64 0) Z Z Z (pu_assign Z (AEv.int _ _)) (aops_nil (aw_block (aw_while (σ := mewsref42.Right.S2) (ν := Unit) (mewsref42.Right.body2 c_) (fun s1044 v => [(1, .ptr p568 0), (4, .int .i64 s1044.i)]) (fun s1044 v => [(p568, .cells [.sl .no 14 (c_.Tenants.map api.Tenant.av), .int .i64 c_.Quantum, .int .i64 c_.Deadline])]) ⟨0⟩ () _ h (Weak.mkL [0] (by decide) ⟨⟨_, Z, (CellsLe.refl _), Z⟩, trivial⟩ ⟨AEv.tmp Z, AEv.tmp Z, trivial⟩) ?_)))))
      rintro s1044 _ x1046 h hx1045
      unfold mewsref42.Right.body2 at h
      refine aw_seq (aw_seq (aw_region (ap (.int .i64 s1044.i) Z Z Z (pu_move Z (tm Z)) (ap (.ptr p568 0) Z Z Z (pu_fieldAddr Z underlying78 Z sizeOf76 (by decide) (tm Z) Z) (ac Z Z Z (op_load1 (i := 0) Z isAgg76 (tm Z) Z Z (ap (.int .i64 (c_.Tenants.length : Int)) Z Z Z (pu_lenM Z underlying76 (tm Z)) (ap (.bool (decide (s1044.i < (c_.Tenants.length : Int)))) Z Z Z (pu_int (v := .bool (decide (s1044.i < (c_.Tenants.length : Int)))) Z Z (tm Z) (tm Z) Z) (aops_nil (aw_cond (b := decide (s1044.i < (c_.Tenants.length : Int))) (tm Z) (fun hb1130 => ?_) (fun hb1130 => ?_)))))))))))
      ·replace h := ite_t (dec_t hb1130) h
       refine aw_skip ?_
       obtain ⟨s1129, s1129e, h1088⟩ := bind_some h
       refine aw_join (σ := Unit) (ν := Unit) (fun u v => [(1, .ptr p568 0), (4, .int .i64 s1044.i)]) (fun u v => [(p568, .cells [.sl .no 14 (c_.Tenants.map api.Tenant.av), .int .i64 c_.Quantum, .int .i64 c_.Deadline])]) (fun u => s1129 = .inl u) ?_ ?_
       ·intro s1087
        intro _
        rintro rfl
        have h := onSum_inl h1088
        refine aw_region (ap (.int .i64 s1044.i) Z Z Z (pu_move Z (tm Z)) (ap (.int .i64 (IntKind.wrap .i64 (s1044.i + 1))) Z Z Z (pu_int (v := .int .i64 (IntKind.wrap .i64 (s1044.i + 1))) Z Z (tm Z) (AEv.int _ _) Z) (ap (.int .i64 (IntKind.wrap .i64 (s1044.i + 1))) Z Z Z (pu_assign Z (tm Z)) (aops_nil ?_))))
        obtain rfl := some_of h
        exact ⟨_, (), Z, Weak.mkL [0] (by decide) ⟨⟨_, Z, (CellsLe.refl _), Z⟩, trivial⟩ ⟨AEv.tmp Z, (AEv.le (tm Z) (AV.Le.refl _)), trivial⟩⟩
       ·have h := s1129e
        refine aw_block (aw_seq (aw_region (ap (.int .i64 s1044.i) Z Z Z (pu_move Z (tm Z)) (ap (.int .i64 (IntKind.wrap .i64 (s1044.i + 1))) Z Z Z (pu_int (v := .int .i64 (IntKind.wrap .i64 (s1044.i + 1))) Z Z (tm Z) (AEv.int _ _) Z) (ap (.int .i64 (IntKind.wrap .i64 (s1044.i + 1))) Z Z Z (pu_assign Z (tm Z)) (aops_nil (aw_block (aw_while (σ := mewsref42.Right.S4) (ν := Unit) (mewsref42.Right.body4 c_ s1044) (fun s1114 v => [(1, .ptr p568 0), (4, .int .i64 s1044.i), (5, .int .i64 s1114.k)]) (fun s1114 v => [(p568, .cells [.sl .no 14 (c_.Tenants.map api.Tenant.av), .int .i64 c_.Quantum, .int .i64 c_.Deadline])]) ⟨IntKind.wrap .i64 (s1044.i + 1)⟩ () _ h (Weak.mkL [0] (by decide) ⟨⟨_, Z, (CellsLe.refl _), Z⟩, trivial⟩ ⟨AEv.tmp Z, AEv.tmp Z, (AEv.le (tm Z) (AV.Le.refl _)), trivial⟩) ?_))))))))
        rintro s1114 _ x1116 h hx1115
        unfold mewsref42.Right.body4 at h
        refine aw_seq (aw_seq (aw_region (ap (.int .i64 s1114.k) Z Z Z (pu_move Z (tm Z)) (ap (.ptr p568 0) Z Z Z (pu_fieldAddr Z underlying78 Z sizeOf76 (by decide) (tm Z) Z) (ac Z Z Z (op_load1 (i := 0) Z isAgg76 (tm Z) Z Z (ap (.int .i64 (c_.Tenants.length : Int)) Z Z Z (pu_lenM Z underlying76 (tm Z)) (ap (.bool (decide (s1114.k < (c_.Tenants.length : Int)))) Z Z Z (pu_int (v := .bool (decide (s1114.k < (c_.Tenants.length : Int)))) Z Z (tm Z) (tm Z) Z) (aops_nil (aw_cond (b := decide (s1114.k < (c_.Tenants.length : Int))) (tm Z) (fun hb1128 => ?_) (fun hb1128 => ?_)))))))))))
        ·replace h := ite_t (dec_t hb1128) h
         refine aw_skip (aw_seq (aw_block (aw_seq ?_)))
         obtain ⟨c1118, h⟩ := need_of h
         obtain ⟨c1119, h⟩ := need_of h
         refine aw_reserve fun p1120 => (aw_reserve fun p1121 => (aw_plan (by decide +kernel) [([], some 57, [1]), ([0], some 58, [57]), ([], some 59, [4]), ([1, 2], some 60, [58, 59]), ([3], some 61, [60]), ([], some 62, [1]), ([5], some 63, [62]), ([], some 64, [5]), ([6, 7], some 65, [63, 64]), ([8], some 66, [65]), ([], some 6, []), ([], some 7, []), ([10, 4, 0, 1, 2, 3, 4, 10, 11], none, [6, 61]), ([11, 9, 12, 0, 1, 2, 3, 4, 5, 6, 7, 8, 9, 10, 11, 12], none, [7, 66])] Z [[], [0], [], [0, 1, 2], [0, 1, 2, 3], [], [5], [], [5, 6, 7], [5, 6, 7, 8], [], [], [0, 1, 2, 3, 4, 10, 11], [0, 1, 2, 3, 4, 5, 6, 7, 8, 9, 10, 11, 12]] [[], [(2, 0, false)], [], [], [], [], [(2, 0, false)], [], [], [], [(1, 0, true)], [(0, 0, true)], [(1, 1, true)], [(0, 1, true)]] [[11, 13], [10, 12], []] [[[(p1121, .resv)], [(p1121, .cells [.str ([] : List UInt8), .str ([] : List UInt8), .int .i64 0, .int .i64 0, .int .i64 0, .int .i64 0, .int .i64 0, .int .i64 0, .int .i64 0, .int .i64 0, .int .i64 0, .int .i64 0, .int .i64 0, .int .i64 0])], [(p1121, .cells (api.Tenant.ct (ix c_.Tenants s1114.k)))]], [[(p1120, .resv)], [(p1120, .cells [.str ([] : List UInt8), .str ([] : List UInt8), .int .i64 0, .int .i64 0, .int .i64 0, .int .i64 0, .int .i64 0, .int .i64 0, .int .i64 0, .int .i64 0, .int .i64 0, .int .i64 0, .int .i64 0, .int .i64 0])], [(p1120, .cells (api.Tenant.ct (ix c_.Tenants s1044.i)))]], [[(p568, .cells [.sl .no 14 (c_.Tenants.map api.Tenant.av), .int .i64 c_.Quantum, .int .i64 c_.Deadline])]]] [.ptr p568 0, .sl .no 14 (c_.Tenants.map api.Tenant.av), .int .i64 s1044.i, .vptr [.str (ix c_.Tenants s1044.i).Name, .str (ix c_.Tenants s1044.i).Token, .int .i64 (ix c_.Tenants s1044.i).Memory, .int .i64 (ix c_.Tenants s1044.i).Policy, .int .i64 (ix c_.Tenants s1044.i).Conns, .int .i64 (ix c_.Tenants s1044.i).In, .int .i64 (ix c_.Tenants s1044.i).Out, .int .i64 (ix c_.Tenants s1044.i).Burst, .int .i64 (ix c_.Tenants s1044.i).Rate, .int .i64 (ix c_.Tenants s1044.i).Disk, .int .i64 (ix c_.Tenants s1044.i).Sync, .int .i64 (ix c_.Tenants s1044.i).Limits.Args, .int .i64 (ix c_.Tenants s1044.i).Limits.Bulk, .int .i64 (ix c_.Tenants s1044.i).Limits.Line], .agg (api.Tenant.ct (ix c_.Tenants s1044.i)), .ptr p568 0, .sl .no 14 (c_.Tenants.map api.Tenant.av), .int .i64 s1114.k, .vptr [.str (ix c_.Tenants s1114.k).Name, .str (ix c_.Tenants s1114.k).Token, .int .i64 (ix c_.Tenants s1114.k).Memory, .int .i64 (ix c_.Tenants s1114.k).Policy, .int .i64 (ix c_.Tenants s1114.k).Conns, .int .i64 (ix c_.Tenants s1114.k).In, .int .i64 (ix c_.Tenants s1114.k).Out, .int .i64 (ix c_.Tenants s1114.k).Burst, .int .i64 (ix c_.Tenants s1114.k).Rate, .int .i64 (ix c_.Tenants s1114.k).Disk, .int .i64 (ix c_.Tenants s1114.k).Sync, .int .i64 (ix c_.Tenants s1114.k).Limits.Args, .int .i64 (ix c_.Tenants s1114.k).Limits.Bulk, .int .i64 (ix c_.Tenants s1114.k).Limits.Line], .agg (api.Tenant.ct (ix c_.Tenants s1114.k)), .ptr p1120 0, .ptr p1121 0, .un, .un] (by decide +kernel) Z Z ?_ ?_))
         ·refine ⟨⟨[1], Z, stepg_pure Z (pu_fieldAddr Z underlying78 Z sizeOf76 (by decide) (tm Z) Z)⟩, ?_⟩
          refine ⟨⟨[57], Z, stepg_plain Z (op_load1 (i := 0) Z isAgg76 (tm Z) Z Z ⟨Z, Z⟩)⟩, ?_⟩
          refine ⟨⟨[4], Z, stepg_pure Z (pu_move Z (tm Z))⟩, ?_⟩
          refine ⟨⟨[58, 59], Z, stepg_pure Z (pu_indexAddrM Z underlying76 sizeOf53 (tm Z) (tm Z) c1118 Z)⟩, ?_⟩
          refine ⟨⟨[60], Z, stepg_plain Z (op_loadVN Z isAgg53 sizeOf53 (tm Z) (Nat.le_of_ble_eq_true Z) Z ⟨Z, Z⟩)⟩, ?_⟩
          refine ⟨⟨[1], Z, stepg_pure Z (pu_fieldAddr Z underlying78 Z sizeOf76 (by decide) (tm Z) Z)⟩, ?_⟩
          refine ⟨⟨[62], Z, stepg_plain Z (op_load1 (i := 0) Z isAgg76 (tm Z) Z Z ⟨Z, Z⟩)⟩, ?_⟩
          refine ⟨⟨[5], Z, stepg_pure Z (pu_move Z (tm Z))⟩, ?_⟩
          refine ⟨⟨[63, 64], Z, stepg_pure Z (pu_indexAddrM Z underlying76 sizeOf53 (tm Z) (tm Z) c1119 Z)⟩, ?_⟩
          refine ⟨⟨[65], Z, stepg_plain Z (op_loadVN Z isAgg53 sizeOf53 (tm Z) (Nat.le_of_ble_eq_true Z) Z ⟨Z, Z⟩)⟩, ?_⟩
          refine ⟨⟨[], Z, stepg_plain Z (aop_settleP (op_alloc (cs := [.str ([] : List UInt8), .str ([] : List UInt8), .int .i64 0, .int .i64 0, .int .i64 0, .int .i64 0, .int .i64 0, .int .i64 0, .int .i64 0, .int .i64 0, .int .i64 0, .int .i64 0, .int .i64 0, .int .i64 0]) (v := .agg [.str ([] : List UInt8), .str ([] : List UInt8), .int .i64 0, .int .i64 0, .int .i64 0, .int .i64 0, .int .i64 0, .int .i64 0, .int .i64 0, .int .i64 0, .int .i64 0, .int .i64 0, .int .i64 0, .int .i64 0]) Z zeroValue53 Z Z Z fun t => ⟨t, Z, Z⟩) ⟨Z, Z⟩)⟩, ?_⟩
          refine ⟨⟨[], Z, stepg_plain Z (aop_settleP (op_alloc (cs := [.str ([] : List UInt8), .str ([] : List UInt8), .int .i64 0, .int .i64 0, .int .i64 0, .int .i64 0, .int .i64 0, .int .i64 0, .int .i64 0, .int .i64 0, .int .i64 0, .int .i64 0, .int .i64 0, .int .i64 0]) (v := .agg [.str ([] : List UInt8), .str ([] : List UInt8), .int .i64 0, .int .i64 0, .int .i64 0, .int .i64 0, .int .i64 0, .int .i64 0, .int .i64 0, .int .i64 0, .int .i64 0, .int .i64 0, .int .i64 0, .int .i64 0]) Z zeroValue53 Z Z Z fun t => ⟨t, Z, Z⟩) ⟨Z, Z⟩)⟩, ?_⟩
          refine ⟨⟨[6, 61], Z, stepg_plain Z (op_store (i := 0) (cs' := (api.Tenant.ct (ix c_.Tenants s1044.i))) Z sizeOf53 (tm Z) (v := .agg (api.Tenant.ct (ix c_.Tenants s1044.i))) (tm Z) Z Z Z (Nat.le_of_ble_eq_true Z) Z ⟨Z, Z⟩)⟩, ?_⟩
          refine ⟨⟨[7, 66], Z, stepg_plain Z (op_store (i := 0) (cs' := (api.Tenant.ct (ix c_.Tenants s1114.k))) Z sizeOf53 (tm Z) (v := .agg (api.Tenant.ct (ix c_.Tenants s1114.k))) (tm Z) Z Z Z (Nat.le_of_ble_eq_true Z) Z ⟨Z, Z⟩)⟩, ?_⟩
          trivial
         obtain ⟨s1123, s1123e, h1124⟩ := letO_of h
         refine aw_meet (ν := Unit) (fun v => [(1, .ptr p568 0), (4, .int .i64 s1044.i), (5, .int .i64 s1114.k), (78, .bool s1123)]) (fun v => [(p568, .cells [.sl .no 14 (c_.Tenants.map api.Tenant.av), .int .i64 c_.Quantum, .int .i64 c_.Deadline])]) ?_ ?_
         ·have h := s1123e.symm
          refine aw_region (ap (.ptr p1120 0) Z Z Z (pu_fieldAddr Z underlying53 Z sizeOf9 (by decide) (tm Z) Z) (ac Z Z Z (op_load1 (i := 1) Z isAgg9 (tm Z) Z Z (ap (.ptr p1121 0) Z Z Z (pu_fieldAddr Z underlying53 Z sizeOf9 (by decide) (tm Z) Z) (ac Z Z Z (op_load1 (i := 0) Z isAgg9 (tm Z) Z Z (ap (.bool (decide ((ix c_.Tenants s1044.i).Name = (ix c_.Tenants s1114.k).Name))) Z Z Z (pu_str (v := .bool (decide ((ix c_.Tenants s1044.i).Name = (ix c_.Tenants s1114.k).Name))) Z Z (tm Z) (tm Z) Z) (ap (.bool (decide ((ix c_.Tenants s1044.i).Name = (ix c_.Tenants s1114.k).Name))) Z Z Z (pu_move Z (tm Z)) ?_))))))))
          rcases Bool.eq_false_or_eq_true (decide ((ix c_.Tenants s1044.i).Name = (ix c_.Tenants s1114.k).Name)) with hb1126 | hb1126
          ·replace h := ite_t (dec_t hb1126) h
           refine aops_known 72 Z hb1126 (an Z Z Z Z Z Z Z Z (an Z Z Z Z Z Z Z Z (an Z Z Z Z Z Z Z Z (an Z Z Z Z Z Z Z Z (an Z Z Z Z Z Z Z Z (ap (.bool true) Z Z Z (pu_pick (b := true) Z (tm Z) (fun _ => (AEv.bool _)) (fun h => nomatch h)) (aops_nil ?_)))))))
           subst h
           exact ⟨(), Weak.mkL [2] (by decide) ⟨⟨_, Z, (CellsLe.refl _), Z⟩, trivial⟩ ⟨AEv.tmp Z, AEv.tmp Z, AEv.tmp Z, AEv.tmp Z, trivial⟩⟩
          ·replace h := ite_f (dec_f hb1126) h
           refine aops_known 72 Z hb1126 (agp (.ptr p1120 1) Z Z Z Z Z Z Z (pu_fieldAddr Z underlying53 Z sizeOf9 (by decide) (tm Z) Z) (ag Z Z Z Z Z Z Z (op_load1 (i := 1) Z isAgg9 (tm Z) Z Z (agp (.ptr p1121 1) Z Z Z Z Z Z Z (pu_fieldAddr Z underlying53 Z sizeOf9 (by decide) (tm Z) Z) (ag Z Z Z Z Z Z Z (op_load1 (i := 0) Z isAgg9 (tm Z) Z Z (agp (.bool (decide ((ix c_.Tenants s1044.i).Token = (ix c_.Tenants s1114.k).Token))) Z Z Z Z Z Z Z (pu_str (v := .bool (decide ((ix c_.Tenants s1044.i).Token = (ix c_.Tenants s1114.k).Token))) Z Z (tm Z) (tm Z) Z) (ap (.bool (decide ((ix c_.Tenants s1044.i).Token = (ix c_.Tenants s1114.k).Token))) Z Z Z (pu_pick (b := false) Z (tm Z) (fun h => nomatch h) (fun _ => (tm Z))) (aops_nil ?_)))))))))
           subst h
           exact ⟨(), Weak.mkL [2] (by decide) ⟨⟨_, Z, (CellsLe.refl _), Z⟩, trivial⟩ ⟨AEv.tmp Z, AEv.tmp Z, AEv.tmp Z, (AEv.le (tm Z) (AV.Le.refl _)), trivial⟩⟩
         ·intro _
          have h := h1124
          refine aw_cond (b := s1123) (tm Z) (fun hb1127 => ?_) (fun hb1127 => ?_)
          ·replace h := ite_t hb1127 h
           refine aw_seq (aw_region (ap (.int .i64 9) Z Z Z (pu_assign Z (AEv.int _ _)) (aops_nil (aw_ret ?_))))
           obtain rfl := some_of h
           have h := congrArg some (hx1115 _ rfl)
           obtain rfl := some_of h
           have h := onSum_inr h1088
           obtain rfl := some_of h
           have h := congrArg some (hx1045 _ rfl)
           obtain rfl := some_of h
           have h := onSum_inr h874
           obtain rfl := some_of h
           exact ⟨[.int .i64 9], _, [], ⟨(tm Z), trivial⟩, (AV.Le.refl _), Weak.mkL [] (by decide) trivial trivial, ⟨Z, Z⟩⟩
          ·replace h := ite_fb hb1127 h
           refine aw_skip (aw_region (ap (.int .i64 s1114.k) Z Z Z (pu_move Z (tm Z)) (ap (.int .i64 (IntKind.wrap .i64 (s1114.k + 1))) Z Z Z (pu_int (v := .int .i64 (IntKind.wrap .i64 (s1114.k + 1))) Z Z (tm Z) (AEv.int _ _) Z) (ap (.int .i64 (IntKind.wrap .i64 (s1114.k + 1))) Z Z Z (pu_assign Z (tm Z)) (aops_nil ?_)))))
           obtain rfl := some_of h
           exact ⟨_, (), Z, Weak.mkL [0] (by decide) ⟨⟨_, Z, (CellsLe.refl _), Z⟩, trivial⟩ ⟨AEv.tmp Z, AEv.tmp Z, (AEv.le (tm Z) (AV.Le.refl _)), trivial⟩⟩
        ·replace h := ite_f (dec_f hb1128) h
         refine aw_exit ?_
         obtain rfl := some_of h
         have h := congrArg some (hx1115 _ rfl)
         exact ⟨(), (), (some_of h).symm, Weak.mkL [0] (by decide) ⟨⟨_, Z, (CellsLe.refl _), Z⟩, trivial⟩ ⟨AEv.tmp Z, AEv.tmp Z, trivial⟩⟩
      ·replace h := ite_f (dec_f hb1130) h
       refine aw_exit ?_
       obtain rfl := some_of h
       have h := congrArg some (hx1045 _ rfl)
       exact ⟨(), (), (some_of h).symm, Weak.mkL [] (by decide) trivial trivial⟩
  ·have h := s1133e
   refine aw_seq (aw_region (ap (.int .i64 0) Z Z Z (pu_assign Z (AEv.int _ _)) (aops_nil (aw_block (aw_while (σ := mewsref42.Right.S0) (ν := Unit) (mewsref42.Right.body0 c_) (fun s601 v => [(1, .ptr p568 0), (3, .int .i64 s601.i)]) (fun s601 v => [(p568, .cells [.sl .no 14 (c_.Tenants.map api.Tenant.av), .int .i64 c_.Quantum, .int .i64 c_.Deadline])]) ⟨0⟩ () _ h (Weak.mkL [0] (by decide) ⟨⟨_, Z, (CellsLe.refl _), Z⟩, trivial⟩ ⟨AEv.tmp Z, AEv.tmp Z, trivial⟩) ?_)))))
   rintro s601 _ x603 h hx602
   unfold mewsref42.Right.body0 at h
   refine aw_seq (aw_seq (aw_region (ap (.int .i64 s601.i) Z Z Z (pu_move Z (tm Z)) (ap (.ptr p568 0) Z Z Z (pu_fieldAddr Z underlying78 Z sizeOf76 (by decide) (tm Z) Z) (ac Z Z Z (op_load1 (i := 0) Z isAgg76 (tm Z) Z Z (ap (.int .i64 (c_.Tenants.length : Int)) Z Z Z (pu_lenM Z underlying76 (tm Z)) (ap (.bool (decide (s601.i < (c_.Tenants.length : Int)))) Z Z Z (pu_int (v := .bool (decide (s601.i < (c_.Tenants.length : Int)))) Z Z (tm Z) (tm Z) Z) (aops_nil (aw_cond (b := decide (s601.i < (c_.Tenants.length : Int))) (tm Z) (fun hb608 => ?_) (fun hb608 => ?_)))))))))))
   ·replace h := ite_t (dec_t hb608) h
    refine aw_skip (aw_seq (aw_block (aw_seq (aw_region (ap (.ptr p568 0) Z Z Z (pu_fieldAddr Z underlying78 Z sizeOf76 (by decide) (tm Z) Z) (ac Z Z Z (op_load1 (i := 0) Z isAgg76 (tm Z) Z Z (ap (.int .i64 s601.i) Z Z Z (pu_move Z (tm Z)) ?_))))))))
    obtain ⟨c605, h⟩ := need_of h
    refine ap (.vptr [.str (ix c_.Tenants s601.i).Name, .str (ix c_.Tenants s601.i).Token, .int .i64 (ix c_.Tenants s601.i).Memory, .int .i64 (ix c_.Tenants s601.i).Policy, .int .i64 (ix c_.Tenants s601.i).Conns, .int .i64 (ix c_.Tenants s601.i).In, .int .i64 (ix c_.Tenants s601.i).Out, .int .i64 (ix c_.Tenants s601.i).Burst, .int .i64 (ix c_.Tenants s601.i).Rate, .int .i64 (ix c_.Tenants s601.i).Disk, .int .i64 (ix c_.Tenants s601.i).Sync, .int .i64 (ix c_.Tenants s601.i).Limits.Args, .int .i64 (ix c_.Tenants s601.i).Limits.Bulk, .int .i64 (ix c_.Tenants s601.i).Limits.Line]) Z Z Z (pu_indexAddrM Z underlying76 sizeOf53 (tm Z) (tm Z) c605 Z) (ac Z Z Z (op_loadVN Z isAgg53 sizeOf53 (tm Z) (Nat.le_of_ble_eq_true Z) Z ?_))
    obtain ⟨r606, r606e, h⟩ := bind_some h
    refine ac Z Z Z (op_call (vs := [.agg (api.Tenant.ct (ix c_.Tenants s601.i))]) (H := []) Z call67 ⟨(tm Z), trivial⟩ (List.Perm.refl _) (mewsref42.May.ok r606e) ?_)
    rintro _ _ ⟨rfl, rfl⟩
    refine ap (.bool (!r606)) Z Z Z (pu_not Z (tm Z)) (aops_nil (aw_cond (b := (!r606)) (tm Z) (fun hb607 => ?_) (fun hb607 => ?_)))
    ·replace h := ite_t hb607 h
     refine aw_seq (aw_region (ap (.int .i64 1) Z Z Z (pu_assign Z (AEv.int _ _)) (aops_nil (aw_ret ?_))))
     obtain rfl := some_of h
     have h := congrArg some (hx602 _ rfl)
     obtain rfl := some_of h
     have h := onSum_inr h589
     obtain rfl := some_of h
     exact ⟨[.int .i64 1], _, [], ⟨(tm Z), trivial⟩, (AV.Le.refl _), Weak.mkL [] (by decide) trivial trivial, ⟨Z, Z⟩⟩
    ·replace h := ite_fb hb607 h
     refine aw_skip (aw_region (ap (.int .i64 s601.i) Z Z Z (pu_move Z (tm Z)) (ap (.int .i64 (IntKind.wrap .i64 (s601.i + 1))) Z Z Z (pu_int (v := .int .i64 (IntKind.wrap .i64 (s601.i + 1))) Z Z (tm Z) (AEv.int _ _) Z) (ap (.int .i64 (IntKind.wrap .i64 (s601.i + 1))) Z Z Z (pu_assign Z (tm Z)) (aops_nil ?_)))))
     obtain rfl := some_of h
     exact ⟨_, (), Z, Weak.mkL [0] (by decide) ⟨⟨_, Z, (CellsLe.refl _), Z⟩, trivial⟩ ⟨AEv.tmp Z, (AEv.le (tm Z) (AV.Le.refl _)), trivial⟩⟩
   ·replace h := ite_f (dec_f hb608) h
    refine aw_exit ?_
    obtain rfl := some_of h
    have h := congrArg some (hx602 _ rfl)
    exact ⟨(), (), (some_of h).symm, Weak.mkL [0] (by decide) ⟨⟨_, Z, (CellsLe.refl _), Z⟩, trivial⟩ ⟨AEv.tmp Z, trivial⟩⟩

theorem mewslaw42.AuthOwn.ok {c_ : api.Config} {at_ : Int} {behind : List UInt8} {line_ : Bool} {r : Bool} (h : mewslaw42.AuthOwn c_ at_ behind line_ = some r) : Go.Lift.Spec prog 12 [.agg [.sl .no 14 (c_.Tenants.map api.Tenant.av), .int .i64 c_.Quantum, .int .i64 c_.Deadline], .int .i64 at_, .str behind, .bool line_] [] (fun v H => v = .bool r ∧ H = []) := by
 unfold mewslaw42.AuthOwn at h
 refine Go.Lift.Spec.of_body (rs := [.tmp 8]) func12 Z Z (Nat.le_of_ble_eq_true Z) Z (aw_seq (aw_region (ac Z Z Z (op_box (cs := [.sl .no 14 (c_.Tenants.map api.Tenant.av), .int .i64 c_.Quantum, .int .i64 c_.Deadline]) (v := .agg [.sl .no 14 (c_.Tenants.map api.Tenant.av), .int .i64 c_.Quantum, .int .i64 c_.Deadline]) Z (tm Z) Z Z ?_))))
 intro p81
 refine ap (.bool false) Z Z Z (pu_assign Z (AEv.bool _)) (aops_nil (aw_seq ?_))
 obtain ⟨s85, s85e, h86⟩ := bind_some h
 refine aw_meet (ν := Unit) (fun v => [(1, .int .i64 at_), (2, .str behind), (3, .bool line_), (4, .ptr p81 0), (24, .bool s85)]) (fun v => [(p81, .cells [.sl .no 14 (c_.Tenants.map api.Tenant.av), .int .i64 c_.Quantum, .int .i64 c_.Deadline])]) ?_ ?_
 ·have h := s85e
  refine aw_region (ac Z Z Z (op_loadN (i := 0) Z isAgg78 sizeOf78 (tm Z) Z (Nat.le_of_ble_eq_true Z) Z (ap (.str behind) Z Z Z (pu_move Z (tm Z)) (ac Z Z Z (op_buildSlice (xs := ([behind] : List (List UInt8)).map AV.str) (aparts := [(0, .str behind)]) Z underlying26 sizeOf9 zeroValue9 (by decide) (by decide) ⟨Z, (tm Z), trivial⟩ Z Z Z ?_)))))
  obtain ⟨r88, r88e, h⟩ := bind_some h
  refine ac Z Z Z (op_call (vs := [.agg [.sl .no 14 (c_.Tenants.map api.Tenant.av), .int .i64 c_.Quantum, .int .i64 c_.Deadline], .sl .no 1 ([behind].map AV.str)]) (H := []) Z call41 ⟨(tm Z), (AEv.le (tm Z) (AV.Le.forget _ _ _)), trivial⟩ (List.Perm.refl _) (mewslaw42.far.ok r88e) ?_)
  rintro _ _ ⟨rfl, rfl⟩
  refine ap (.bool r88) Z Z Z (pu_move Z (tm Z)) ?_
  rcases Bool.eq_false_or_eq_true r88 with hb89 | hb89
  ·replace h := ite_t hb89 h
   refine aops_known 20 Z hb89 (an Z Z Z Z Z Z Z Z (an Z Z Z Z Z Z Z Z (an Z Z Z Z Z Z Z Z (ap (.bool true) Z Z Z (pu_pick (b := true) Z (tm Z) (fun _ => (AEv.bool _)) (fun h => nomatch h)) (aops_nil ?_)))))
   obtain rfl := some_of h
   exact ⟨(), Weak.mkL [0] (by decide) ⟨⟨_, Z, (CellsLe.refl _), Z⟩, trivial⟩ ⟨AEv.tmp Z, AEv.tmp Z, AEv.tmp Z, AEv.tmp Z, AEv.tmp Z, trivial⟩⟩
  ·replace h := ite_fb hb89 h
   refine aops_known 20 Z hb89 (ag Z Z Z Z Z Z Z (op_loadN (i := 0) Z isAgg78 sizeOf78 (tm Z) Z (Nat.le_of_ble_eq_true Z) Z ?_))
   obtain ⟨r90, r90e, h⟩ := bind_some h
   refine ag Z Z Z Z Z Z Z (op_call (vs := [.agg [.sl .no 14 (c_.Tenants.map api.Tenant.av), .int .i64 c_.Quantum, .int .i64 c_.Deadline]]) (H := []) Z call43 ⟨(tm Z), trivial⟩ (List.Perm.refl _) (auth.Right.ok r90e) ?_)
   rintro _ _ ⟨rfl, rfl⟩
   refine agp (.bool (!decide (r90 = 0))) Z Z Z Z Z Z Z (pu_int (v := .bool (!decide (r90 = 0))) Z Z (tm Z) (AEv.int _ _) Z) (ap (.bool (!decide (r90 = 0))) Z Z Z (pu_pick (b := false) Z (tm Z) (fun h => nomatch h) (fun _ => (tm Z))) (aops_nil ?_))
   obtain rfl := some_of h
   exact ⟨(), Weak.mkL [0] (by decide) ⟨⟨_, Z, (CellsLe.refl _), Z⟩, trivial⟩ ⟨AEv.tmp Z, AEv.tmp Z, AEv.tmp Z, AEv.tmp Z, AEv.tmp Z, trivial⟩⟩
 ·intro _
  have h := h86
  refine aw_cond (b := s85) (tm Z) (fun hb160 => ?_) (fun hb160 => ?_)
  ·replace h := ite_t hb160 h
   obtain ⟨s106, s106e, h107⟩ := bind_some h
   refine aw_meet (ν := Unit) (fun v => [(8, .bool s106)]) (fun v => []) ?_ ?_
   ·have h := s106e
    refine aw_region (ac Z Z Z (op_loadN (i := 0) Z isAgg78 sizeOf78 (tm Z) Z (Nat.le_of_ble_eq_true Z) Z ?_))
    obtain ⟨r109, r109e, h⟩ := bind_some h
    refine ac Z Z Z (op_call (vs := [.agg [.sl .no 14 (c_.Tenants.map api.Tenant.av), .int .i64 c_.Quantum, .int .i64 c_.Deadline]]) (H := []) Z call44 ⟨(tm Z), trivial⟩ (List.Perm.refl _) (mewsref42.Right.ok r109e) ?_)
    rintro _ _ ⟨rfl, rfl⟩
    refine ap (.bool (!decide (r109 = 0))) Z Z Z (pu_int (v := .bool (!decide (r109 = 0))) Z Z (tm Z) (AEv.int _ _) Z) (ap (.bool (!decide (r109 = 0))) Z Z Z (pu_move Z (tm Z)) ?_)
    rcases Bool.eq_false_or_eq_true (!decide (r109 = 0)) with hb110 | hb110
    ·replace h := ite_f (ndec_t hb110) h
     refine aops_known 28 Z hb110 (ag Z Z Z Z Z Z Z (op_loadN (i := 0) Z isAgg78 sizeOf78 (tm Z) Z (Nat.le_of_ble_eq_true Z) Z ?_))
     obtain ⟨r111, r111e, h⟩ := bind_some h
     refine ag Z Z Z Z Z Z Z (op_call (vs := [.agg [.sl .no 14 (c_.Tenants.map api.Tenant.av), .int .i64 c_.Quantum, .int .i64 c_.Deadline], .sl .no 1 (([] : List (List UInt8)).map AV.str)]) (H := []) Z call41 ⟨(tm Z), (AEv.le (AEv.nil 1 (by decide)) (AV.Le.forget _ _ _)), trivial⟩ (List.Perm.refl _) (mewslaw42.far.ok r111e) ?_)
     rintro _ _ ⟨rfl, rfl⟩
     refine agp (.bool (!r111)) Z Z Z Z Z Z Z (pu_not Z (tm Z)) (ap (.bool (!r111)) Z Z Z (pu_pick (b := true) Z (tm Z) (fun _ => (tm Z)) (fun h => nomatch h)) (ap (.bool (!r111)) Z Z Z (pu_move Z (tm Z)) ?_))
     rcases Bool.eq_false_or_eq_true (!r111) with hb112 | hb112
     ·replace h := ite_t hb112 h
      refine aops_known 33 Z hb112 ?_
      obtain ⟨r113, r113e, h⟩ := bind_some h
      refine ag Z Z Z Z Z Z Z (op_call (vs := []) (H := []) Z call42 trivial (List.Perm.refl _) (mewslaw42.alive.ok r113e) ?_)
      rintro _ _ ⟨rfl, rfl⟩
      refine ap (.bool r113) Z Z Z (pu_pick (b := true) Z (tm Z) (fun _ => (tm Z)) (fun h => nomatch h)) (ap (.bool r113) Z Z Z (pu_move Z (tm Z)) ?_)
      rcases Bool.eq_false_or_eq_true r113 with hb114 | hb114
      ·replace h := ite_t hb114 h
       refine aops_known 36 Z hb114 (an Z Z Z Z Z Z Z Z (an Z Z Z Z Z Z Z Z (an Z Z Z Z Z Z Z Z (an Z Z Z Z Z Z Z Z (an Z Z Z Z Z Z Z Z (an2 Z Z Z Z Z Z Z (an Z Z Z Z Z Z Z Z (ap (.bool true) Z Z Z (pu_pick (b := true) Z (tm Z) (fun _ => (AEv.bool _)) (fun h => nomatch h)) (ap (.bool true) Z Z Z (pu_assign Z (tm Z)) ?_)))))))))
       refine aops_nil ?_
       obtain rfl := some_of h
       exact ⟨(), Weak.mkL [] (by decide) trivial ⟨AEv.tmp Z, trivial⟩⟩
      ·replace h := ite_fb hb114 h
       refine aops_known 36 Z hb114 (ag Z Z Z Z Z Z Z (op_loadN (i := 0) Z isAgg78 sizeOf78 (tm Z) Z (Nat.le_of_ble_eq_true Z) Z (agp (.str behind) Z Z Z Z Z Z Z (pu_move Z (tm Z)) (ag Z Z Z Z Z Z Z (op_buildSlice (xs := ([behind] : List (List UInt8)).map AV.str) (aparts := [(0, .str behind)]) Z underlying26 sizeOf9 zeroValue9 (by decide) (by decide) ⟨Z, (tm Z), trivial⟩ Z Z Z ?_)))))
       obtain ⟨r115, r115e, h⟩ := bind_some h
       refine ag Z Z Z Z Z Z Z (op_call (vs := [.agg [.sl .no 14 (c_.Tenants.map api.Tenant.av), .int .i64 c_.Quantum, .int .i64 c_.Deadline], .sl .no 1 ([behind].map AV.str)]) (H := []) Z call41 ⟨(tm Z), (AEv.le (tm Z) (AV.Le.forget _ _ _)), trivial⟩ (List.Perm.refl _) (mewslaw42.far.ok r115e) ?_)
       rintro _ _ ⟨rfl, rfl⟩
       refine agp (.bool r115) Z Z Z Z Z Z Z (pu_move Z (tm Z)) ?_
       rcases Bool.eq_false_or_eq_true r115 with hb116 | hb116
       ·replace h := ite_t hb116 h
        refine aops_known 41 Z hb116 ?_
        obtain ⟨r117, r117e, h⟩ := bind_some h
        refine ag Z Z Z Z Z Z Z (op_call (vs := []) (H := []) Z call42 trivial (List.Perm.refl _) (mewslaw42.alive.ok r117e) ?_)
        rintro _ _ ⟨rfl, rfl⟩
        refine agp (.bool r117) Z Z Z Z Z Z Z (pu_pick (b := true) Z (tm Z) (fun _ => (tm Z)) (fun h => nomatch h)) (ap (.bool r117) Z Z Z (pu_pick (b := false) Z (tm Z) (fun h => nomatch h) (fun _ => (tm Z))) (ap (.bool r117) Z Z Z (pu_assign Z (tm Z)) (aops_nil ?_)))
        obtain rfl := some_of h
        exact ⟨(), Weak.mkL [] (by decide) trivial ⟨AEv.tmp Z, trivial⟩⟩
       ·replace h := ite_fb hb116 h
        refine aops_known 41 Z hb116 (an Z Z Z Z Z Z Z Z (agp (.bool false) Z Z Z Z Z Z Z (pu_pick (b := false) Z (tm Z) (fun h => nomatch h) (fun _ => (AEv.bool _))) (ap (.bool false) Z Z Z (pu_pick (b := false) Z (tm Z) (fun h => nomatch h) (fun _ => (tm Z))) (ap (.bool false) Z Z Z (pu_assign Z (tm Z)) (aops_nil ?_)))))
        obtain rfl := some_of h
        exact ⟨(), Weak.mkL [] (by decide) trivial ⟨AEv.tmp Z, trivial⟩⟩
     ·replace h := ite_fb hb112 h
      refine aops_known 33 Z hb112 (an Z Z Z Z Z Z Z Z (ap (.bool false) Z Z Z (pu_pick (b := false) Z (tm Z) (fun h => nomatch h) (fun _ => (AEv.bool _))) (ap (.bool false) Z Z Z (pu_move Z (tm Z)) (ag Z Z Z Z Z Z Z (op_loadN (i := 0) Z isAgg78 sizeOf78 (tm Z) Z (Nat.le_of_ble_eq_true Z) Z (agp (.str behind) Z Z Z Z Z Z Z (pu_move Z (tm Z)) (ag Z Z Z Z Z Z Z (op_buildSlice (xs := ([behind] : List (List UInt8)).map AV.str) (aparts := [(0, .str behind)]) Z underlying26 sizeOf9 zeroValue9 (by decide) (by decide) ⟨Z, (tm Z), trivial⟩ Z Z Z ?_))))))))
      obtain ⟨r118, r118e, h⟩ := bind_some h
      refine ag Z Z Z Z Z Z Z (op_call (vs := [.agg [.sl .no 14 (c_.Tenants.map api.Tenant.av), .int .i64 c_.Quantum, .int .i64 c_.Deadline], .sl .no 1 ([behind].map AV.str)]) (H := []) Z call41 ⟨(tm Z), (AEv.le (tm Z) (AV.Le.forget _ _ _)), trivial⟩ (List.Perm.refl _) (mewslaw42.far.ok r118e) ?_)
      rintro _ _ ⟨rfl, rfl⟩
      refine agp (.bool r118) Z Z Z Z Z Z Z (pu_move Z (tm Z)) ?_
      rcases Bool.eq_false_or_eq_true r118 with hb119 | hb119
      ·replace h := ite_t hb119 h
       refine aops_known 41 Z hb119 ?_
       obtain ⟨r120, r120e, h⟩ := bind_some h
       refine ag Z Z Z Z Z Z Z (op_call (vs := []) (H := []) Z call42 trivial (List.Perm.refl _) (mewslaw42.alive.ok r120e) ?_)
       rintro _ _ ⟨rfl, rfl⟩
       refine agp (.bool r120) Z Z Z Z Z Z Z (pu_pick (b := true) Z (tm Z) (fun _ => (tm Z)) (fun h => nomatch h)) (ap (.bool r120) Z Z Z (pu_pick (b := false) Z (tm Z) (fun h => nomatch h) (fun _ => (tm Z))) (ap (.bool r120) Z Z Z (pu_assign Z (tm Z)) (aops_nil ?_)))
       obtain rfl := some_of h
       exact ⟨(), Weak.mkL [] (by decide) trivial ⟨AEv.tmp Z, trivial⟩⟩
      ·replace h := ite_fb hb119 h
       refine aops_known 41 Z hb119 (an Z Z Z Z Z Z Z Z (agp (.bool false) Z Z Z Z Z Z Z (pu_pick (b := false) Z (tm Z) (fun h => nomatch h) (fun _ => (AEv.bool _))) (ap (.bool false) Z Z Z (pu_pick (b := false) Z (tm Z) (fun h => nomatch h) (fun _ => (tm Z))) (ap (.bool false) Z Z Z (pu_assign Z (tm Z)) (aops_nil ?_)))))
       obtain rfl := some_of h
       exact ⟨(), Weak.mkL [] (by decide) trivial ⟨AEv.tmp Z, trivial⟩⟩
    ·replace h := ite_t (ndec_f hb110) h
     refine aops_known 28 Z hb110 (an Z Z Z Z Z Z Z Z (an Z Z Z Z Z Z Z Z (an Z Z Z Z Z Z Z Z (ap (.bool false) Z Z Z (pu_pick (b := false) Z (tm Z) (fun h => nomatch h) (fun _ => (AEv.bool _))) (ap (.bool false) Z Z Z (pu_move Z (tm Z)) (an Z Z Z Z Z Z Z Z (ap (.bool false) Z Z Z (pu_pick (b := false) Z (tm Z) (fun h => nomatch h) (fun _ => (AEv.bool _))) (ap (.bool false) Z Z Z (pu_move Z (tm Z)) (ag Z Z Z Z Z Z Z (op_loadN (i := 0) Z isAgg78 sizeOf78 (tm Z) Z (Nat.le_of_ble_eq_true Z) Z ?_))))))))))
     refine agp (.str behind) Z Z Z Z Z Z Z (pu_move Z (tm Z)) (ag Z Z Z Z Z Z Z (op_buildSlice (xs := ([behind] : List (List UInt8)).map AV.str) (aparts := [(0, .str behind)]) Z underlying26 sizeOf9 zeroValue9 (by decide) (by decide) ⟨Z, (tm Z), trivial⟩ Z Z Z ?_))
     obtain ⟨r121, r121e, h⟩ := bind_some h
     refine ag Z Z Z Z Z Z Z (op_call (vs := [.agg [.sl .no 14 (c_.Tenants.map api.Tenant.av), .int .i64 c_.Quantum, .int .i64 c_.Deadline], .sl .no 1 ([behind].map AV.str)]) (H := []) Z call41 ⟨(tm Z), (AEv.le (tm Z) (AV.Le.forget _ _ _)), trivial⟩ (List.Perm.refl _) (mewslaw42.far.ok r121e) ?_)
     rintro _ _ ⟨rfl, rfl⟩
     refine agp (.bool r121) Z Z Z Z Z Z Z (pu_move Z (tm Z)) ?_
     rcases Bool.eq_false_or_eq_true r121 with hb122 | hb122
     ·replace h := ite_t hb122 h
      refine aops_known 41 Z hb122 ?_
      obtain ⟨r123, r123e, h⟩ := bind_some h
      refine ag Z Z Z Z Z Z Z (op_call (vs := []) (H := []) Z call42 trivial (List.Perm.refl _) (mewslaw42.alive.ok r123e) ?_)
      rintro _ _ ⟨rfl, rfl⟩
      refine agp (.bool r123) Z Z Z Z Z Z Z (pu_pick (b := true) Z (tm Z) (fun _ => (tm Z)) (fun h => nomatch h)) (ap (.bool r123) Z Z Z (pu_pick (b := false) Z (tm Z) (fun h => nomatch h) (fun _ => (tm Z))) (ap (.bool r123) Z Z Z (pu_assign Z (tm Z)) (aops_nil ?_)))
      obtain rfl := some_of h
      exact ⟨(), Weak.mkL [] (by decide) trivial ⟨AEv.tmp Z, trivial⟩⟩
     ·replace h := ite_fb hb122 h
      refine aops_known 41 Z hb122 (an Z Z Z Z Z Z Z Z (agp (.bool false) Z Z Z Z Z Z Z (pu_pick (b := false) Z (tm Z) (fun h => nomatch h) (fun _ => (AEv.bool _))) (ap (.bool false) Z Z Z (pu_pick (b := false) Z (tm Z) (fun h => nomatch h) (fun _ => (tm Z))) (ap (.bool false) Z Z Z (pu_assign Z (tm Z)) (aops_nil ?_)))))
      obtain rfl := some_of h
      exact ⟨(), Weak.mkL [] (by decide) trivial ⟨AEv.tmp Z, trivial⟩⟩
   ·intro _
    have h := h107
    refine aw_ret ?_
    obtain rfl := some_of h
    exact ⟨[.bool s106], _, [], ⟨(tm Z), trivial⟩, (AV.Le.refl _), Weak.mkL [] (by decide) trivial trivial, ⟨Z, Z⟩⟩
  ·replace h := ite_fb hb160 h
   refine aw_skip (aw_seq (aw_region (ap (.int .i64 at_) Z Z Z (pu_move Z (tm Z)) (ap (.int .u64 (IntKind.wrap .u64 at_)) Z Z Z (pu_conv Z underlying3 underlying47 (tm Z)) (ap (.ptr p81 0) Z Z Z (pu_fieldAddr Z underlying78 Z sizeOf76 (by decide) (tm Z) Z) (ac Z Z Z (op_load1 (i := 0) Z isAgg76 (tm Z) Z Z (ap (.int .i64 (c_.Tenants.length : Int)) Z Z Z (pu_lenM Z underlying76 (tm Z)) (ap (.int .u64 (IntKind.wrap .u64 (c_.Tenants.length : Int))) Z Z Z (pu_conv Z underlying3 underlying47 (tm Z)) ?_)))))))))
   obtain ⟨c124, h⟩ := need_of h
   refine ap (.int .u64 ((IntKind.wrap .u64 at_).tmod (IntKind.wrap .u64 (c_.Tenants.length : Int)))) Z Z Z (pu_rem Z (tm Z) (tm Z) c124) (ap (.int .i64 (IntKind.wrap .i64 ((IntKind.wrap .u64 at_).tmod (IntKind.wrap .u64 (c_.Tenants.length : Int))))) Z Z Z (pu_conv Z underlying47 underlying3 (tm Z)) (ap (.int .i64 (IntKind.wrap .i64 ((IntKind.wrap .u64 at_).tmod (IntKind.wrap .u64 (c_.Tenants.length : Int))))) Z Z Z (pu_assign Z (tm Z)) (aops_nil (aw_seq (aw_region (ap (.ptr p81 0) Z Z Z (pu_fieldAddr Z underlying78 Z sizeOf76 (by decide) (tm Z) Z) (ac Z Z Z (op_load1 (i := 0) Z isAgg76 (tm Z) Z Z (ap (.int .i64 (IntKind.wrap .i64 ((IntKind.wrap .u64 at_).tmod (IntKind.wrap .u64 (c_.Tenants.length : Int))))) Z Z Z (pu_move Z (tm Z)) ?_)))))))))
   obtain ⟨c125, h⟩ := need_of h
   refine ap (.vptr [.str (ix c_.Tenants (IntKind.wrap .i64 ((IntKind.wrap .u64 at_).tmod (IntKind.wrap .u64 (c_.Tenants.length : Int))))).Name, .str (ix c_.Tenants (IntKind.wrap .i64 ((IntKind.wrap .u64 at_).tmod (IntKind.wrap .u64 (c_.Tenants.length : Int))))).Token, .int .i64 (ix c_.Tenants (IntKind.wrap .i64 ((IntKind.wrap .u64 at_).tmod (IntKind.wrap .u64 (c_.Tenants.length : Int))))).Memory, .int .i64 (ix c_.Tenants (IntKind.wrap .i64 ((IntKind.wrap .u64 at_).tmod (IntKind.wrap .u64 (c_.Tenants.length : Int))))).Policy, .int .i64 (ix c_.Tenants (IntKind.wrap .i64 ((IntKind.wrap .u64 at_).tmod (IntKind.wrap .u64 (c_.Tenants.length : Int))))).Conns, .int .i64 (ix c_.Tenants (IntKind.wrap .i64 ((IntKind.wrap .u64 at_).tmod (IntKind.wrap .u64 (c_.Tenants.length : Int))))).In, .int .i64 (ix c_.Tenants (IntKind.wrap .i64 ((IntKind.wrap .u64 at_).tmod (IntKind.wrap .u64 (c_.Tenants.length : Int))))).Out, .int .i64 (ix c_.Tenants (IntKind.wrap .i64 ((IntKind.wrap .u64 at_).tmod (IntKind.wrap .u64 (c_.Tenants.length : Int))))).Burst, .int .i64 (ix c_.Tenants (IntKind.wrap .i64 ((IntKind.wrap .u64 at_).tmod (IntKind.wrap .u64 (c_.Tenants.length : Int))))).Rate, .int .i64 (ix c_.Tenants (IntKind.wrap .i64 ((IntKind.wrap .u64 at_).tmod (IntKind.wrap .u64 (c_.Tenants.length : Int))))).Disk, .int .i64 (ix c_.Tenants (IntKind.wrap .i64 ((IntKind.wrap .u64 at_).tmod (IntKind.wrap .u64 (c_.Tenants.length : Int))))).Sync, .int .i64 (ix c_.Tenants (IntKind.wrap .i64 ((IntKind.wrap .u64 at_).tmod (IntKind.wrap .u64 (c_.Tenants.length : Int))))).Limits.Args, .int .i64 (ix c_.Tenants (IntKind.wrap .i64 ((IntKind.wrap .u64 at_).tmod (IntKind.wrap .u64 (c_.Tenants.length : Int))))).Limits.Bulk, .int .i64 (ix c_.Tenants (IntKind.wrap .i64 ((IntKind.wrap .u64 at_).tmod (IntKind.wrap .u64 (c_.Tenants.length : Int))))).Limits.Line]) Z Z Z (pu_indexAddrM Z underlying76 sizeOf53 (tm Z) (tm Z) c125 Z) (ap (.vptr [.str (ix c_.Tenants (IntKind.wrap .i64 ((IntKind.wrap .u64 at_).tmod (IntKind.wrap .u64 (c_.Tenants.length : Int))))).Token, .int .i64 (ix c_.Tenants (IntKind.wrap .i64 ((IntKind.wrap .u64 at_).tmod (IntKind.wrap .u64 (c_.Tenants.length : Int))))).Memory, .int .i64 (ix c_.Tenants (IntKind.wrap .i64 ((IntKind.wrap .u64 at_).tmod (IntKind.wrap .u64 (c_.Tenants.length : Int))))).Policy, .int .i64 (ix c_.Tenants (IntKind.wrap .i64 ((IntKind.wrap .u64 at_).tmod (IntKind.wrap .u64 (c_.Tenants.length : Int))))).Conns, .int .i64 (ix c_.Tenants (IntKind.wrap .i64 ((IntKind.wrap .u64 at_).tmod (IntKind.wrap .u64 (c_.Tenants.length : Int))))).In, .int .i64 (ix c_.Tenants (IntKind.wrap .i64 ((IntKind.wrap .u64 at_).tmod (IntKind.wrap .u64 (c_.Tenants.length : Int))))).Out, .int .i64 (ix c_.Tenants (IntKind.wrap .i64 ((IntKind.wrap .u64 at_).tmod (IntKind.wrap .u64 (c_.Tenants.length : Int))))).Burst, .int .i64 (ix c_.Tenants (IntKind.wrap .i64 ((IntKind.wrap .u64 at_).tmod (IntKind.wrap .u64 (c_.Tenants.length : Int))))).Rate, .int .i64 (ix c_.Tenants (IntKind.wrap .i64 ((IntKind.wrap .u64 at_).tmod (IntKind.wrap .u64 (c_.Tenants.length : Int))))).Disk, .int .i64 (ix c_.Tenants (IntKind.wrap .i64 ((IntKind.wrap .u64 at_).tmod (IntKind.wrap .u64 (c_.Tenants.length : Int))))).Sync, .int .i64 (ix c_.Tenants (IntKind.wrap .i64 ((IntKind.wrap .u64 at_).tmod (IntKind.wrap .u64 (c_.Tenants.length : Int))))).Limits.Args, .int .i64 (ix c_.Tenants (IntKind.wrap .i64 ((IntKind.wrap .u64 at_).tmod (IntKind.wrap .u64 (c_.Tenants.length : Int))))).Limits.Bulk, .int .i64 (ix c_.Tenants (IntKind.wrap .i64 ((IntKind.wrap .u64 at_).tmod (IntKind.wrap .u64 (c_.Tenants.length : Int))))).Limits.Line]) Z Z Z (pu_fieldAddr Z underlying53 Z sizeOf9 (by decide) (tm Z) Z) (ac Z Z Z (op_loadV1 Z isAgg9 (tm Z) Z (ap (.str (ix c_.Tenants (IntKind.wrap .i64 ((IntKind.wrap .u64 at_).tmod (IntKind.wrap .u64 (c_.Tenants.length : Int))))).Token) Z Z Z (pu_assign Z (tm Z)) (aops_nil (aw_seq (aw_seq (aw_region (ac Z Z Z (op_loadN (i := 0) Z isAgg78 sizeOf78 (tm Z) Z (Nat.le_of_ble_eq_true Z) Z (ap (.str (ix c_.Tenants (IntKind.wrap .i64 ((IntKind.wrap .u64 at_).tmod (IntKind.wrap .u64 (c_.Tenants.length : Int))))).Token) Z Z Z (pu_move Z (tm Z)) ?_)))))))))))
   obtain ⟨r126, r126e, h⟩ := bind_some h
   refine ac Z Z Z (op_call (vs := [.agg [.sl .no 14 (c_.Tenants.map api.Tenant.av), .int .i64 c_.Quantum, .int .i64 c_.Deadline], .str (ix c_.Tenants (IntKind.wrap .i64 ((IntKind.wrap .u64 at_).tmod (IntKind.wrap .u64 (c_.Tenants.length : Int))))).Token]) (H := []) Z call45 ⟨(tm Z), (tm Z), trivial⟩ (List.Perm.refl _) (auth.Find.ok r126e) ?_)
   rintro _ _ ⟨rfl, rfl⟩
   refine ap (.int .i64 (IntKind.wrap .i64 ((IntKind.wrap .u64 at_).tmod (IntKind.wrap .u64 (c_.Tenants.length : Int))))) Z Z Z (pu_move Z (tm Z)) (ap (.bool (!decide (r126 = (IntKind.wrap .i64 ((IntKind.wrap .u64 at_).tmod (IntKind.wrap .u64 (c_.Tenants.length : Int))))))) Z Z Z (pu_int (v := .bool (!decide (r126 = (IntKind.wrap .i64 ((IntKind.wrap .u64 at_).tmod (IntKind.wrap .u64 (c_.Tenants.length : Int))))))) Z Z (tm Z) (tm Z) Z) (aops_nil (aw_cond (b := (!decide (r126 = (IntKind.wrap .i64 ((IntKind.wrap .u64 at_).tmod (IntKind.wrap .u64 (c_.Tenants.length : Int))))))) (tm Z) (fun hb159 => ?_) (fun hb159 => ?_))))
   ·replace h := ite_f (ndec_t hb159) h
    refine aw_seq (aw_region (ap (.bool false) Z Z Z (pu_assign Z (AEv.bool _)) (aops_nil (aw_ret ?_))))
    obtain rfl := some_of h
    exact ⟨[.bool false], _, [], ⟨(tm Z), trivial⟩, (AV.Le.refl _), Weak.mkL [] (by decide) trivial trivial, ⟨Z, Z⟩⟩
   ·replace h := ite_t (ndec_f hb159) h
    refine aw_skip (aw_seq (aw_region (ap (.str (ix c_.Tenants (IntKind.wrap .i64 ((IntKind.wrap .u64 at_).tmod (IntKind.wrap .u64 (c_.Tenants.length : Int))))).Token) Z Z Z (pu_move Z (tm Z)) (ac Z Z Z (op_buildSlice (xs := ([[65, 117, 116, 104], (ix c_.Tenants (IntKind.wrap .i64 ((IntKind.wrap .u64 at_).tmod (IntKind.wrap .u64 (c_.Tenants.length : Int))))).Token] : List (List UInt8)).map AV.str) (aparts := [(0, .str [65, 117, 116, 104]), (1, .str (ix c_.Tenants (IntKind.wrap .i64 ((IntKind.wrap .u64 at_).tmod (IntKind.wrap .u64 (c_.Tenants.length : Int))))).Token)]) Z underlying26 sizeOf9 zeroValue9 (by decide) (by decide) ⟨Z, (AEv.const Z), ⟨Z, (tm Z), trivial⟩⟩ Z Z Z ?_)))))
    obtain ⟨r127, r127e, h⟩ := bind_some h
    refine ac Z Z Z (op_call (vs := [.sl .no 1 ([[65, 117, 116, 104], (ix c_.Tenants (IntKind.wrap .i64 ((IntKind.wrap .u64 at_).tmod (IntKind.wrap .u64 (c_.Tenants.length : Int))))).Token].map AV.str)]) (H := []) Z call22 ⟨(AEv.le (tm Z) (AV.Le.forget _ _ _)), trivial⟩ (List.Perm.refl _) (mewsref05.Put.ok r127e) ?_)
    rintro _ _ ⟨rfl, rfl⟩
    refine ap (.str r127) Z Z Z (pu_assign Z (tm Z)) (aops_nil ?_)
    obtain ⟨s130, s130e, h131⟩ := bind_some h
    refine aw_meet (ν := Unit) (fun v => [(2, .str behind), (4, .ptr p81 0), (9, .int .i64 (IntKind.wrap .i64 ((IntKind.wrap .u64 at_).tmod (IntKind.wrap .u64 (c_.Tenants.length : Int))))), (11, .str s130)]) (fun v => [(p81, .cells [.sl .no 14 (c_.Tenants.map api.Tenant.av), .int .i64 c_.Quantum, .int .i64 c_.Deadline])]) ?_ ?_
    ·have h := s130e
     refine aw_seq (aw_region (ap (.bool line_) Z Z Z (pu_move Z (tm Z)) (aops_nil (aw_cond (b := line_) (tm Z) (fun hb134 => ?_) (fun hb134 => ?_)))))
     ·replace h := ite_t hb134 h
      refine aw_region (ap (.str r127) Z Z Z (pu_move Z (tm Z)) ?_)
      obtain ⟨c133, h⟩ := need_of h
      refine ap (.str ([13, 10, 42, 48, 13, 10] ++ r127)) Z Z Z (pu_strAdd Z (AEv.const Z) (tm Z) c133) (ap (.str ([13, 10, 42, 48, 13, 10] ++ r127)) Z Z Z (pu_assign Z (tm Z)) (aops_nil ?_))
      obtain rfl := some_of h
      exact ⟨(), Weak.mkL [0] (by decide) ⟨⟨_, Z, (CellsLe.refl _), Z⟩, trivial⟩ ⟨AEv.tmp Z, AEv.tmp Z, AEv.tmp Z, (AEv.le (tm Z) (AV.Le.refl _)), trivial⟩⟩
     ·replace h := ite_fb hb134 h
      refine aw_skip ?_
      obtain rfl := some_of h
      exact ⟨(), Weak.mkL [0] (by decide) ⟨⟨_, Z, (CellsLe.refl _), Z⟩, trivial⟩ ⟨AEv.tmp Z, AEv.tmp Z, AEv.tmp Z, AEv.tmp Z, trivial⟩⟩
    ·intro _
     have h := h131
     refine aw_seq (aw_region (ac Z Z Z (op_loadN (i := 0) Z isAgg78 sizeOf78 (tm Z) Z (Nat.le_of_ble_eq_true Z) Z (ap (.agg [.str ([] : List UInt8), .sl .full 1 (([] : List (List UInt8)).map AV.str), .int .i64 0, .int .i64 0, .bool false, .int .i64 0, .int .i64 0]) Z Z Z (pu_build (zs := [.str ([] : List UInt8), .sl .full 1 (([] : List (List UInt8)).map AV.str), .int .i64 0, .int .i64 0, .bool false, .int .i64 0, .int .i64 0]) (szs := [1, 1, 1, 1, 1, 1, 1]) (aparts := []) (cs := [.str ([] : List UInt8), .sl .full 1 (([] : List (List UInt8)).map AV.str), .int .i64 0, .int .i64 0, .bool false, .int .i64 0, .int .i64 0]) Z underlying29 zeroValue29 Z ⟨sizeOf9, sizeOf26, sizeOf3, sizeOf3, sizeOf4, sizeOf3, sizeOf27, trivial⟩ trivial Z) (ap (.str s130) Z Z Z (pu_move Z (tm Z)) (ap (.str behind) Z Z Z (pu_move Z (tm Z)) ?_))))))
     obtain ⟨c135, h⟩ := need_of h
     refine ap (.str (s130 ++ behind)) Z Z Z (pu_strAdd Z (tm Z) (tm Z) c135) ?_
     obtain ⟨r136, r136e, h⟩ := bind_some h
     refine ac Z Z Z (op_call (vs := [.agg [.sl .no 14 (c_.Tenants.map api.Tenant.av), .int .i64 c_.Quantum, .int .i64 c_.Deadline], .agg [.str ([] : List UInt8), .sl .no 1 (([] : List (List UInt8)).map AV.str), .int .i64 0, .int .i64 0, .bool false, .int .i64 0, .int .i64 0], .str (s130 ++ behind)]) (H := []) Z call47 ⟨(tm Z), (AEv.le (tm Z) (AV.Le.agg ⟨(AV.Le.refl _), (AV.Le.forget _ _ _), (AV.Le.refl _), (AV.Le.refl _), (AV.Le.refl _), (AV.Le.refl _), (AV.Le.refl _), trivial⟩)), (tm Z), trivial⟩ (List.Perm.refl _) (auth.First.ok r136e) ?_)
     rintro _ _ ⟨rfl, rfl⟩
     refine ap (.tup [.agg (api.Input.ct .no r136.1), .str r136.2.1, .int .i64 r136.2.2.1, .int .i64 r136.2.2.2]) Z Z Z (pu_move Z (tm Z)) (ap (.agg (api.Input.ct .no r136.1)) Z Z Z (pu_extract Z (tm Z) (Nat.le_of_ble_eq_true Z) Z) (ap (.str r136.2.1) Z Z Z (pu_extract Z (tm Z) (Nat.le_of_ble_eq_true Z) Z) (ap (.int .i64 r136.2.2.1) Z Z Z (pu_extract Z (tm Z) (Nat.le_of_ble_eq_true Z) Z) (ap (.int .i64 r136.2.2.2) Z Z Z (pu_extract Z (tm Z) (Nat.le_of_ble_eq_true Z) Z) (ac Z Z Z (op_alloc (cs := [.str ([] : List UInt8), .sl .full 1 (([] : List (List UInt8)).map AV.str), .int .i64 0, .int .i64 0, .bool false, .int .i64 0, .int .i64 0]) (v := .agg [.str ([] : List UInt8), .sl .full 1 (([] : List (List UInt8)).map AV.str), .int .i64 0, .int .i64 0, .bool false, .int .i64 0, .int .i64 0]) Z zeroValue29 Z Z Z ?_))))))
     intro p137
     refine ac0 Z Z (op_store (i := 0) (cs' := (api.Input.ct .no r136.1)) Z sizeOf29 (tm Z) (v := .agg (api.Input.ct .no r136.1)) (tm Z) Z Z Z (Nat.le_of_ble_eq_true Z) Z (ap (.str r136.2.1) Z Z Z (pu_assign Z (tm Z)) (ap (.int .i64 r136.2.2.1) Z Z Z (pu_assign Z (tm Z)) (ap (.int .i64 r136.2.2.2) Z Z Z (pu_assign Z (tm Z)) (aops_nil ?_)))))
     obtain ⟨s147, s147e, h148⟩ := bind_some h
     refine aw_meet (ν := Unit) (fun v => [(8, .bool s147)]) (fun v => []) ?_ ?_
     ·have h := s147e
      refine aw_region (ap (.int .i64 r136.2.2.1) Z Z Z (pu_move Z (tm Z)) (ap (.int .i64 (IntKind.wrap .i64 ((IntKind.wrap .u64 at_).tmod (IntKind.wrap .u64 (c_.Tenants.length : Int))))) Z Z Z (pu_move Z (tm Z)) (ap (.bool (decide (r136.2.2.1 = (IntKind.wrap .i64 ((IntKind.wrap .u64 at_).tmod (IntKind.wrap .u64 (c_.Tenants.length : Int))))))) Z Z Z (pu_int (v := .bool (decide (r136.2.2.1 = (IntKind.wrap .i64 ((IntKind.wrap .u64 at_).tmod (IntKind.wrap .u64 (c_.Tenants.length : Int))))))) Z Z (tm Z) (tm Z) Z) (ap (.bool (decide (r136.2.2.1 = (IntKind.wrap .i64 ((IntKind.wrap .u64 at_).tmod (IntKind.wrap .u64 (c_.Tenants.length : Int))))))) Z Z Z (pu_move Z (tm Z)) ?_))))
      rcases Bool.eq_false_or_eq_true (decide (r136.2.2.1 = (IntKind.wrap .i64 ((IntKind.wrap .u64 at_).tmod (IntKind.wrap .u64 (c_.Tenants.length : Int)))))) with hb150 | hb150
      ·replace h := ite_t (dec_t hb150) h
       refine aops_known 84 Z hb150 (agp (.int .i64 r136.2.2.2) Z Z Z Z Z Z Z (pu_move Z (tm Z)) (agp (.bool (decide (r136.2.2.2 = 1))) Z Z Z Z Z Z Z (pu_int (v := .bool (decide (r136.2.2.2 = 1))) Z Z (tm Z) (AEv.int _ _) Z) (ap (.bool (decide (r136.2.2.2 = 1))) Z Z Z (pu_pick (b := true) Z (tm Z) (fun _ => (tm Z)) (fun h => nomatch h)) (ap (.bool (decide (r136.2.2.2 = 1))) Z Z Z (pu_move Z (tm Z)) ?_))))
       rcases Bool.eq_false_or_eq_true (decide (r136.2.2.2 = 1)) with hb151 | hb151
       ·replace h := ite_t (dec_t hb151) h
        refine aops_known 88 Z hb151 (agp (.str r136.2.1) Z Z Z Z Z Z Z (pu_move Z (tm Z)) (agp (.str behind) Z Z Z Z Z Z Z (pu_move Z (tm Z)) (agp (.bool (decide (r136.2.1 = behind))) Z Z Z Z Z Z Z (pu_str (v := .bool (decide (r136.2.1 = behind))) Z Z (tm Z) (tm Z) Z) (ap (.bool (decide (r136.2.1 = behind))) Z Z Z (pu_pick (b := true) Z (tm Z) (fun _ => (tm Z)) (fun h => nomatch h)) (ap (.bool (decide (r136.2.1 = behind))) Z Z Z (pu_move Z (tm Z)) ?_)))))
        rcases Bool.eq_false_or_eq_true (decide (r136.2.1 = behind)) with hb152 | hb152
        ·replace h := ite_t (dec_t hb152) h
         refine aops_known 93 Z hb152 (ag Z Z Z Z Z Z Z (op_loadN (i := 1) Z isAgg78 sizeOf78 (tm Z) Z (Nat.le_of_ble_eq_true Z) Z (agp (.str s130) Z Z Z Z Z Z Z (pu_move Z (tm Z)) (agp (.str behind) Z Z Z Z Z Z Z (pu_move Z (tm Z)) ?_))))
         obtain ⟨c153, h⟩ := need_of h
         refine agp (.str (s130 ++ behind)) Z Z Z Z Z Z Z (pu_strAdd Z (tm Z) (tm Z) c153) (ag Z Z Z Z Z Z Z (op_buildSlice (xs := ([s130 ++ behind] : List (List UInt8)).map AV.str) (aparts := [(0, .str (s130 ++ behind))]) Z underlying26 sizeOf9 zeroValue9 (by decide) (by decide) ⟨Z, (tm Z), trivial⟩ Z Z Z ?_))
         obtain ⟨r154, r154e, h⟩ := bind_some h
         refine ag Z Z Z Z Z Z Z (op_call (vs := [.agg [.sl .no 14 (c_.Tenants.map api.Tenant.av), .int .i64 c_.Quantum, .int .i64 c_.Deadline], .sl .no 1 ([s130 ++ behind].map AV.str)]) (H := []) Z call49 ⟨(tm Z), (AEv.le (tm Z) (AV.Le.forget _ _ _)), trivial⟩ (List.Perm.refl _) (auth.Label.ok r154e) ?_)
         rintro _ _ ⟨rfl, rfl⟩
         refine agp (.int .i64 (IntKind.wrap .i64 ((IntKind.wrap .u64 at_).tmod (IntKind.wrap .u64 (c_.Tenants.length : Int))))) Z Z Z Z Z Z Z (pu_move Z (tm Z)) (agp (.bool (decide (r154 = (IntKind.wrap .i64 ((IntKind.wrap .u64 at_).tmod (IntKind.wrap .u64 (c_.Tenants.length : Int))))))) Z Z Z Z Z Z Z (pu_int (v := .bool (decide (r154 = (IntKind.wrap .i64 ((IntKind.wrap .u64 at_).tmod (IntKind.wrap .u64 (c_.Tenants.length : Int))))))) Z Z (tm Z) (tm Z) Z) (ap (.bool (decide (r154 = (IntKind.wrap .i64 ((IntKind.wrap .u64 at_).tmod (IntKind.wrap .u64 (c_.Tenants.length : Int))))))) Z Z Z (pu_pick (b := true) Z (tm Z) (fun _ => (tm Z)) (fun h => nomatch h)) (ap (.bool (decide (r154 = (IntKind.wrap .i64 ((IntKind.wrap .u64 at_).tmod (IntKind.wrap .u64 (c_.Tenants.length : Int))))))) Z Z Z (pu_move Z (tm Z)) ?_)))
         rcases Bool.eq_false_or_eq_true (decide (r154 = (IntKind.wrap .i64 ((IntKind.wrap .u64 at_).tmod (IntKind.wrap .u64 (c_.Tenants.length : Int)))))) with hb155 | hb155
         ·replace h := ite_t (dec_t hb155) h
          refine aops_known 103 Z hb155 (ag Z Z Z Z Z Z Z (op_loadN (i := 1) Z isAgg78 sizeOf78 (tm Z) Z (Nat.le_of_ble_eq_true Z) Z (agp (.str s130) Z Z Z Z Z Z Z (pu_move Z (tm Z)) (agp (.str behind) Z Z Z Z Z Z Z (pu_move Z (tm Z)) (ag Z Z Z Z Z Z Z (op_buildSlice (xs := ([s130, behind] : List (List UInt8)).map AV.str) (aparts := [(0, .str s130), (1, .str behind)]) Z underlying26 sizeOf9 zeroValue9 (by decide) (by decide) ⟨Z, (tm Z), ⟨Z, (tm Z), trivial⟩⟩ Z Z Z ?_))))))
          obtain ⟨r156, r156e, h⟩ := bind_some h
          refine ag Z Z Z Z Z Z Z (op_call (vs := [.agg [.sl .no 14 (c_.Tenants.map api.Tenant.av), .int .i64 c_.Quantum, .int .i64 c_.Deadline], .sl .no 1 ([s130, behind].map AV.str)]) (H := []) Z call49 ⟨(tm Z), (AEv.le (tm Z) (AV.Le.forget _ _ _)), trivial⟩ (List.Perm.refl _) (auth.Label.ok r156e) ?_)
          rintro _ _ ⟨rfl, rfl⟩
          refine agp (.int .i64 (IntKind.wrap .i64 ((IntKind.wrap .u64 at_).tmod (IntKind.wrap .u64 (c_.Tenants.length : Int))))) Z Z Z Z Z Z Z (pu_move Z (tm Z)) (agp (.bool (decide (r156 = (IntKind.wrap .i64 ((IntKind.wrap .u64 at_).tmod (IntKind.wrap .u64 (c_.Tenants.length : Int))))))) Z Z Z Z Z Z Z (pu_int (v := .bool (decide (r156 = (IntKind.wrap .i64 ((IntKind.wrap .u64 at_).tmod (IntKind.wrap .u64 (c_.Tenants.length : Int))))))) Z Z (tm Z) (tm Z) Z) (ap (.bool (decide (r156 = (IntKind.wrap .i64 ((IntKind.wrap .u64 at_).tmod (IntKind.wrap .u64 (c_.Tenants.length : Int))))))) Z Z Z (pu_pick (b := true) Z (tm Z) (fun _ => (tm Z)) (fun h => nomatch h)) (ap (.bool (decide (r156 = (IntKind.wrap .i64 ((IntKind.wrap .u64 at_).tmod (IntKind.wrap .u64 (c_.Tenants.length : Int))))))) Z Z Z (pu_move Z (tm Z)) ?_)))
          rcases Bool.eq_false_or_eq_true (decide (r156 = (IntKind.wrap .i64 ((IntKind.wrap .u64 at_).tmod (IntKind.wrap .u64 (c_.Tenants.length : Int)))))) with hb157 | hb157
          ·replace h := ite_t (dec_t hb157) h
           refine aops_known 112 Z hb157 ?_
           obtain ⟨r158, r158e, h⟩ := bind_some h
           refine ag Z Z Z Z Z Z Z (op_call (vs := []) (H := []) Z call42 trivial (List.Perm.refl _) (mewslaw42.alive.ok r158e) ?_)
           rintro _ _ ⟨rfl, rfl⟩
           refine ap (.bool r158) Z Z Z (pu_pick (b := true) Z (tm Z) (fun _ => (tm Z)) (fun h => nomatch h)) (ap (.bool r158) Z Z Z (pu_assign Z (tm Z)) (aops_nil ?_))
           obtain rfl := some_of h
           exact ⟨(), Weak.mkL [] (by decide) trivial ⟨AEv.tmp Z, trivial⟩⟩
          ·replace h := ite_f (dec_f hb157) h
           refine aops_known 112 Z hb157 (an Z Z Z Z Z Z Z Z (ap (.bool false) Z Z Z (pu_pick (b := false) Z (tm Z) (fun h => nomatch h) (fun _ => (AEv.bool _))) (ap (.bool false) Z Z Z (pu_assign Z (tm Z)) (aops_nil ?_))))
           obtain rfl := some_of h
           exact ⟨(), Weak.mkL [] (by decide) trivial ⟨AEv.tmp Z, trivial⟩⟩
         ·replace h := ite_f (dec_f hb155) h
          refine aops_known 103 Z hb155 (an Z Z Z Z Z Z Z Z (an Z Z Z Z Z Z Z Z (an Z Z Z Z Z Z Z Z (an Z Z Z Z Z Z Z Z (an Z Z Z Z Z Z Z Z (an Z Z Z Z Z Z Z Z (an Z Z Z Z Z Z Z Z (ap (.bool false) Z Z Z (pu_pick (b := false) Z (tm Z) (fun h => nomatch h) (fun _ => (AEv.bool _))) (ap (.bool false) Z Z Z (pu_move Z (tm Z)) ?_)))))))))
          refine an Z Z Z Z Z Z Z Z (ap (.bool false) Z Z Z (pu_pick (b := false) Z (tm Z) (fun h => nomatch h) (fun _ => (AEv.bool _))) (ap (.bool false) Z Z Z (pu_assign Z (tm Z)) (aops_nil ?_)))
          obtain rfl := some_of h
          exact ⟨(), Weak.mkL [] (by decide) trivial ⟨AEv.tmp Z, trivial⟩⟩
        ·replace h := ite_f (dec_f hb152) h
         refine aops_known 93 Z hb152 (an Z Z Z Z Z Z Z Z (an Z Z Z Z Z Z Z Z (an Z Z Z Z Z Z Z Z (an Z Z Z Z Z Z Z Z (an Z Z Z Z Z Z Z Z (an Z Z Z Z Z Z Z Z (an Z Z Z Z Z Z Z Z (an Z Z Z Z Z Z Z Z (ap (.bool false) Z Z Z (pu_pick (b := false) Z (tm Z) (fun h => nomatch h) (fun _ => (AEv.bool _))) ?_)))))))))
         refine ap (.bool false) Z Z Z (pu_move Z (tm Z)) (an Z Z Z Z Z Z Z Z (an Z Z Z Z Z Z Z Z (an Z Z Z Z Z Z Z Z (an Z Z Z Z Z Z Z Z (an Z Z Z Z Z Z Z Z (an Z Z Z Z Z Z Z Z (an Z Z Z Z Z Z Z Z (ap (.bool false) Z Z Z (pu_pick (b := false) Z (tm Z) (fun h => nomatch h) (fun _ => (AEv.bool _))) (ap (.bool false) Z Z Z (pu_move Z (tm Z)) ?_)))))))))
         refine an Z Z Z Z Z Z Z Z (ap (.bool false) Z Z Z (pu_pick (b := false) Z (tm Z) (fun h => nomatch h) (fun _ => (AEv.bool _))) (ap (.bool false) Z Z Z (pu_assign Z (tm Z)) (aops_nil ?_)))
         obtain rfl := some_of h
         exact ⟨(), Weak.mkL [] (by decide) trivial ⟨AEv.tmp Z, trivial⟩⟩
       ·replace h := ite_f (dec_f hb151) h
        refine aops_known 88 Z hb151 (an Z Z Z Z Z Z Z Z (an Z Z Z Z Z Z Z Z (an Z Z Z Z Z Z Z Z (ap (.bool false) Z Z Z (pu_pick (b := false) Z (tm Z) (fun h => nomatch h) (fun _ => (AEv.bool _))) (ap (.bool false) Z Z Z (pu_move Z (tm Z)) (an Z Z Z Z Z Z Z Z (an Z Z Z Z Z Z Z Z (an Z Z Z Z Z Z Z Z (an Z Z Z Z Z Z Z Z ?_)))))))))
        refine an Z Z Z Z Z Z Z Z (an Z Z Z Z Z Z Z Z (an Z Z Z Z Z Z Z Z (an Z Z Z Z Z Z Z Z (ap (.bool false) Z Z Z (pu_pick (b := false) Z (tm Z) (fun h => nomatch h) (fun _ => (AEv.bool _))) (ap (.bool false) Z Z Z (pu_move Z (tm Z)) (an Z Z Z Z Z Z Z Z (an Z Z Z Z Z Z Z Z (an Z Z Z Z Z Z Z Z (an Z Z Z Z Z Z Z Z ?_)))))))))
        refine an Z Z Z Z Z Z Z Z (an Z Z Z Z Z Z Z Z (an Z Z Z Z Z Z Z Z (ap (.bool false) Z Z Z (pu_pick (b := false) Z (tm Z) (fun h => nomatch h) (fun _ => (AEv.bool _))) (ap (.bool false) Z Z Z (pu_move Z (tm Z)) (an Z Z Z Z Z Z Z Z (ap (.bool false) Z Z Z (pu_pick (b := false) Z (tm Z) (fun h => nomatch h) (fun _ => (AEv.bool _))) (ap (.bool false) Z Z Z (pu_assign Z (tm Z)) (aops_nil ?_))))))))
        obtain rfl := some_of h
        exact ⟨(), Weak.mkL [] (by decide) trivial ⟨AEv.tmp Z, trivial⟩⟩
      ·replace h := ite_f (dec_f hb150) h
       refine aops_known 84 Z hb150 (an Z Z Z Z Z Z Z Z (an Z Z Z Z Z Z Z Z (ap (.bool false) Z Z Z (pu_pick (b := false) Z (tm Z) (fun h => nomatch h) (fun _ => (AEv.bool _))) (ap (.bool false) Z Z Z (pu_move Z (tm Z)) (an Z Z Z Z Z Z Z Z (an Z Z Z Z Z Z Z Z (an Z Z Z Z Z Z Z Z (ap (.bool false) Z Z Z (pu_pick (b := false) Z (tm Z) (fun h => nomatch h) (fun _ => (AEv.bool _))) (ap (.bool false) Z Z Z (pu_move Z (tm Z)) ?_)))))))))
       refine an Z Z Z Z Z Z Z Z (an Z Z Z Z Z Z Z Z (an Z Z Z Z Z Z Z Z (an Z Z Z Z Z Z Z Z (an Z Z Z Z Z Z Z Z (an Z Z Z Z Z Z Z Z (an Z Z Z Z Z Z Z Z (an Z Z Z Z Z Z Z Z (ap (.bool false) Z Z Z (pu_pick (b := false) Z (tm Z) (fun h => nomatch h) (fun _ => (AEv.bool _))) (ap (.bool false) Z Z Z (pu_move Z (tm Z)) ?_)))))))))
       refine an Z Z Z Z Z Z Z Z (an Z Z Z Z Z Z Z Z (an Z Z Z Z Z Z Z Z (an Z Z Z Z Z Z Z Z (an Z Z Z Z Z Z Z Z (an Z Z Z Z Z Z Z Z (an Z Z Z Z Z Z Z Z (ap (.bool false) Z Z Z (pu_pick (b := false) Z (tm Z) (fun h => nomatch h) (fun _ => (AEv.bool _))) (ap (.bool false) Z Z Z (pu_move Z (tm Z)) (an Z Z Z Z Z Z Z Z ?_)))))))))
       refine ap (.bool false) Z Z Z (pu_pick (b := false) Z (tm Z) (fun h => nomatch h) (fun _ => (AEv.bool _))) (ap (.bool false) Z Z Z (pu_assign Z (tm Z)) (aops_nil ?_))
       obtain rfl := some_of h
       exact ⟨(), Weak.mkL [] (by decide) trivial ⟨AEv.tmp Z, trivial⟩⟩
     ·intro _
      have h := h148
      refine aw_ret ?_
      obtain rfl := some_of h
      exact ⟨[.bool s147], _, [], ⟨(tm Z), trivial⟩, (AV.Le.refl _), Weak.mkL [] (by decide) trivial trivial, ⟨Z, Z⟩⟩

end Go.Pu
