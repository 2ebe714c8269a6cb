/- Printed by lift.py: the functions come to them. -/
import Derived.Test.YtfapgollkabopaaARK1
set_option maxRecDepth 100000
set_option maxHeartbeats 0
namespace Go.Pu
open Go.Lift Go.Proofs.Try Go.RowKit Go.Proofs

theorem auth.Right.ok {c_ : api.Config} {r : Int} (h : auth.Right c_ = some r) : Go.Lift.Spec prog 43 [.agg [.sl .no 14 (c_.Tenants.map api.Tenant.av), .int .i64 c_.Quantum, .int .i64 c_.Deadline]] [] (fun v H => v = .int .i64 r ∧ H = []) := by
  unfold auth.Right at h
  refine Go.Lift.Spec.of_body (rs := [.tmp 2]) func43 rfl rfl (Nat.le_of_ble_eq_true rfl) rfl ?_
  refine aw_seq ?_
  refine aw_region ?_
  refine ac rfl rfl rfl (op_box (cs := [.sl .no 14 (c_.Tenants.map api.Tenant.av), .int .i64 c_.Quantum, .int .i64 c_.Deadline]) (v := .agg [.sl .no 14 (c_.Tenants.map api.Tenant.av), .int .i64 c_.Quantum, .int .i64 c_.Deadline]) rfl (AEv.tmp rfl) rfl rfl ?_)
  intro p500
  refine ap (.int .i64 0) rfl rfl rfl (pu_assign rfl (AEv.int _ _)) ?_
  refine aops_nil ?_
  refine aw_seq ?_
  obtain ⟨s502, s502e, h503⟩ := letO_of h
  refine aw_meet (ν := Unit) (fun v => [(1, .ptr p500 0), (17, .bool s502)]) (fun v => [(p500, .cells [.sl .no 14 (c_.Tenants.map api.Tenant.av), .int .i64 c_.Quantum, .int .i64 c_.Deadline])]) ?_ ?_
  · have h := s502e.symm
    refine aw_region ?_
    refine ap (.ptr p500 0) rfl rfl rfl (pu_fieldAddr rfl underlying78 rfl sizeOf76 (by decide) (AEv.tmp rfl) rfl) ?_
    refine ac rfl rfl rfl (op_load1 (i := 0) rfl isAgg76 (AEv.tmp rfl) rfl rfl ?_)
    refine ap (.int .i64 (c_.Tenants.length : Int)) rfl rfl rfl (pu_lenM rfl underlying76 (AEv.tmp rfl)) ?_
    refine ap (.bool (decide ((c_.Tenants.length : Int) < 1))) rfl rfl rfl (pu_int (v := .bool (decide ((c_.Tenants.length : Int) < 1))) rfl rfl (AEv.tmp rfl) (AEv.int _ _) rfl) ?_
    refine ap (.bool (decide ((c_.Tenants.length : Int) < 1))) rfl rfl rfl (pu_move rfl (AEv.tmp rfl)) ?_
    rcases Bool.eq_false_or_eq_true (decide ((c_.Tenants.length : Int) < 1)) with hb505 | hb505
    · replace h := ite_t (dec_t hb505) h
      refine aops_known 12 rfl hb505 ?_
      refine an rfl rfl rfl rfl rfl rfl rfl rfl ?_
      refine an rfl rfl rfl rfl rfl rfl rfl rfl ?_
      refine an rfl rfl rfl rfl rfl rfl rfl rfl ?_
      refine an rfl rfl rfl rfl rfl rfl rfl rfl ?_
      refine ap (.bool true) rfl rfl rfl (pu_pick (b := true) rfl (AEv.tmp rfl) (fun _ => (AEv.bool _)) (fun h => nomatch h)) ?_
      refine aops_nil ?_
      subst h
      exact ⟨(), Weak.mkL [0] (by decide) ⟨⟨_, rfl, (CellsLe.refl _), rfl⟩, trivial⟩ ⟨AEv.tmp rfl, AEv.tmp rfl, trivial⟩⟩
    · replace h := ite_f (dec_f hb505) h
      refine aops_known 12 rfl hb505 ?_
      refine agp (.ptr p500 0) rfl rfl rfl rfl rfl rfl rfl (pu_fieldAddr rfl underlying78 rfl sizeOf76 (by decide) (AEv.tmp rfl) rfl) ?_
      refine ag rfl rfl rfl rfl rfl rfl rfl (op_load1 (i := 0) rfl isAgg76 (AEv.tmp rfl) rfl rfl ?_)
      refine agp (.int .i64 (c_.Tenants.length : Int)) rfl rfl rfl rfl rfl rfl rfl (pu_lenM rfl underlying76 (AEv.tmp rfl)) ?_
      refine agp (.bool (decide (16 < (c_.Tenants.length : Int)))) rfl rfl rfl rfl rfl rfl rfl (pu_int (v := .bool (decide (16 < (c_.Tenants.length : Int)))) rfl rfl (AEv.tmp rfl) (AEv.int _ _) rfl) ?_
      refine ap (.bool (decide (16 < (c_.Tenants.length : Int)))) rfl rfl rfl (pu_pick (b := false) rfl (AEv.tmp rfl) (fun h => nomatch h) (fun _ => (AEv.tmp rfl))) ?_
      refine aops_nil ?_
      subst h
      exact ⟨(), Weak.mkL [0] (by decide) ⟨⟨_, rfl, (CellsLe.refl _), rfl⟩, trivial⟩ ⟨AEv.tmp rfl, (AEv.le (AEv.tmp rfl) (AV.Le.refl _)), trivial⟩⟩
  · intro _
    have h := h503
    refine aw_cond (b := s502) (AEv.tmp rfl) (fun hb998 => ?_) (fun hb998 => ?_)
    · replace h := ite_t hb998 h
      refine aw_seq ?_
      refine aw_region ?_
      refine ap (.int .i64 7) rfl rfl rfl (pu_assign rfl (AEv.int _ _)) ?_
      refine aops_nil ?_
      refine aw_ret ?_
      obtain rfl := some_of h
      exact ⟨[.int .i64 7], _, [], ⟨(AEv.tmp rfl), trivial⟩, (AV.Le.refl _), Weak.mkL [] (by decide) trivial trivial, ⟨rfl, rfl⟩⟩
    · replace h := ite_fb hb998 h
      refine aw_skip ?_
      refine aw_seq ?_
      refine aw_region ?_
      refine ap (.fn 63 []) rfl rfl rfl (pu_assign rfl (AEv.func _)) ?_
      refine aops_nil ?_
      refine aw_seq ?_
      obtain ⟨s511, s511e, h512⟩ := bind_some h
      refine aw_meet (ν := Unit) (fun v => [(1, .ptr p500 0), (41, .bool s511)]) (fun v => [(p500, .cells [.sl .no 14 (c_.Tenants.map api.Tenant.av), .int .i64 c_.Quantum, .int .i64 c_.Deadline])]) ?_ ?_
      · have h := s511e
        refine aw_region ?_
        refine ap (.ptr p500 0) rfl rfl rfl (pu_fieldAddr rfl underlying78 rfl sizeOf76 (by decide) (AEv.tmp rfl) rfl) ?_
        refine ac rfl rfl rfl (op_load1 (i := 0) rfl isAgg76 (AEv.tmp rfl) rfl rfl ?_)
        refine ap (.fn 63 []) rfl rfl rfl (pu_move rfl (AEv.tmp rfl)) ?_
        obtain ⟨r514, r514e, h⟩ := bind_some h
        refine ac rfl rfl rfl (op_call (vs := [.sl .no 14 (c_.Tenants.map api.Tenant.av), .fn 63 []]) (H := []) rfl call65 ⟨(AEv.tmp rfl), (AEv.tmp rfl), trivial⟩ (List.Perm.refl _) (slices.ContainsFunc_api_Tenant_auth_Right_1.ok r514e) ?_)
        rintro _ _ ⟨rfl, rfl⟩
        refine ap (.bool r514) rfl rfl rfl (pu_move rfl (AEv.tmp rfl)) ?_
        rcases Bool.eq_false_or_eq_true r514 with hb515 | hb515
        · replace h := ite_t hb515 h
          refine aops_known 22 rfl hb515 ?_
          refine an rfl rfl rfl rfl rfl rfl rfl rfl ?_
          refine an rfl rfl rfl rfl rfl rfl rfl rfl ?_
          refine an rfl rfl rfl rfl rfl rfl rfl rfl ?_
          refine ap (.bool true) rfl rfl rfl (pu_pick (b := true) rfl (AEv.tmp rfl) (fun _ => (AEv.bool _)) (fun h => nomatch h)) ?_
          refine ap (.bool true) rfl rfl rfl (pu_move rfl (AEv.tmp rfl)) ?_
          refine an rfl rfl rfl rfl rfl rfl rfl rfl ?_
          refine an rfl rfl rfl rfl rfl rfl rfl rfl ?_
          refine an rfl rfl rfl rfl rfl rfl rfl rfl ?_
          refine ap (.bool true) rfl rfl rfl (pu_pick (b := true) rfl (AEv.tmp rfl) (fun _ => (AEv.bool _)) (fun h => nomatch h)) ?_
          refine ap (.bool true) rfl rfl rfl (pu_move rfl (AEv.tmp rfl)) ?_
          refine an rfl rfl rfl rfl rfl rfl rfl rfl ?_
          refine an rfl rfl rfl rfl rfl rfl rfl rfl ?_
          refine an rfl rfl rfl rfl rfl rfl rfl rfl ?_
          refine ap (.bool true) rfl rfl rfl (pu_pick (b := true) rfl (AEv.tmp rfl) (fun _ => (AEv.bool _)) (fun h => nomatch h)) ?_
          refine ap (.bool true) rfl rfl rfl (pu_move rfl (AEv.tmp rfl)) ?_
          refine an rfl rfl rfl rfl rfl rfl rfl rfl ?_
          refine an rfl rfl rfl rfl rfl rfl rfl rfl ?_
          refine an rfl rfl rfl rfl rfl rfl rfl rfl ?_
          refine ap (.bool true) rfl rfl rfl (pu_pick (b := true) rfl (AEv.tmp rfl) (fun _ => (AEv.bool _)) (fun h => nomatch h)) ?_
          refine aops_nil ?_
          obtain rfl := some_of h
          exact ⟨(), Weak.mkL [0] (by decide) ⟨⟨_, rfl, (CellsLe.refl _), rfl⟩, trivial⟩ ⟨AEv.tmp rfl, AEv.tmp rfl, trivial⟩⟩
        · replace h := ite_fb hb515 h
          refine aops_known 22 rfl hb515 ?_
          refine agp (.ptr p500 1) rfl rfl rfl rfl rfl rfl rfl (pu_fieldAddr rfl underlying78 rfl sizeOf3 (by decide) (AEv.tmp rfl) rfl) ?_
          refine ag rfl rfl rfl rfl rfl rfl rfl (op_load1 (i := 0) rfl isAgg3 (AEv.tmp rfl) rfl rfl ?_)
          refine agp (.bool (decide (c_.Quantum < 1))) rfl rfl rfl rfl rfl rfl rfl (pu_int (v := .bool (decide (c_.Quantum < 1))) rfl rfl (AEv.tmp rfl) (AEv.int _ _) rfl) ?_
          refine ap (.bool (decide (c_.Quantum < 1))) rfl rfl rfl (pu_pick (b := false) rfl (AEv.tmp rfl) (fun h => nomatch h) (fun _ => (AEv.tmp rfl))) ?_
          refine ap (.bool (decide (c_.Quantum < 1))) rfl rfl rfl (pu_move rfl (AEv.tmp rfl)) ?_
          rcases Bool.eq_false_or_eq_true (decide (c_.Quantum < 1)) with hb516 | hb516
          · replace h := ite_t (dec_t hb516) h
            refine aops_known 27 rfl hb516 ?_
            refine an rfl rfl rfl rfl rfl rfl rfl rfl ?_
            refine an rfl rfl rfl rfl rfl rfl rfl rfl ?_
            refine an rfl rfl rfl rfl rfl rfl rfl rfl ?_
            refine ap (.bool true) rfl rfl rfl (pu_pick (b := true) rfl (AEv.tmp rfl) (fun _ => (AEv.bool _)) (fun h => nomatch h)) ?_
            refine ap (.bool true) rfl rfl rfl (pu_move rfl (AEv.tmp rfl)) ?_
            refine an rfl rfl rfl rfl rfl rfl rfl rfl ?_
            refine an rfl rfl rfl rfl rfl rfl rfl rfl ?_
            refine an rfl rfl rfl rfl rfl rfl rfl rfl ?_
            refine ap (.bool true) rfl rfl rfl (pu_pick (b := true) rfl (AEv.tmp rfl) (fun _ => (AEv.bool _)) (fun h => nomatch h)) ?_
            refine ap (.bool true) rfl rfl rfl (pu_move rfl (AEv.tmp rfl)) ?_
            refine an rfl rfl rfl rfl rfl rfl rfl rfl ?_
            refine an rfl rfl rfl rfl rfl rfl rfl rfl ?_
            refine an rfl rfl rfl rfl rfl rfl rfl rfl ?_
            refine ap (.bool true) rfl rfl rfl (pu_pick (b := true) rfl (AEv.tmp rfl) (fun _ => (AEv.bool _)) (fun h => nomatch h)) ?_
            refine aops_nil ?_
            obtain rfl := some_of h
            exact ⟨(), Weak.mkL [0] (by decide) ⟨⟨_, rfl, (CellsLe.refl _), rfl⟩, trivial⟩ ⟨AEv.tmp rfl, AEv.tmp rfl, trivial⟩⟩
          · replace h := ite_f (dec_f hb516) h
            refine aops_known 27 rfl hb516 ?_
            refine agp (.ptr p500 1) rfl rfl rfl rfl rfl rfl rfl (pu_fieldAddr rfl underlying78 rfl sizeOf3 (by decide) (AEv.tmp rfl) rfl) ?_
            refine ag rfl rfl rfl rfl rfl rfl rfl (op_load1 (i := 0) rfl isAgg3 (AEv.tmp rfl) rfl rfl ?_)
            refine agp (.bool (decide (1000 < c_.Quantum))) rfl rfl rfl rfl rfl rfl rfl (pu_int (v := .bool (decide (1000 < c_.Quantum))) rfl rfl (AEv.tmp rfl) (AEv.int _ _) rfl) ?_
            refine ap (.bool (decide (1000 < c_.Quantum))) rfl rfl rfl (pu_pick (b := false) rfl (AEv.tmp rfl) (fun h => nomatch h) (fun _ => (AEv.tmp rfl))) ?_
            refine ap (.bool (decide (1000 < c_.Quantum))) rfl rfl rfl (pu_move rfl (AEv.tmp rfl)) ?_
            rcases Bool.eq_false_or_eq_true (decide (1000 < c_.Quantum)) with hb517 | hb517
            · replace h := ite_t (dec_t hb517) h
              refine aops_known 32 rfl hb517 ?_
              refine an rfl rfl rfl rfl rfl rfl rfl rfl ?_
              refine an rfl rfl rfl rfl rfl rfl rfl rfl ?_
              refine an rfl rfl rfl rfl rfl rfl rfl rfl ?_
              refine ap (.bool true) rfl rfl rfl (pu_pick (b := true) rfl (AEv.tmp rfl) (fun _ => (AEv.bool _)) (fun h => nomatch h)) ?_
              refine ap (.bool true) rfl rfl rfl (pu_move rfl (AEv.tmp rfl)) ?_
              refine an rfl rfl rfl rfl rfl rfl rfl rfl ?_
              refine an rfl rfl rfl rfl rfl rfl rfl rfl ?_
              refine an rfl rfl rfl rfl rfl rfl rfl rfl ?_
              refine ap (.bool true) rfl rfl rfl (pu_pick (b := true) rfl (AEv.tmp rfl) (fun _ => (AEv.bool _)) (fun h => nomatch h)) ?_
              refine aops_nil ?_
              obtain rfl := some_of h
              exact ⟨(), Weak.mkL [0] (by decide) ⟨⟨_, rfl, (CellsLe.refl _), rfl⟩, trivial⟩ ⟨AEv.tmp rfl, AEv.tmp rfl, trivial⟩⟩
            · replace h := ite_f (dec_f hb517) h
              refine aops_known 32 rfl hb517 ?_
              refine agp (.ptr p500 2) rfl rfl rfl rfl rfl rfl rfl (pu_fieldAddr rfl underlying78 rfl sizeOf2 (by decide) (AEv.tmp rfl) rfl) ?_
              refine ag rfl rfl rfl rfl rfl rfl rfl (op_load1 (i := 0) rfl isAgg2 (AEv.tmp rfl) rfl rfl ?_)
              refine agp (.bool (decide (c_.Deadline < 1))) rfl rfl rfl rfl rfl rfl rfl (pu_int (v := .bool (decide (c_.Deadline < 1))) rfl rfl (AEv.tmp rfl) (AEv.int _ _) rfl) ?_
              refine ap (.bool (decide (c_.Deadline < 1))) rfl rfl rfl (pu_pick (b := false) rfl (AEv.tmp rfl) (fun h => nomatch h) (fun _ => (AEv.tmp rfl))) ?_
              refine ap (.bool (decide (c_.Deadline < 1))) rfl rfl rfl (pu_move rfl (AEv.tmp rfl)) ?_
              rcases Bool.eq_false_or_eq_true (decide (c_.Deadline < 1)) with hb518 | hb518
              · replace h := ite_t (dec_t hb518) h
                refine aops_known 37 rfl hb518 ?_
                refine an rfl rfl rfl rfl rfl rfl rfl rfl ?_
                refine an rfl rfl rfl rfl rfl rfl rfl rfl ?_
                refine an rfl rfl rfl rfl rfl rfl rfl rfl ?_
                refine ap (.bool true) rfl rfl rfl (pu_pick (b := true) rfl (AEv.tmp rfl) (fun _ => (AEv.bool _)) (fun h => nomatch h)) ?_
                refine aops_nil ?_
                obtain rfl := some_of h
                exact ⟨(), Weak.mkL [0] (by decide) ⟨⟨_, rfl, (CellsLe.refl _), rfl⟩, trivial⟩ ⟨AEv.tmp rfl, AEv.tmp rfl, trivial⟩⟩
              · replace h := ite_f (dec_f hb518) h
                refine aops_known 37 rfl hb518 ?_
                refine agp (.ptr p500 2) rfl rfl rfl rfl rfl rfl rfl (pu_fieldAddr rfl underlying78 rfl sizeOf2 (by decide) (AEv.tmp rfl) rfl) ?_
                refine ag rfl rfl rfl rfl rfl rfl rfl (op_load1 (i := 0) rfl isAgg2 (AEv.tmp rfl) rfl rfl ?_)
                refine agp (.bool (decide (1099511627776 < c_.Deadline))) rfl rfl rfl rfl rfl rfl rfl (pu_int (v := .bool (decide (1099511627776 < c_.Deadline))) rfl rfl (AEv.tmp rfl) (AEv.int _ _) rfl) ?_
                refine ap (.bool (decide (1099511627776 < c_.Deadline))) rfl rfl rfl (pu_pick (b := false) rfl (AEv.tmp rfl) (fun h => nomatch h) (fun _ => (AEv.tmp rfl))) ?_
                refine aops_nil ?_
                obtain rfl := some_of h
                exact ⟨(), Weak.mkL [0] (by decide) ⟨⟨_, rfl, (CellsLe.refl _), rfl⟩, trivial⟩ ⟨AEv.tmp rfl, (AEv.le (AEv.tmp rfl) (AV.Le.refl _)), trivial⟩⟩
      · intro _
        have h := h512
        refine aw_cond (b := s511) (AEv.tmp rfl) (fun hb997 => ?_) (fun hb997 => ?_)
        · replace h := ite_t hb997 h
          refine aw_seq ?_
          refine aw_region ?_
          refine ap (.int .i64 1) rfl rfl rfl (pu_assign rfl (AEv.int _ _)) ?_
          refine aops_nil ?_
          refine aw_ret ?_
          obtain rfl := some_of h
          exact ⟨[.int .i64 1], _, [], ⟨(AEv.tmp rfl), trivial⟩, (AV.Le.refl _), Weak.mkL [] (by decide) trivial trivial, ⟨rfl, rfl⟩⟩
        · replace h := ite_fb hb997 h
          refine aw_skip ?_
          obtain ⟨s996, s996e, h757⟩ := bind_some h
          refine aw_join (σ := Unit) (ν := Unit) (fun u v => []) (fun u v => []) (fun u => s996 = .inl u) ?_ ?_
          · intro s756
            intro _
            rintro rfl
            have h := onSum_inl h757
            refine aw_seq ?_
            refine aw_region ?_
            refine ap (.int .i64 0) rfl rfl rfl (pu_assign rfl (AEv.int _ _)) ?_
            refine aops_nil ?_
            refine aw_ret ?_
            obtain rfl := some_of h
            exact ⟨[.int .i64 0], _, [], ⟨(AEv.tmp rfl), trivial⟩, (AV.Le.refl _), Weak.mkL [] (by decide) trivial trivial, ⟨rfl, rfl⟩⟩
          · have h := s996e
            refine aw_seq ?_
            refine aw_region ?_
            refine ap (.ptr p500 0) rfl rfl rfl (pu_fieldAddr rfl underlying78 rfl sizeOf76 (by decide) (AEv.tmp rfl) rfl) ?_
            refine ac rfl rfl rfl (op_load1 (i := 0) rfl isAgg76 (AEv.tmp rfl) rfl rfl ?_)
            refine ap (.int .i64 (c_.Tenants.length : Int)) rfl rfl rfl (pu_lenM rfl underlying76 (AEv.tmp rfl)) ?_
            refine ap (.int .i64 0) rfl rfl rfl (pu_move rfl (AEv.int _ _)) ?_
            refine aops_nil ?_
            refine aw_block ?_
            refine aw_while (σ := auth.Right.S0) (ν := Unit) (auth.Right.body0 c_) (fun s915 v => [(1, .ptr p500 0), (43, .sl .no 14 (c_.Tenants.map api.Tenant.av)), (44, .int .i64 (c_.Tenants.length : Int)), (45, .int .i64 s915.t45)]) (fun s915 v => [(p500, .cells [.sl .no 14 (c_.Tenants.map api.Tenant.av), .int .i64 c_.Quantum, .int .i64 c_.Deadline])]) ⟨0⟩ () _ h (Weak.mkL [0] (by decide) ⟨⟨_, rfl, (CellsLe.refl _), rfl⟩, trivial⟩ ⟨AEv.tmp rfl, AEv.tmp rfl, AEv.tmp rfl, AEv.tmp rfl, trivial⟩) ?_
            rintro s915 _ x917 h hx916
            unfold auth.Right.body0 at h
            refine aw_seq ?_
            refine aw_region ?_
            refine ap (.bool (decide (s915.t45 < (c_.Tenants.length : Int)))) rfl rfl rfl (pu_int (v := .bool (decide (s915.t45 < (c_.Tenants.length : Int)))) rfl rfl (AEv.tmp rfl) (AEv.tmp rfl) rfl) ?_
            refine aops_nil ?_
            refine aw_seq ?_
            refine aw_cond (b := decide (s915.t45 < (c_.Tenants.length : Int))) (AEv.tmp rfl) (fun hb995 => ?_) (fun hb995 => ?_)
            · replace h := ite_t (dec_t hb995) h
              refine aw_skip ?_
              obtain ⟨s994, s994e, h956⟩ := bind_some h
              refine aw_join (σ := Unit) (ν := Unit) (fun u v => [(1, .ptr p500 0), (43, .sl .no 14 (c_.Tenants.map api.Tenant.av)), (44, .int .i64 (c_.Tenants.length : Int)), (45, .int .i64 s915.t45)]) (fun u v => [(p500, .cells [.sl .no 14 (c_.Tenants.map api.Tenant.av), .int .i64 c_.Quantum, .int .i64 c_.Deadline])]) (fun u => s994 = .inl u) ?_ ?_
              · intro s955
                intro _
                rintro rfl
                have h := onSum_inl h956
                refine aw_region ?_
                refine ap (.int .i64 (IntKind.wrap .i64 (s915.t45 + 1))) rfl rfl rfl (pu_int (v := .int .i64 (IntKind.wrap .i64 (s915.t45 + 1))) rfl rfl (AEv.tmp rfl) (AEv.int _ _) rfl) ?_
                refine ap (.int .i64 (IntKind.wrap .i64 (s915.t45 + 1))) rfl rfl rfl (pu_move rfl (AEv.tmp rfl)) ?_
                refine aops_nil ?_
                obtain rfl := some_of h
                exact ⟨_, (), rfl, Weak.mkL [0] (by decide) ⟨⟨_, rfl, (CellsLe.refl _), rfl⟩, trivial⟩ ⟨AEv.tmp rfl, AEv.tmp rfl, AEv.tmp rfl, (AEv.le (AEv.tmp rfl) (AV.Le.refl _)), trivial⟩⟩
              · have h := s994e
                refine aw_block ?_
                refine aw_seq ?_
                refine aw_region ?_
                refine ap (.int .i64 s915.t45) rfl rfl rfl (pu_move rfl (AEv.tmp rfl)) ?_
                obtain ⟨c958, h⟩ := need_of h
                refine ap (.vptr [.str (ix c_.Tenants s915.t45).Name, .str (ix c_.Tenants s915.t45).Token, .int .i64 (ix c_.Tenants s915.t45).Memory, .int .i64 (ix c_.Tenants s915.t45).Policy, .int .i64 (ix c_.Tenants s915.t45).Conns, .int .i64 (ix c_.Tenants s915.t45).In, .int .i64 (ix c_.Tenants s915.t45).Out, .int .i64 (ix c_.Tenants s915.t45).Burst, .int .i64 (ix c_.Tenants s915.t45).Rate, .int .i64 (ix c_.Tenants s915.t45).Disk, .int .i64 (ix c_.Tenants s915.t45).Sync, .int .i64 (ix c_.Tenants s915.t45).Limits.Args, .int .i64 (ix c_.Tenants s915.t45).Limits.Bulk, .int .i64 (ix c_.Tenants s915.t45).Limits.Line]) rfl rfl rfl (pu_indexAddrM rfl underlying76 sizeOf53 (AEv.tmp rfl) (AEv.tmp rfl) c958 rfl) ?_
                refine ac rfl rfl rfl (op_loadVN rfl isAgg53 sizeOf53 (AEv.tmp rfl) (Nat.le_of_ble_eq_true rfl) rfl ?_)
                refine ac rfl rfl rfl (op_alloc (cs := [.str ([] : List UInt8), .str ([] : List UInt8), .int .i64 0, .int .i64 0, .int .i64 0, .int .i64 0, .int .i64 0, .int .i64 0, .int .i64 0, .int .i64 0, .int .i64 0, .int .i64 0, .int .i64 0, .int .i64 0]) (v := .agg [.str ([] : List UInt8), .str ([] : List UInt8), .int .i64 0, .int .i64 0, .int .i64 0, .int .i64 0, .int .i64 0, .int .i64 0, .int .i64 0, .int .i64 0, .int .i64 0, .int .i64 0, .int .i64 0, .int .i64 0]) rfl zeroValue53 rfl rfl rfl ?_)
                intro p959
                refine ap (.int .i64 s915.t45) rfl rfl rfl (pu_assign rfl (AEv.tmp rfl)) ?_
                refine ac0 rfl rfl (op_store (i := 0) (cs' := (api.Tenant.ct (ix c_.Tenants s915.t45))) rfl sizeOf53 (AEv.tmp rfl) (v := .agg (api.Tenant.ct (ix c_.Tenants s915.t45))) (AEv.tmp rfl) rfl rfl rfl (Nat.le_of_ble_eq_true rfl) rfl ?_)
                refine aops_nil ?_
                refine aw_seq ?_
                refine aw_region ?_
                refine ap (.ptr p500 0) rfl rfl rfl (pu_fieldAddr rfl underlying78 rfl sizeOf76 (by decide) (AEv.tmp rfl) rfl) ?_
                refine ac rfl rfl rfl (op_load1 (i := 1) rfl isAgg76 (AEv.tmp rfl) rfl rfl ?_)
                refine ap (.int .i64 s915.t45) rfl rfl rfl (pu_move rfl (AEv.tmp rfl)) ?_
                obtain ⟨c960, h⟩ := need_of h
                refine ap (.sl .no 14 ((sub c_.Tenants 0 s915.t45).map api.Tenant.av)) rfl rfl rfl (pu_sliceM rfl underlying76 sizeOf53 (AEv.tmp rfl) rfl ⟨_, (AEv.tmp rfl)⟩ c960) ?_
                refine ap (.int .i64 ((sub c_.Tenants 0 s915.t45).length : Int)) rfl rfl rfl (pu_lenM rfl underlying76 (AEv.tmp rfl)) ?_
                refine ap (.int .i64 0) rfl rfl rfl (pu_move rfl (AEv.int _ _)) ?_
                refine aops_nil ?_
                refine aw_block ?_
                refine aw_while (σ := auth.Right.S2) (ν := Unit) (auth.Right.body2 c_ s915) (fun s981 v => [(1, .ptr p500 0), (5, .ptr p959 0), (43, .sl .no 14 (c_.Tenants.map api.Tenant.av)), (44, .int .i64 (c_.Tenants.length : Int)), (45, .int .i64 s915.t45), (53, .sl .no 14 ((sub c_.Tenants 0 s915.t45).map api.Tenant.av)), (54, .int .i64 ((sub c_.Tenants 0 s915.t45).length : Int)), (55, .int .i64 s981.t55)]) (fun s981 v => [(p500, .cells [.sl .no 14 (c_.Tenants.map api.Tenant.av), .int .i64 c_.Quantum, .int .i64 c_.Deadline]), (p959, .cells (api.Tenant.ct (ix c_.Tenants s915.t45)))]) ⟨0⟩ () _ h (Weak.mkL [1, 0] (by decide) ⟨⟨_, rfl, (CellsLe.refl _), rfl⟩, ⟨_, rfl, (CellsLe.refl _), rfl⟩, trivial⟩ ⟨AEv.tmp rfl, AEv.tmp rfl, AEv.tmp rfl, AEv.tmp rfl, AEv.tmp rfl, AEv.tmp rfl, AEv.tmp rfl, AEv.tmp rfl, trivial⟩) ?_
                rintro s981 _ x983 h hx982
                unfold auth.Right.body2 at h
                refine aw_seq ?_
                refine aw_region ?_
                refine ap (.bool (decide (s981.t55 < ((sub c_.Tenants 0 s915.t45).length : Int)))) rfl rfl rfl (pu_int (v := .bool (decide (s981.t55 < ((sub c_.Tenants 0 s915.t45).length : Int)))) rfl rfl (AEv.tmp rfl) (AEv.tmp rfl) rfl) ?_
                refine aops_nil ?_
                refine aw_seq ?_
                refine aw_cond (b := decide (s981.t55 < ((sub c_.Tenants 0 s915.t45).length : Int))) (AEv.tmp rfl) (fun hb993 => ?_) (fun hb993 => ?_)
                · replace h := ite_t (dec_t hb993) h
                  refine aw_skip ?_
                  refine aw_seq ?_
                  refine aw_block ?_
                  refine aw_seq ?_
                  refine aw_region ?_
                  obtain ⟨c985, h⟩ := need_of h
                  refine ap (.vptr [.str (ix (sub c_.Tenants 0 s915.t45) s981.t55).Name, .str (ix (sub c_.Tenants 0 s915.t45) s981.t55).Token, .int .i64 (ix (sub c_.Tenants 0 s915.t45) s981.t55).Memory, .int .i64 (ix (sub c_.Tenants 0 s915.t45) s981.t55).Policy, .int .i64 (ix (sub c_.Tenants 0 s915.t45) s981.t55).Conns, .int .i64 (ix (sub c_.Tenants 0 s915.t45) s981.t55).In, .int .i64 (ix (sub c_.Tenants 0 s915.t45) s981.t55).Out, .int .i64 (ix (sub c_.Tenants 0 s915.t45) s981.t55).Burst, .int .i64 (ix (sub c_.Tenants 0 s915.t45) s981.t55).Rate, .int .i64 (ix (sub c_.Tenants 0 s915.t45) s981.t55).Disk, .int .i64 (ix (sub c_.Tenants 0 s915.t45) s981.t55).Sync, .int .i64 (ix (sub c_.Tenants 0 s915.t45) s981.t55).Limits.Args, .int .i64 (ix (sub c_.Tenants 0 s915.t45) s981.t55).Limits.Bulk, .int .i64 (ix (sub c_.Tenants 0 s915.t45) s981.t55).Limits.Line]) rfl rfl rfl (pu_indexAddrM rfl underlying76 sizeOf53 (AEv.tmp rfl) (AEv.tmp rfl) c985 rfl) ?_
                  refine ac rfl rfl rfl (op_loadVN rfl isAgg53 sizeOf53 (AEv.tmp rfl) (Nat.le_of_ble_eq_true rfl) rfl ?_)
                  refine ac rfl rfl rfl (op_alloc (cs := [.str ([] : List UInt8), .str ([] : List UInt8), .int .i64 0, .int .i64 0, .int .i64 0, .int .i64 0, .int .i64 0, .int .i64 0, .int .i64 0, .int .i64 0, .int .i64 0, .int .i64 0, .int .i64 0, .int .i64 0]) (v := .agg [.str ([] : List UInt8), .str ([] : List UInt8), .int .i64 0, .int .i64 0, .int .i64 0, .int .i64 0, .int .i64 0, .int .i64 0, .int .i64 0, .int .i64 0, .int .i64 0, .int .i64 0, .int .i64 0, .int .i64 0]) rfl zeroValue53 rfl rfl rfl ?_)
                  intro p986
                  refine ac0 rfl rfl (op_store (i := 0) (cs' := [.str (ix (sub c_.Tenants 0 s915.t45) s981.t55).Name, .str (ix (sub c_.Tenants 0 s915.t45) s981.t55).Token, .int .i64 (ix (sub c_.Tenants 0 s915.t45) s981.t55).Memory, .int .i64 (ix (sub c_.Tenants 0 s915.t45) s981.t55).Policy, .int .i64 (ix (sub c_.Tenants 0 s915.t45) s981.t55).Conns, .int .i64 (ix (sub c_.Tenants 0 s915.t45) s981.t55).In, .int .i64 (ix (sub c_.Tenants 0 s915.t45) s981.t55).Out, .int .i64 (ix (sub c_.Tenants 0 s915.t45) s981.t55).Burst, .int .i64 (ix (sub c_.Tenants 0 s915.t45) s981.t55).Rate, .int .i64 (ix (sub c_.Tenants 0 s915.t45) s981.t55).Disk, .int .i64 (ix (sub c_.Tenants 0 s915.t45) s981.t55).Sync, .int .i64 (ix (sub c_.Tenants 0 s915.t45) s981.t55).Limits.Args, .int .i64 (ix (sub c_.Tenants 0 s915.t45) s981.t55).Limits.Bulk, .int .i64 (ix (sub c_.Tenants 0 s915.t45) s981.t55).Limits.Line]) rfl sizeOf53 (AEv.tmp rfl) (v := .agg [.str (ix (sub c_.Tenants 0 s915.t45) s981.t55).Name, .str (ix (sub c_.Tenants 0 s915.t45) s981.t55).Token, .int .i64 (ix (sub c_.Tenants 0 s915.t45) s981.t55).Memory, .int .i64 (ix (sub c_.Tenants 0 s915.t45) s981.t55).Policy, .int .i64 (ix (sub c_.Tenants 0 s915.t45) s981.t55).Conns, .int .i64 (ix (sub c_.Tenants 0 s915.t45) s981.t55).In, .int .i64 (ix (sub c_.Tenants 0 s915.t45) s981.t55).Out, .int .i64 (ix (sub c_.Tenants 0 s915.t45) s981.t55).Burst, .int .i64 (ix (sub c_.Tenants 0 s915.t45) s981.t55).Rate, .int .i64 (ix (sub c_.Tenants 0 s915.t45) s981.t55).Disk, .int .i64 (ix (sub c_.Tenants 0 s915.t45) s981.t55).Sync, .int .i64 (ix (sub c_.Tenants 0 s915.t45) s981.t55).Limits.Args, .int .i64 (ix (sub c_.Tenants 0 s915.t45) s981.t55).Limits.Bulk, .int .i64 (ix (sub c_.Tenants 0 s915.t45) s981.t55).Limits.Line]) (AEv.tmp rfl) rfl rfl rfl (Nat.le_of_ble_eq_true rfl) rfl ?_)
                  refine aops_nil ?_
                  obtain ⟨s988, s988e, h989⟩ := letO_of h
                  refine aw_meet (ν := Unit) (fun v => [(1, .ptr p500 0), (5, .ptr p959 0), (43, .sl .no 14 (c_.Tenants.map api.Tenant.av)), (44, .int .i64 (c_.Tenants.length : Int)), (45, .int .i64 s915.t45), (53, .sl .no 14 ((sub c_.Tenants 0 s915.t45).map api.Tenant.av)), (54, .int .i64 ((sub c_.Tenants 0 s915.t45).length : Int)), (55, .int .i64 s981.t55), (70, .bool s988)]) (fun v => [(p500, .cells [.sl .no 14 (c_.Tenants.map api.Tenant.av), .int .i64 c_.Quantum, .int .i64 c_.Deadline]), (p959, .cells (api.Tenant.ct (ix c_.Tenants s915.t45)))]) ?_ ?_
                  · have h := s988e.symm
                    refine aw_region ?_
                    refine ap (.ptr p959 0) rfl rfl rfl (pu_fieldAddr rfl underlying53 rfl sizeOf9 (by decide) (AEv.tmp rfl) rfl) ?_
                    refine ac rfl rfl rfl (op_load1 (i := 2) rfl isAgg9 (AEv.tmp rfl) rfl rfl ?_)
                    refine ap (.ptr p986 0) rfl rfl rfl (pu_fieldAddr rfl underlying53 rfl sizeOf9 (by decide) (AEv.tmp rfl) rfl) ?_
                    refine ac rfl rfl rfl (op_load1 (i := 0) rfl isAgg9 (AEv.tmp rfl) rfl rfl ?_)
                    refine ap (.bool (decide ((ix c_.Tenants s915.t45).Name = (ix (sub c_.Tenants 0 s915.t45) s981.t55).Name))) rfl rfl rfl (pu_str (v := .bool (decide ((ix c_.Tenants s915.t45).Name = (ix (sub c_.Tenants 0 s915.t45) s981.t55).Name))) rfl rfl (AEv.tmp rfl) (AEv.tmp rfl) rfl) ?_
                    refine ap (.bool (decide ((ix c_.Tenants s915.t45).Name = (ix (sub c_.Tenants 0 s915.t45) s981.t55).Name))) rfl rfl rfl (pu_move rfl (AEv.tmp rfl)) ?_
                    rcases Bool.eq_false_or_eq_true (decide ((ix c_.Tenants s915.t45).Name = (ix (sub c_.Tenants 0 s915.t45) s981.t55).Name)) with hb991 | hb991
                    · replace h := ite_t (dec_t hb991) h
                      refine aops_known 64 rfl hb991 ?_
                      refine an rfl rfl rfl rfl rfl rfl rfl rfl ?_
                      refine an rfl rfl rfl rfl rfl rfl rfl rfl ?_
                      refine an rfl rfl rfl rfl rfl rfl rfl rfl ?_
                      refine an rfl rfl rfl rfl rfl rfl rfl rfl ?_
                      refine an rfl rfl rfl rfl rfl rfl rfl rfl ?_
                      refine ap (.bool true) rfl rfl rfl (pu_pick (b := true) rfl (AEv.tmp rfl) (fun _ => (AEv.bool _)) (fun h => nomatch h)) ?_
                      refine aops_nil ?_
                      subst h
                      exact ⟨(), Weak.mkL [1, 2] (by decide) ⟨⟨_, rfl, (CellsLe.refl _), rfl⟩, ⟨_, rfl, (CellsLe.refl _), rfl⟩, trivial⟩ ⟨AEv.tmp rfl, AEv.tmp rfl, AEv.tmp rfl, AEv.tmp rfl, AEv.tmp rfl, AEv.tmp rfl, AEv.tmp rfl, AEv.tmp rfl, AEv.tmp rfl, trivial⟩⟩
                    · replace h := ite_f (dec_f hb991) h
                      refine aops_known 64 rfl hb991 ?_
                      refine agp (.ptr p959 1) rfl rfl rfl rfl rfl rfl rfl (pu_fieldAddr rfl underlying53 rfl sizeOf9 (by decide) (AEv.tmp rfl) rfl) ?_
                      refine ag rfl rfl rfl rfl rfl rfl rfl (op_load1 (i := 2) rfl isAgg9 (AEv.tmp rfl) rfl rfl ?_)
                      refine agp (.ptr p986 1) rfl rfl rfl rfl rfl rfl rfl (pu_fieldAddr rfl underlying53 rfl sizeOf9 (by decide) (AEv.tmp rfl) rfl) ?_
                      refine ag rfl rfl rfl rfl rfl rfl rfl (op_load1 (i := 0) rfl isAgg9 (AEv.tmp rfl) rfl rfl ?_)
                      refine agp (.bool (decide ((ix c_.Tenants s915.t45).Token = (ix (sub c_.Tenants 0 s915.t45) s981.t55).Token))) rfl rfl rfl rfl rfl rfl rfl (pu_str (v := .bool (decide ((ix c_.Tenants s915.t45).Token = (ix (sub c_.Tenants 0 s915.t45) s981.t55).Token))) rfl rfl (AEv.tmp rfl) (AEv.tmp rfl) rfl) ?_
                      refine ap (.bool (decide ((ix c_.Tenants s915.t45).Token = (ix (sub c_.Tenants 0 s915.t45) s981.t55).Token))) rfl rfl rfl (pu_pick (b := false) rfl (AEv.tmp rfl) (fun h => nomatch h) (fun _ => (AEv.tmp rfl))) ?_
                      refine aops_nil ?_
                      subst h
                      exact ⟨(), Weak.mkL [1, 2] (by decide) ⟨⟨_, rfl, (CellsLe.refl _), rfl⟩, ⟨_, rfl, (CellsLe.refl _), rfl⟩, trivial⟩ ⟨AEv.tmp rfl, AEv.tmp rfl, AEv.tmp rfl, AEv.tmp rfl, AEv.tmp rfl, AEv.tmp rfl, AEv.tmp rfl, AEv.tmp rfl, (AEv.le (AEv.tmp rfl) (AV.Le.refl _)), trivial⟩⟩
                  · intro _
                    have h := h989
                    refine aw_cond (b := s988) (AEv.tmp rfl) (fun hb992 => ?_) (fun hb992 => ?_)
                    · replace h := ite_t hb992 h
                      refine aw_seq ?_
                      refine aw_region ?_
                      refine ap (.int .i64 9) rfl rfl rfl (pu_assign rfl (AEv.int _ _)) ?_
                      refine aops_nil ?_
                      refine aw_ret ?_
                      obtain rfl := some_of h
                      have h := congrArg some (hx982 _ rfl)
                      obtain rfl := some_of h
                      have h := onSum_inr h956
                      obtain rfl := some_of h
                      have h := congrArg some (hx916 _ rfl)
                      obtain rfl := some_of h
                      have h := onSum_inr h757
                      obtain rfl := some_of h
                      exact ⟨[.int .i64 9], _, [], ⟨(AEv.tmp rfl), trivial⟩, (AV.Le.refl _), Weak.mkL [] (by decide) trivial trivial, ⟨rfl, rfl⟩⟩
                    · replace h := ite_fb hb992 h
                      refine aw_skip ?_
                      refine aw_region ?_
                      refine ap (.int .i64 (IntKind.wrap .i64 (s981.t55 + 1))) rfl rfl rfl (pu_int (v := .int .i64 (IntKind.wrap .i64 (s981.t55 + 1))) rfl rfl (AEv.tmp rfl) (AEv.int _ _) rfl) ?_
                      refine ap (.int .i64 (IntKind.wrap .i64 (s981.t55 + 1))) rfl rfl rfl (pu_move rfl (AEv.tmp rfl)) ?_
                      refine aops_nil ?_
                      obtain rfl := some_of h
                      exact ⟨_, (), rfl, Weak.mkL [0, 1] (by decide) ⟨⟨_, rfl, (CellsLe.refl _), rfl⟩, ⟨_, rfl, (CellsLe.refl _), rfl⟩, trivial⟩ ⟨AEv.tmp rfl, AEv.tmp rfl, AEv.tmp rfl, AEv.tmp rfl, AEv.tmp rfl, AEv.tmp rfl, AEv.tmp rfl, (AEv.le (AEv.tmp rfl) (AV.Le.refl _)), trivial⟩⟩
                · replace h := ite_f (dec_f hb993) h
                  refine aw_exit ?_
                  obtain rfl := some_of h
                  have h := congrArg some (hx982 _ rfl)
                  exact ⟨(), (), (some_of h).symm, Weak.mkL [0] (by decide) ⟨⟨_, rfl, (CellsLe.refl _), rfl⟩, trivial⟩ ⟨AEv.tmp rfl, AEv.tmp rfl, AEv.tmp rfl, AEv.tmp rfl, trivial⟩⟩
            · replace h := ite_f (dec_f hb995) h
              refine aw_exit ?_
              obtain rfl := some_of h
              have h := congrArg some (hx916 _ rfl)
              exact ⟨(), (), (some_of h).symm, Weak.mkL [] (by decide) trivial trivial⟩

theorem auth.Label.ok {c_ : api.Config} {pieces : List (List UInt8)} {r : Int} (h : auth.Label c_ pieces = some r) : Go.Lift.Spec prog 49 [.agg [.sl .no 14 (c_.Tenants.map api.Tenant.av), .int .i64 c_.Quantum, .int .i64 c_.Deadline], .sl .no 1 (pieces.map AV.str)] [] (fun v H => v = .int .i64 r ∧ H = []) := by
  unfold auth.Label at h
  refine Go.Lift.Spec.of_body (rs := [.tmp 4]) func49 rfl rfl (Nat.le_of_ble_eq_true rfl) rfl ?_
  refine aw_seq ?_
  refine aw_region ?_
  refine ac rfl rfl rfl (op_box (cs := [.sl .no 14 (c_.Tenants.map api.Tenant.av), .int .i64 c_.Quantum, .int .i64 c_.Deadline]) (v := .agg [.sl .no 14 (c_.Tenants.map api.Tenant.av), .int .i64 c_.Quantum, .int .i64 c_.Deadline]) rfl (AEv.tmp rfl) rfl rfl ?_)
  intro p49
  refine ap (.int .i64 0) rfl rfl rfl (pu_assign rfl (AEv.int _ _)) ?_
  refine aops_nil ?_
  refine aw_seq ?_
  refine aw_region ?_
  refine ap (.agg [.str ([] : List UInt8), .sl .full 1 (([] : List (List UInt8)).map AV.str), .int .i64 0, .int .i64 0, .bool false, .int .i64 0, .int .i64 0]) rfl rfl rfl (pu_build (zs := [.str ([] : List UInt8), .sl .full 1 (([] : List (List UInt8)).map AV.str), .int .i64 0, .int .i64 0, .bool false, .int .i64 0, .int .i64 0]) (szs := [1, 1, 1, 1, 1, 1, 1]) (aparts := []) (cs := [.str ([] : List UInt8), .sl .full 1 (([] : List (List UInt8)).map AV.str), .int .i64 0, .int .i64 0, .bool false, .int .i64 0, .int .i64 0]) rfl underlying29 zeroValue29 rfl ⟨sizeOf9, sizeOf26, sizeOf3, sizeOf3, sizeOf4, sizeOf3, sizeOf27, trivial⟩ trivial rfl) ?_
  refine ac rfl rfl rfl (op_alloc (cs := [.str ([] : List UInt8), .sl .full 1 (([] : List (List UInt8)).map AV.str), .int .i64 0, .int .i64 0, .bool false, .int .i64 0, .int .i64 0]) (v := .agg [.str ([] : List UInt8), .sl .full 1 (([] : List (List UInt8)).map AV.str), .int .i64 0, .int .i64 0, .bool false, .int .i64 0, .int .i64 0]) rfl zeroValue29 rfl rfl rfl ?_)
  intro p50
  refine ac0 rfl rfl (op_store (i := 0) (cs' := [.str ([] : List UInt8), .sl .full 1 (([] : List (List UInt8)).map AV.str), .int .i64 0, .int .i64 0, .bool false, .int .i64 0, .int .i64 0]) rfl sizeOf29 (AEv.tmp rfl) (v := .agg [.str ([] : List UInt8), .sl .full 1 (([] : List (List UInt8)).map AV.str), .int .i64 0, .int .i64 0, .bool false, .int .i64 0, .int .i64 0]) (AEv.tmp rfl) rfl rfl rfl (Nat.le_of_ble_eq_true rfl) rfl ?_)
  refine aops_nil ?_
  obtain ⟨s96, s96e, h73⟩ := bind_some h
  refine aw_join (σ := Unit) (ν := Unit) (fun u v => []) (fun u v => []) (fun u => s96 = .inl u) ?_ ?_
  · intro s72
    intro _
    rintro rfl
    have h := onSum_inl h73
    refine aw_seq ?_
    refine aw_region ?_
    refine ap (.int .i64 (-1)) rfl rfl rfl (pu_assign rfl (AEv.int _ _)) ?_
    refine aops_nil ?_
    refine aw_ret ?_
    obtain rfl := some_of h
    exact ⟨[.int .i64 (-1)], _, [], ⟨(AEv.tmp rfl), trivial⟩, (AV.Le.refl _), Weak.mkL [] (by decide) trivial trivial, ⟨rfl, rfl⟩⟩
  · have h := s96e
    refine aw_seq ?_
    refine aw_region ?_
    refine ap (.sl .no 1 (pieces.map AV.str)) rfl rfl rfl (pu_move rfl (AEv.tmp rfl)) ?_
    refine ap (.int .i64 (pieces.length : Int)) rfl rfl rfl (pu_lenM rfl underlying26 (AEv.tmp rfl)) ?_
    refine ap (.int .i64 0) rfl rfl rfl (pu_move rfl (AEv.int _ _)) ?_
    refine aops_nil ?_
    refine aw_block ?_
    refine aw_while (σ := auth.Label.S0) (ν := Unit) (auth.Label.body0 pieces c_) (fun s87 v => [(2, .ptr p49 0), (5, .ptr p50 0), (13, .sl .no 1 (pieces.map AV.str)), (14, .int .i64 (pieces.length : Int)), (15, .int .i64 s87.t15)]) (fun s87 v => [(p49, .cells [.sl .no 14 (c_.Tenants.map api.Tenant.av), .int .i64 c_.Quantum, .int .i64 c_.Deadline]), (p50, .cells [.str s87.c, .sl .no 1 (s87.c2.map AV.str), .int .i64 s87.c3, .int .i64 s87.c4, .bool s87.c5, .int .i64 s87.c6, .int .i64 s87.c7])]) ⟨0, ([] : List UInt8), ([] : List (List UInt8)), 0, 0, false, 0, 0⟩ () _ h (Weak.mkL [1, 0] (by decide) ⟨⟨_, rfl, (CellsLe.refl _), rfl⟩, ⟨_, rfl, ⟨(AV.Le.refl _), (AV.Le.forget _ _ _), (AV.Le.refl _), (AV.Le.refl _), (AV.Le.refl _), (AV.Le.refl _), (AV.Le.refl _), trivial⟩, rfl⟩, trivial⟩ ⟨AEv.tmp rfl, AEv.tmp rfl, AEv.tmp rfl, AEv.tmp rfl, AEv.tmp rfl, trivial⟩) ?_
    rintro s87 _ x89 h hx88
    unfold auth.Label.body0 at h
    refine aw_seq ?_
    refine aw_region ?_
    refine ap (.bool (decide (s87.t15 < (pieces.length : Int)))) rfl rfl rfl (pu_int (v := .bool (decide (s87.t15 < (pieces.length : Int)))) rfl rfl (AEv.tmp rfl) (AEv.tmp rfl) rfl) ?_
    refine aops_nil ?_
    refine aw_seq ?_
    refine aw_cond (b := decide (s87.t15 < (pieces.length : Int))) (AEv.tmp rfl) (fun hb95 => ?_) (fun hb95 => ?_)
    · replace h := ite_t (dec_t hb95) h
      refine aw_skip ?_
      refine aw_seq ?_
      refine aw_block ?_
      refine aw_seq ?_
      refine aw_region ?_
      obtain ⟨c91, h⟩ := need_of h
      refine ap (.vptr [.str (ix pieces s87.t15)]) rfl rfl rfl (pu_indexAddrM rfl underlying26 sizeOf9 (AEv.tmp rfl) (AEv.tmp rfl) c91 rfl) ?_
      refine ac rfl rfl rfl (op_loadV1 rfl isAgg9 (AEv.tmp rfl) rfl ?_)
      refine ap (.str (ix pieces s87.t15)) rfl rfl rfl (pu_assign rfl (AEv.tmp rfl)) ?_
      refine aops_nil ?_
      refine aw_seq ?_
      refine aw_region ?_
      refine ac rfl rfl rfl (op_loadN (i := 0) rfl isAgg78 sizeOf78 (AEv.tmp rfl) rfl (Nat.le_of_ble_eq_true rfl) rfl ?_)
      refine ac rfl rfl rfl (op_loadN (i := 1) rfl isAgg29 sizeOf29 (AEv.tmp rfl) rfl (Nat.le_of_ble_eq_true rfl) rfl ?_)
      refine ap (.str (ix pieces s87.t15)) rfl rfl rfl (pu_move rfl (AEv.tmp rfl)) ?_
      obtain ⟨r92, r92e, h⟩ := bind_some h
      refine ac rfl rfl rfl (op_call (vs := [.agg [.sl .no 14 (c_.Tenants.map api.Tenant.av), .int .i64 c_.Quantum, .int .i64 c_.Deadline], .agg [.str s87.c, .sl .no 1 (s87.c2.map AV.str), .int .i64 s87.c3, .int .i64 s87.c4, .bool s87.c5, .int .i64 s87.c6, .int .i64 s87.c7], .str (ix pieces s87.t15)]) (H := []) rfl call47 ⟨(AEv.tmp rfl), (AEv.tmp rfl), (AEv.tmp rfl), trivial⟩ (List.Perm.refl _) (auth.First.ok r92e) ?_)
      rintro _ _ ⟨rfl, rfl⟩
      refine ap (.tup [.agg (api.Input.ct .no r92.1), .str r92.2.1, .int .i64 r92.2.2.1, .int .i64 r92.2.2.2]) rfl rfl rfl (pu_move rfl (AEv.tmp rfl)) ?_
      refine ap (.agg (api.Input.ct .no r92.1)) rfl rfl rfl (pu_extract rfl (AEv.tmp rfl) (Nat.le_of_ble_eq_true rfl) rfl) ?_
      refine ap (.str r92.2.1) rfl rfl rfl (pu_extract rfl (AEv.tmp rfl) (Nat.le_of_ble_eq_true rfl) rfl) ?_
      refine ap (.int .i64 r92.2.2.1) rfl rfl rfl (pu_extract rfl (AEv.tmp rfl) (Nat.le_of_ble_eq_true rfl) rfl) ?_
      refine ap (.int .i64 r92.2.2.2) rfl rfl rfl (pu_extract rfl (AEv.tmp rfl) (Nat.le_of_ble_eq_true rfl) rfl) ?_
      refine ac rfl rfl rfl (op_alloc (cs := [.str ([] : List UInt8), .sl .full 1 (([] : List (List UInt8)).map AV.str), .int .i64 0, .int .i64 0, .bool false, .int .i64 0, .int .i64 0]) (v := .agg [.str ([] : List UInt8), .sl .full 1 (([] : List (List UInt8)).map AV.str), .int .i64 0, .int .i64 0, .bool false, .int .i64 0, .int .i64 0]) rfl zeroValue29 rfl rfl rfl ?_)
      intro p93
      refine ac0 rfl rfl (op_store (i := 0) (cs' := (api.Input.ct .no r92.1)) rfl sizeOf29 (AEv.tmp rfl) (v := .agg (api.Input.ct .no r92.1)) (AEv.tmp rfl) rfl rfl rfl (Nat.le_of_ble_eq_true rfl) rfl ?_)
      refine ap (.str r92.2.1) rfl rfl rfl (pu_assign rfl (AEv.tmp rfl)) ?_
      refine ap (.int .i64 r92.2.2.1) rfl rfl rfl (pu_assign rfl (AEv.tmp rfl)) ?_
      refine ap (.int .i64 r92.2.2.2) rfl rfl rfl (pu_assign rfl (AEv.tmp rfl)) ?_
      refine aops_nil ?_
      refine aw_seq ?_
      refine aw_seq ?_
      refine aw_region ?_
      refine ap (.int .i64 r92.2.2.2) rfl rfl rfl (pu_move rfl (AEv.tmp rfl)) ?_
      refine ap (.bool (!decide (r92.2.2.2 = 0))) rfl rfl rfl (pu_int (v := .bool (!decide (r92.2.2.2 = 0))) rfl rfl (AEv.tmp rfl) (AEv.int _ _) rfl) ?_
      refine aops_nil ?_
      refine aw_cond (b := (!decide (r92.2.2.2 = 0))) (AEv.tmp rfl) (fun hb94 => ?_) (fun hb94 => ?_)
      · replace h := ite_f (ndec_t hb94) h
        refine aw_seq ?_
        refine aw_region ?_
        refine ap (.int .i64 r92.2.2.1) rfl rfl rfl (pu_move rfl (AEv.tmp rfl)) ?_
        refine ap (.int .i64 r92.2.2.1) rfl rfl rfl (pu_assign rfl (AEv.tmp rfl)) ?_
        refine aops_nil ?_
        refine aw_ret ?_
        obtain rfl := some_of h
        have h := congrArg some (hx88 _ rfl)
        obtain rfl := some_of h
        have h := onSum_inr h73
        obtain rfl := some_of h
        exact ⟨[.int .i64 r92.2.2.1], _, [], ⟨(AEv.tmp rfl), trivial⟩, (AV.Le.refl _), Weak.mkL [] (by decide) trivial trivial, ⟨rfl, rfl⟩⟩
      · replace h := ite_t (ndec_f hb94) h
        refine aw_skip ?_
        refine aw_region ?_
        refine ac rfl rfl rfl (op_loadN (i := 0) rfl isAgg29 sizeOf29 (AEv.tmp rfl) rfl (Nat.le_of_ble_eq_true rfl) rfl ?_)
        refine ac0 rfl rfl (op_store (i := 2) (cs' := (api.Input.ct .no r92.1)) rfl sizeOf29 (AEv.tmp rfl) (v := .agg (api.Input.ct .no r92.1)) (AEv.tmp rfl) rfl rfl rfl (Nat.le_of_ble_eq_true rfl) rfl ?_)
        refine aops_nil ?_
        refine aw_region ?_
        refine ap (.int .i64 (IntKind.wrap .i64 (s87.t15 + 1))) rfl rfl rfl (pu_int (v := .int .i64 (IntKind.wrap .i64 (s87.t15 + 1))) rfl rfl (AEv.tmp rfl) (AEv.int _ _) rfl) ?_
        refine ap (.int .i64 (IntKind.wrap .i64 (s87.t15 + 1))) rfl rfl rfl (pu_move rfl (AEv.tmp rfl)) ?_
        refine aops_nil ?_
        obtain rfl := some_of h
        exact ⟨_, (), rfl, Weak.mkL [1, 2] (by decide) ⟨⟨_, rfl, (CellsLe.refl _), rfl⟩, ⟨_, rfl, (CellsLe.refl _), rfl⟩, trivial⟩ ⟨AEv.tmp rfl, AEv.tmp rfl, AEv.tmp rfl, AEv.tmp rfl, (AEv.le (AEv.tmp rfl) (AV.Le.refl _)), trivial⟩⟩
    · replace h := ite_f (dec_f hb95) h
      refine aw_exit ?_
      obtain rfl := some_of h
      have h := congrArg some (hx88 _ rfl)
      exact ⟨(), (), (some_of h).symm, Weak.mkL [] (by decide) trivial trivial⟩

theorem mewslaw42.alive.ok  {r : Bool} (h : mewslaw42.alive = some r) : Go.Lift.Spec prog 42 [] [] (fun v H => v = .bool r ∧ H = []) := by
  unfold mewslaw42.alive at h
  refine Go.Lift.Spec.of_body (rs := [.tmp 0]) func42 rfl rfl (Nat.le_of_ble_eq_true rfl) rfl ?_
  refine aw_seq ?_
  refine aw_region ?_
  refine ap (.bool false) rfl rfl rfl (pu_assign rfl (AEv.bool _)) ?_
  refine aops_nil ?_
  refine aw_seq ?_
  refine aw_region ?_
  obtain ⟨r26, r26e, h⟩ := bind_some h
  refine ac rfl rfl rfl (op_call (vs := []) (H := []) rfl call62 trivial (List.Perm.refl _) (mewslaw42.some_.ok r26e) ?_)
  rintro _ _ ⟨rfl, rfl⟩
  refine ac rfl rfl rfl (op_alloc (cs := [.sl .full 14 (([] : List api.Tenant).map api.Tenant.av), .int .i64 0, .int .i64 0]) (v := .agg [.sl .full 14 (([] : List api.Tenant).map api.Tenant.av), .int .i64 0, .int .i64 0]) rfl zeroValue78 rfl rfl rfl ?_)
  intro p27
  refine ac0 rfl rfl (op_store (i := 0) (cs' := [.sl .full 14 (r26.Tenants.map api.Tenant.av), .int .i64 r26.Quantum, .int .i64 r26.Deadline]) rfl sizeOf78 (AEv.tmp rfl) (v := .agg [.sl .full 14 (r26.Tenants.map api.Tenant.av), .int .i64 r26.Quantum, .int .i64 r26.Deadline]) (AEv.tmp rfl) rfl rfl rfl (Nat.le_of_ble_eq_true rfl) rfl ?_)
  refine aops_nil ?_
  refine aw_seq ?_
  refine aw_region ?_
  refine ac rfl rfl rfl (op_loadN (i := 0) rfl isAgg78 sizeOf78 (AEv.tmp rfl) rfl (Nat.le_of_ble_eq_true rfl) rfl ?_)
  refine ap (.agg [.str ([] : List UInt8), .sl .full 1 (([] : List (List UInt8)).map AV.str), .int .i64 0, .int .i64 0, .bool false, .int .i64 0, .int .i64 0]) rfl rfl rfl (pu_build (zs := [.str ([] : List UInt8), .sl .full 1 (([] : List (List UInt8)).map AV.str), .int .i64 0, .int .i64 0, .bool false, .int .i64 0, .int .i64 0]) (szs := [1, 1, 1, 1, 1, 1, 1]) (aparts := []) (cs := [.str ([] : List UInt8), .sl .full 1 (([] : List (List UInt8)).map AV.str), .int .i64 0, .int .i64 0, .bool false, .int .i64 0, .int .i64 0]) rfl underlying29 zeroValue29 rfl ⟨sizeOf9, sizeOf26, sizeOf3, sizeOf3, sizeOf4, sizeOf3, sizeOf27, trivial⟩ trivial rfl) ?_
  obtain ⟨r28, r28e, h⟩ := bind_some h
  refine ac rfl rfl rfl (op_call (vs := [.agg [.sl .no 14 (r26.Tenants.map api.Tenant.av), .int .i64 r26.Quantum, .int .i64 r26.Deadline], .agg [.str ([] : List UInt8), .sl .no 1 (([] : List (List UInt8)).map AV.str), .int .i64 0, .int .i64 0, .bool false, .int .i64 0, .int .i64 0], .str [97, 117, 116, 104, 32, 116, 10, 80, 73, 78, 71]]) (H := []) rfl call47 ⟨(AEv.le (AEv.tmp rfl) (AV.Le.agg ⟨(AV.Le.forget _ _ _), (AV.Le.refl _), (AV.Le.refl _), trivial⟩)), (AEv.le (AEv.tmp rfl) (AV.Le.agg ⟨(AV.Le.refl _), (AV.Le.forget _ _ _), (AV.Le.refl _), (AV.Le.refl _), (AV.Le.refl _), (AV.Le.refl _), (AV.Le.refl _), trivial⟩)), (AEv.const rfl), trivial⟩ (List.Perm.refl _) (auth.First.ok r28e) ?_)
  rintro _ _ ⟨rfl, rfl⟩
  refine ap (.tup [.agg (api.Input.ct .no r28.1), .str r28.2.1, .int .i64 r28.2.2.1, .int .i64 r28.2.2.2]) rfl rfl rfl (pu_move rfl (AEv.tmp rfl)) ?_
  refine ap (.agg (api.Input.ct .no r28.1)) rfl rfl rfl (pu_extract rfl (AEv.tmp rfl) (Nat.le_of_ble_eq_true rfl) rfl) ?_
  refine ap (.str r28.2.1) rfl rfl rfl (pu_extract rfl (AEv.tmp rfl) (Nat.le_of_ble_eq_true rfl) rfl) ?_
  refine ap (.int .i64 r28.2.2.1) rfl rfl rfl (pu_extract rfl (AEv.tmp rfl) (Nat.le_of_ble_eq_true rfl) rfl) ?_
  refine ap (.int .i64 r28.2.2.2) rfl rfl rfl (pu_extract rfl (AEv.tmp rfl) (Nat.le_of_ble_eq_true rfl) rfl) ?_
  refine ac rfl rfl rfl (op_alloc (cs := [.str ([] : List UInt8), .sl .full 1 (([] : List (List UInt8)).map AV.str), .int .i64 0, .int .i64 0, .bool false, .int .i64 0, .int .i64 0]) (v := .agg [.str ([] : List UInt8), .sl .full 1 (([] : List (List UInt8)).map AV.str), .int .i64 0, .int .i64 0, .bool false, .int .i64 0, .int .i64 0]) rfl zeroValue29 rfl rfl rfl ?_)
  intro p29
  refine ac0 rfl rfl (op_store (i := 0) (cs' := (api.Input.ct .no r28.1)) rfl sizeOf29 (AEv.tmp rfl) (v := .agg (api.Input.ct .no r28.1)) (AEv.tmp rfl) rfl rfl rfl (Nat.le_of_ble_eq_true rfl) rfl ?_)
  refine ap (.str r28.2.1) rfl rfl rfl (pu_assign rfl (AEv.tmp rfl)) ?_
  refine ap (.int .i64 r28.2.2.1) rfl rfl rfl (pu_assign rfl (AEv.tmp rfl)) ?_
  refine ap (.int .i64 r28.2.2.2) rfl rfl rfl (pu_assign rfl (AEv.tmp rfl)) ?_
  refine aops_nil ?_
  refine aw_seq ?_
  refine aw_region ?_
  refine ac rfl rfl rfl (op_loadN (i := 1) rfl isAgg78 sizeOf78 (AEv.tmp rfl) rfl (Nat.le_of_ble_eq_true rfl) rfl ?_)
  refine ap (.agg [.str ([] : List UInt8), .sl .full 1 (([] : List (List UInt8)).map AV.str), .int .i64 0, .int .i64 0, .bool false, .int .i64 0, .int .i64 0]) rfl rfl rfl (pu_build (zs := [.str ([] : List UInt8), .sl .full 1 (([] : List (List UInt8)).map AV.str), .int .i64 0, .int .i64 0, .bool false, .int .i64 0, .int .i64 0]) (szs := [1, 1, 1, 1, 1, 1, 1]) (aparts := []) (cs := [.str ([] : List UInt8), .sl .full 1 (([] : List (List UInt8)).map AV.str), .int .i64 0, .int .i64 0, .bool false, .int .i64 0, .int .i64 0]) rfl underlying29 zeroValue29 rfl ⟨sizeOf9, sizeOf26, sizeOf3, sizeOf3, sizeOf4, sizeOf3, sizeOf27, trivial⟩ trivial rfl) ?_
  obtain ⟨r30, r30e, h⟩ := bind_some h
  refine ac rfl rfl rfl (op_call (vs := [.agg [.sl .no 14 (r26.Tenants.map api.Tenant.av), .int .i64 r26.Quantum, .int .i64 r26.Deadline], .agg [.str ([] : List UInt8), .sl .no 1 (([] : List (List UInt8)).map AV.str), .int .i64 0, .int .i64 0, .bool false, .int .i64 0, .int .i64 0], .str [80, 73, 78, 71, 10]]) (H := []) rfl call47 ⟨(AEv.le (AEv.tmp rfl) (AV.Le.agg ⟨(AV.Le.forget _ _ _), (AV.Le.refl _), (AV.Le.refl _), trivial⟩)), (AEv.le (AEv.tmp rfl) (AV.Le.agg ⟨(AV.Le.refl _), (AV.Le.forget _ _ _), (AV.Le.refl _), (AV.Le.refl _), (AV.Le.refl _), (AV.Le.refl _), (AV.Le.refl _), trivial⟩)), (AEv.const rfl), trivial⟩ (List.Perm.refl _) (auth.First.ok r30e) ?_)
  rintro _ _ ⟨rfl, rfl⟩
  refine ap (.tup [.agg (api.Input.ct .no r30.1), .str r30.2.1, .int .i64 r30.2.2.1, .int .i64 r30.2.2.2]) rfl rfl rfl (pu_move rfl (AEv.tmp rfl)) ?_
  refine ap (.agg (api.Input.ct .no r30.1)) rfl rfl rfl (pu_extract rfl (AEv.tmp rfl) (Nat.le_of_ble_eq_true rfl) rfl) ?_
  refine ap (.str r30.2.1) rfl rfl rfl (pu_extract rfl (AEv.tmp rfl) (Nat.le_of_ble_eq_true rfl) rfl) ?_
  refine ap (.int .i64 r30.2.2.1) rfl rfl rfl (pu_extract rfl (AEv.tmp rfl) (Nat.le_of_ble_eq_true rfl) rfl) ?_
  refine ap (.int .i64 r30.2.2.2) rfl rfl rfl (pu_extract rfl (AEv.tmp rfl) (Nat.le_of_ble_eq_true rfl) rfl) ?_
  refine ac rfl rfl rfl (op_alloc (cs := [.str ([] : List UInt8), .sl .full 1 (([] : List (List UInt8)).map AV.str), .int .i64 0, .int .i64 0, .bool false, .int .i64 0, .int .i64 0]) (v := .agg [.str ([] : List UInt8), .sl .full 1 (([] : List (List UInt8)).map AV.str), .int .i64 0, .int .i64 0, .bool false, .int .i64 0, .int .i64 0]) rfl zeroValue29 rfl rfl rfl ?_)
  intro p31
  refine ac0 rfl rfl (op_store (i := 0) (cs' := (api.Input.ct .no r30.1)) rfl sizeOf29 (AEv.tmp rfl) (v := .agg (api.Input.ct .no r30.1)) (AEv.tmp rfl) rfl rfl rfl (Nat.le_of_ble_eq_true rfl) rfl ?_)
  refine ap (.str r30.2.1) rfl rfl rfl (pu_assign rfl (AEv.tmp rfl)) ?_
  refine ap (.int .i64 r30.2.2.1) rfl rfl rfl (pu_assign rfl (AEv.tmp rfl)) ?_
  refine ap (.int .i64 r30.2.2.2) rfl rfl rfl (pu_assign rfl (AEv.tmp rfl)) ?_
  refine aops_nil ?_
  obtain ⟨s40, s40e, h41⟩ := bind_some h
  refine aw_meet (ν := Unit) (fun v => [(0, .bool s40)]) (fun v => []) ?_ ?_
  · have h := s40e
    refine aw_region ?_
    refine ac rfl rfl rfl (op_loadN (i := 2) rfl isAgg78 sizeOf78 (AEv.tmp rfl) rfl (Nat.le_of_ble_eq_true rfl) rfl ?_)
    obtain ⟨r43, r43e, h⟩ := bind_some h
    refine ac rfl rfl rfl (op_call (vs := [.agg [.sl .no 14 (r26.Tenants.map api.Tenant.av), .int .i64 r26.Quantum, .int .i64 r26.Deadline]]) (H := []) rfl call43 ⟨(AEv.le (AEv.tmp rfl) (AV.Le.agg ⟨(AV.Le.forget _ _ _), (AV.Le.refl _), (AV.Le.refl _), trivial⟩)), trivial⟩ (List.Perm.refl _) (auth.Right.ok r43e) ?_)
    rintro _ _ ⟨rfl, rfl⟩
    refine ap (.bool (decide (r43 = 0))) rfl rfl rfl (pu_int (v := .bool (decide (r43 = 0))) rfl rfl (AEv.tmp rfl) (AEv.int _ _) rfl) ?_
    refine ap (.bool (decide (r43 = 0))) rfl rfl rfl (pu_move rfl (AEv.tmp rfl)) ?_
    rcases Bool.eq_false_or_eq_true (decide (r43 = 0)) with hb44 | hb44
    · replace h := ite_t (dec_t hb44) h
      refine aops_known 30 rfl hb44 ?_
      refine agp (.str r28.2.1) rfl rfl rfl rfl rfl rfl rfl (pu_move rfl (AEv.tmp rfl)) ?_
      refine agp (.bool (decide (r28.2.1 = [80, 73, 78, 71]))) rfl rfl rfl rfl rfl rfl rfl (pu_str (v := .bool (decide (r28.2.1 = [80, 73, 78, 71]))) rfl rfl (AEv.tmp rfl) (AEv.const rfl) rfl) ?_
      refine ap (.bool (decide (r28.2.1 = [80, 73, 78, 71]))) rfl rfl rfl (pu_pick (b := true) rfl (AEv.tmp rfl) (fun _ => (AEv.tmp rfl)) (fun h => nomatch h)) ?_
      refine ap (.bool (decide (r28.2.1 = [80, 73, 78, 71]))) rfl rfl rfl (pu_move rfl (AEv.tmp rfl)) ?_
      rcases Bool.eq_false_or_eq_true (decide (r28.2.1 = [80, 73, 78, 71])) with hb45 | hb45
      · replace h := ite_t (dec_t hb45) h
        refine aops_known 34 rfl hb45 ?_
        refine agp (.int .i64 r28.2.2.1) rfl rfl rfl rfl rfl rfl rfl (pu_move rfl (AEv.tmp rfl)) ?_
        refine agp (.bool (decide (r28.2.2.1 = 1))) rfl rfl rfl rfl rfl rfl rfl (pu_int (v := .bool (decide (r28.2.2.1 = 1))) rfl rfl (AEv.tmp rfl) (AEv.int _ _) rfl) ?_
        refine ap (.bool (decide (r28.2.2.1 = 1))) rfl rfl rfl (pu_pick (b := true) rfl (AEv.tmp rfl) (fun _ => (AEv.tmp rfl)) (fun h => nomatch h)) ?_
        refine ap (.bool (decide (r28.2.2.1 = 1))) rfl rfl rfl (pu_move rfl (AEv.tmp rfl)) ?_
        rcases Bool.eq_false_or_eq_true (decide (r28.2.2.1 = 1)) with hb46 | hb46
        · replace h := ite_t (dec_t hb46) h
          refine aops_known 38 rfl hb46 ?_
          refine agp (.int .i64 r28.2.2.2) rfl rfl rfl rfl rfl rfl rfl (pu_move rfl (AEv.tmp rfl)) ?_
          refine agp (.bool (decide (r28.2.2.2 = 1))) rfl rfl rfl rfl rfl rfl rfl (pu_int (v := .bool (decide (r28.2.2.2 = 1))) rfl rfl (AEv.tmp rfl) (AEv.int _ _) rfl) ?_
          refine ap (.bool (decide (r28.2.2.2 = 1))) rfl rfl rfl (pu_pick (b := true) rfl (AEv.tmp rfl) (fun _ => (AEv.tmp rfl)) (fun h => nomatch h)) ?_
          refine ap (.bool (decide (r28.2.2.2 = 1))) rfl rfl rfl (pu_move rfl (AEv.tmp rfl)) ?_
          rcases Bool.eq_false_or_eq_true (decide (r28.2.2.2 = 1)) with hb47 | hb47
          · replace h := ite_t (dec_t hb47) h
            refine aops_known 42 rfl hb47 ?_
            refine agp (.int .i64 r30.2.2.1) rfl rfl rfl rfl rfl rfl rfl (pu_move rfl (AEv.tmp rfl)) ?_
            refine agp (.bool (decide (r30.2.2.1 = (-1)))) rfl rfl rfl rfl rfl rfl rfl (pu_int (v := .bool (decide (r30.2.2.1 = (-1)))) rfl rfl (AEv.tmp rfl) (AEv.int _ _) rfl) ?_
            refine ap (.bool (decide (r30.2.2.1 = (-1)))) rfl rfl rfl (pu_pick (b := true) rfl (AEv.tmp rfl) (fun _ => (AEv.tmp rfl)) (fun h => nomatch h)) ?_
            refine ap (.bool (decide (r30.2.2.1 = (-1)))) rfl rfl rfl (pu_move rfl (AEv.tmp rfl)) ?_
            rcases Bool.eq_false_or_eq_true (decide (r30.2.2.1 = (-1))) with hb48 | hb48
            · replace h := ite_t (dec_t hb48) h
              refine aops_known 46 rfl hb48 ?_
              refine agp (.int .i64 r30.2.2.2) rfl rfl rfl rfl rfl rfl rfl (pu_move rfl (AEv.tmp rfl)) ?_
              refine agp (.bool (decide (r30.2.2.2 = 2))) rfl rfl rfl rfl rfl rfl rfl (pu_int (v := .bool (decide (r30.2.2.2 = 2))) rfl rfl (AEv.tmp rfl) (AEv.int _ _) rfl) ?_
              refine ap (.bool (decide (r30.2.2.2 = 2))) rfl rfl rfl (pu_pick (b := true) rfl (AEv.tmp rfl) (fun _ => (AEv.tmp rfl)) (fun h => nomatch h)) ?_
              refine ap (.bool (decide (r30.2.2.2 = 2))) rfl rfl rfl (pu_move rfl (AEv.tmp rfl)) ?_
              rcases Bool.eq_false_or_eq_true (decide (r30.2.2.2 = 2)) with hb49 | hb49
              · replace h := ite_t (dec_t hb49) h
                refine aops_known 50 rfl hb49 ?_
                refine ag rfl rfl rfl rfl rfl rfl rfl (op_loadN (i := 2) rfl isAgg78 sizeOf78 (AEv.tmp rfl) rfl (Nat.le_of_ble_eq_true rfl) rfl ?_)
                refine ag rfl rfl rfl rfl rfl rfl rfl (op_buildSlice (xs := ([[65, 85], [84, 72, 32, 115, 13, 10]] : List (List UInt8)).map AV.str) (aparts := [(0, .str [65, 85]), (1, .str [84, 72, 32, 115, 13, 10])]) rfl underlying26 sizeOf9 zeroValue9 (by decide) (by decide) ⟨rfl, (AEv.const rfl), ⟨rfl, (AEv.const rfl), trivial⟩⟩ rfl rfl rfl ?_)
                obtain ⟨r50, r50e, h⟩ := bind_some h
                refine ag rfl rfl rfl rfl rfl rfl rfl (op_call (vs := [.agg [.sl .no 14 (r26.Tenants.map api.Tenant.av), .int .i64 r26.Quantum, .int .i64 r26.Deadline], .sl .no 1 ([[65, 85], [84, 72, 32, 115, 13, 10]].map AV.str)]) (H := []) rfl call49 ⟨(AEv.le (AEv.tmp rfl) (AV.Le.agg ⟨(AV.Le.forget _ _ _), (AV.Le.refl _), (AV.Le.refl _), trivial⟩)), (AEv.le (AEv.tmp rfl) (AV.Le.forget _ _ _)), trivial⟩ (List.Perm.refl _) (auth.Label.ok r50e) ?_)
                rintro _ _ ⟨rfl, rfl⟩
                refine agp (.bool (decide (r50 = 0))) rfl rfl rfl rfl rfl rfl rfl (pu_int (v := .bool (decide (r50 = 0))) rfl rfl (AEv.tmp rfl) (AEv.int _ _) rfl) ?_
                refine ap (.bool (decide (r50 = 0))) rfl rfl rfl (pu_pick (b := true) rfl (AEv.tmp rfl) (fun _ => (AEv.tmp rfl)) (fun h => nomatch h)) ?_
                refine ap (.bool (decide (r50 = 0))) rfl rfl rfl (pu_assign rfl (AEv.tmp rfl)) ?_
                refine aops_nil ?_
                obtain rfl := some_of h
                exact ⟨(), Weak.mkL [] (by decide) trivial ⟨(AEv.le (AEv.tmp rfl) (AV.Le.refl _)), trivial⟩⟩
              · replace h := ite_f (dec_f hb49) h
                refine aops_known 50 rfl hb49 ?_
                refine an rfl rfl rfl rfl rfl rfl rfl rfl ?_
                refine an rfl rfl rfl rfl rfl rfl rfl rfl ?_
                refine an rfl rfl rfl rfl rfl rfl rfl rfl ?_
                refine an rfl rfl rfl rfl rfl rfl rfl rfl ?_
                refine ap (.bool false) rfl rfl rfl (pu_pick (b := false) rfl (AEv.tmp rfl) (fun h => nomatch h) (fun _ => (AEv.bool _))) ?_
                refine ap (.bool false) rfl rfl rfl (pu_assign rfl (AEv.tmp rfl)) ?_
                refine aops_nil ?_
                obtain rfl := some_of h
                exact ⟨(), Weak.mkL [] (by decide) trivial ⟨AEv.tmp rfl, trivial⟩⟩
            · replace h := ite_f (dec_f hb48) h
              refine aops_known 46 rfl hb48 ?_
              refine an rfl rfl rfl rfl rfl rfl rfl rfl ?_
              refine an rfl rfl rfl rfl rfl rfl rfl rfl ?_
              refine ap (.bool false) rfl rfl rfl (pu_pick (b := false) rfl (AEv.tmp rfl) (fun h => nomatch h) (fun _ => (AEv.bool _))) ?_
              refine ap (.bool false) rfl rfl rfl (pu_move rfl (AEv.tmp rfl)) ?_
              refine an rfl rfl rfl rfl rfl rfl rfl rfl ?_
              refine an rfl rfl rfl rfl rfl rfl rfl rfl ?_
              refine an rfl rfl rfl rfl rfl rfl rfl rfl ?_
              refine an rfl rfl rfl rfl rfl rfl rfl rfl ?_
              refine ap (.bool false) rfl rfl rfl (pu_pick (b := false) rfl (AEv.tmp rfl) (fun h => nomatch h) (fun _ => (AEv.bool _))) ?_
              refine ap (.bool false) rfl rfl rfl (pu_assign rfl (AEv.tmp rfl)) ?_
              refine aops_nil ?_
              obtain rfl := some_of h
              exact ⟨(), Weak.mkL [] (by decide) trivial ⟨AEv.tmp rfl, trivial⟩⟩
          · replace h := ite_f (dec_f hb47) h
            refine aops_known 42 rfl hb47 ?_
            refine an rfl rfl rfl rfl rfl rfl rfl rfl ?_
            refine an rfl rfl rfl rfl rfl rfl rfl rfl ?_
            refine ap (.bool false) rfl rfl rfl (pu_pick (b := false) rfl (AEv.tmp rfl) (fun h => nomatch h) (fun _ => (AEv.bool _))) ?_
            refine ap (.bool false) rfl rfl rfl (pu_move rfl (AEv.tmp rfl)) ?_
            refine an rfl rfl rfl rfl rfl rfl rfl rfl ?_
            refine an rfl rfl rfl rfl rfl rfl rfl rfl ?_
            refine ap (.bool false) rfl rfl rfl (pu_pick (b := false) rfl (AEv.tmp rfl) (fun h => nomatch h) (fun _ => (AEv.bool _))) ?_
            refine ap (.bool false) rfl rfl rfl (pu_move rfl (AEv.tmp rfl)) ?_
            refine an rfl rfl rfl rfl rfl rfl rfl rfl ?_
            refine an rfl rfl rfl rfl rfl rfl rfl rfl ?_
            refine an rfl rfl rfl rfl rfl rfl rfl rfl ?_
            refine an rfl rfl rfl rfl rfl rfl rfl rfl ?_
            refine ap (.bool false) rfl rfl rfl (pu_pick (b := false) rfl (AEv.tmp rfl) (fun h => nomatch h) (fun _ => (AEv.bool _))) ?_
            refine ap (.bool false) rfl rfl rfl (pu_assign rfl (AEv.tmp rfl)) ?_
            refine aops_nil ?_
            obtain rfl := some_of h
            exact ⟨(), Weak.mkL [] (by decide) trivial ⟨AEv.tmp rfl, trivial⟩⟩
        · replace h := ite_f (dec_f hb46) h
          refine aops_known 38 rfl hb46 ?_
          refine an rfl rfl rfl rfl rfl rfl rfl rfl ?_
          refine an rfl rfl rfl rfl rfl rfl rfl rfl ?_
          refine ap (.bool false) rfl rfl rfl (pu_pick (b := false) rfl (AEv.tmp rfl) (fun h => nomatch h) (fun _ => (AEv.bool _))) ?_
          refine ap (.bool false) rfl rfl rfl (pu_move rfl (AEv.tmp rfl)) ?_
          refine an rfl rfl rfl rfl rfl rfl rfl rfl ?_
          refine an rfl rfl rfl rfl rfl rfl rfl rfl ?_
          refine ap (.bool false) rfl rfl rfl (pu_pick (b := false) rfl (AEv.tmp rfl) (fun h => nomatch h) (fun _ => (AEv.bool _))) ?_
          refine ap (.bool false) rfl rfl rfl (pu_move rfl (AEv.tmp rfl)) ?_
          refine an rfl rfl rfl rfl rfl rfl rfl rfl ?_
          refine an rfl rfl rfl rfl rfl rfl rfl rfl ?_
          refine ap (.bool false) rfl rfl rfl (pu_pick (b := false) rfl (AEv.tmp rfl) (fun h => nomatch h) (fun _ => (AEv.bool _))) ?_
          refine ap (.bool false) rfl rfl rfl (pu_move rfl (AEv.tmp rfl)) ?_
          refine an rfl rfl rfl rfl rfl rfl rfl rfl ?_
          refine an rfl rfl rfl rfl rfl rfl rfl rfl ?_
          refine an rfl rfl rfl rfl rfl rfl rfl rfl ?_
          refine an rfl rfl rfl rfl rfl rfl rfl rfl ?_
          refine ap (.bool false) rfl rfl rfl (pu_pick (b := false) rfl (AEv.tmp rfl) (fun h => nomatch h) (fun _ => (AEv.bool _))) ?_
          refine ap (.bool false) rfl rfl rfl (pu_assign rfl (AEv.tmp rfl)) ?_
          refine aops_nil ?_
          obtain rfl := some_of h
          exact ⟨(), Weak.mkL [] (by decide) trivial ⟨AEv.tmp rfl, trivial⟩⟩
      · replace h := ite_f (dec_f hb45) h
        refine aops_known 34 rfl hb45 ?_
        refine an rfl rfl rfl rfl rfl rfl rfl rfl ?_
        refine an rfl rfl rfl rfl rfl rfl rfl rfl ?_
        refine ap (.bool false) rfl rfl rfl (pu_pick (b := false) rfl (AEv.tmp rfl) (fun h => nomatch h) (fun _ => (AEv.bool _))) ?_
        refine ap (.bool false) rfl rfl rfl (pu_move rfl (AEv.tmp rfl)) ?_
        refine an rfl rfl rfl rfl rfl rfl rfl rfl ?_
        refine an rfl rfl rfl rfl rfl rfl rfl rfl ?_
        refine ap (.bool false) rfl rfl rfl (pu_pick (b := false) rfl (AEv.tmp rfl) (fun h => nomatch h) (fun _ => (AEv.bool _))) ?_
        refine ap (.bool false) rfl rfl rfl (pu_move rfl (AEv.tmp rfl)) ?_
        refine an rfl rfl rfl rfl rfl rfl rfl rfl ?_
        refine an rfl rfl rfl rfl rfl rfl rfl rfl ?_
        refine ap (.bool false) rfl rfl rfl (pu_pick (b := false) rfl (AEv.tmp rfl) (fun h => nomatch h) (fun _ => (AEv.bool _))) ?_
        refine ap (.bool false) rfl rfl rfl (pu_move rfl (AEv.tmp rfl)) ?_
        refine an rfl rfl rfl rfl rfl rfl rfl rfl ?_
        refine an rfl rfl rfl rfl rfl rfl rfl rfl ?_
        refine ap (.bool false) rfl rfl rfl (pu_pick (b := false) rfl (AEv.tmp rfl) (fun h => nomatch h) (fun _ => (AEv.bool _))) ?_
        refine ap (.bool false) rfl rfl rfl (pu_move rfl (AEv.tmp rfl)) ?_
        refine an rfl rfl rfl rfl rfl rfl rfl rfl ?_
        refine an rfl rfl rfl rfl rfl rfl rfl rfl ?_
        refine an rfl rfl rfl rfl rfl rfl rfl rfl ?_
        refine an rfl rfl rfl rfl rfl rfl rfl rfl ?_
        refine ap (.bool false) rfl rfl rfl (pu_pick (b := false) rfl (AEv.tmp rfl) (fun h => nomatch h) (fun _ => (AEv.bool _))) ?_
        refine ap (.bool false) rfl rfl rfl (pu_assign rfl (AEv.tmp rfl)) ?_
        refine aops_nil ?_
        obtain rfl := some_of h
        exact ⟨(), Weak.mkL [] (by decide) trivial ⟨AEv.tmp rfl, trivial⟩⟩
    · replace h := ite_f (dec_f hb44) h
      refine aops_known 30 rfl hb44 ?_
      refine an rfl rfl rfl rfl rfl rfl rfl rfl ?_
      refine an rfl rfl rfl rfl rfl rfl rfl rfl ?_
      refine ap (.bool false) rfl rfl rfl (pu_pick (b := false) rfl (AEv.tmp rfl) (fun h => nomatch h) (fun _ => (AEv.bool _))) ?_
      refine ap (.bool false) rfl rfl rfl (pu_move rfl (AEv.tmp rfl)) ?_
      refine an rfl rfl rfl rfl rfl rfl rfl rfl ?_
      refine an rfl rfl rfl rfl rfl rfl rfl rfl ?_
      refine ap (.bool false) rfl rfl rfl (pu_pick (b := false) rfl (AEv.tmp rfl) (fun h => nomatch h) (fun _ => (AEv.bool _))) ?_
      refine ap (.bool false) rfl rfl rfl (pu_move rfl (AEv.tmp rfl)) ?_
      refine an rfl rfl rfl rfl rfl rfl rfl rfl ?_
      refine an rfl rfl rfl rfl rfl rfl rfl rfl ?_
      refine ap (.bool false) rfl rfl rfl (pu_pick (b := false) rfl (AEv.tmp rfl) (fun h => nomatch h) (fun _ => (AEv.bool _))) ?_
      refine ap (.bool false) rfl rfl rfl (pu_move rfl (AEv.tmp rfl)) ?_
      refine an rfl rfl rfl rfl rfl rfl rfl rfl ?_
      refine an rfl rfl rfl rfl rfl rfl rfl rfl ?_
      refine ap (.bool false) rfl rfl rfl (pu_pick (b := false) rfl (AEv.tmp rfl) (fun h => nomatch h) (fun _ => (AEv.bool _))) ?_
      refine ap (.bool false) rfl rfl rfl (pu_move rfl (AEv.tmp rfl)) ?_
      refine an rfl rfl rfl rfl rfl rfl rfl rfl ?_
      refine an rfl rfl rfl rfl rfl rfl rfl rfl ?_
      refine ap (.bool false) rfl rfl rfl (pu_pick (b := false) rfl (AEv.tmp rfl) (fun h => nomatch h) (fun _ => (AEv.bool _))) ?_
      refine ap (.bool false) rfl rfl rfl (pu_move rfl (AEv.tmp rfl)) ?_
      refine an rfl rfl rfl rfl rfl rfl rfl rfl ?_
      refine an rfl rfl rfl rfl rfl rfl rfl rfl ?_
      refine an rfl rfl rfl rfl rfl rfl rfl rfl ?_
      refine an rfl rfl rfl rfl rfl rfl rfl rfl ?_
      refine ap (.bool false) rfl rfl rfl (pu_pick (b := false) rfl (AEv.tmp rfl) (fun h => nomatch h) (fun _ => (AEv.bool _))) ?_
      refine ap (.bool false) rfl rfl rfl (pu_assign rfl (AEv.tmp rfl)) ?_
      refine aops_nil ?_
      obtain rfl := some_of h
      exact ⟨(), Weak.mkL [] (by decide) trivial ⟨AEv.tmp rfl, trivial⟩⟩
  · intro _
    have h := h41
    refine aw_ret ?_
    obtain rfl := some_of h
    exact ⟨[.bool s40], _, [], ⟨(AEv.tmp rfl), trivial⟩, (AV.Le.refl _), Weak.mkL [] (by decide) trivial trivial, ⟨rfl, rfl⟩⟩

theorem mewsref42.in_.ok {n_ : Int} {low : Int} {high : Int} {r : Bool} (h : mewsref42.in_ n_ low high = some r) : Go.Lift.Spec prog 66 [.int .i64 n_, .int .i64 low, .int .i64 high] [] (fun v H => v = .bool r ∧ H = []) := by
  unfold mewsref42.in_ at h
  refine Go.Lift.Spec.of_body (rs := [.tmp 6]) func66 rfl rfl (Nat.le_of_ble_eq_true rfl) rfl ?_
  refine aw_seq ?_
  refine aw_region ?_
  refine ap (.bool false) rfl rfl rfl (pu_assign rfl (AEv.bool _)) ?_
  refine aops_nil ?_
  obtain ⟨s7, s7e, h8⟩ := letO_of h
  refine aw_meet (ν := Unit) (fun v => [(6, .bool s7)]) (fun v => []) ?_ ?_
  · have h := s7e.symm
    refine aw_region ?_
    refine ap (.int .i64 n_) rfl rfl rfl (pu_move rfl (AEv.tmp rfl)) ?_
    refine ap (.int .i64 low) rfl rfl rfl (pu_move rfl (AEv.tmp rfl)) ?_
    refine ap (.bool (decide (low ≤ n_))) rfl rfl rfl (pu_int (v := .bool (decide (low ≤ n_))) rfl rfl (AEv.tmp rfl) (AEv.tmp rfl) rfl) ?_
    refine ap (.bool (decide (low ≤ n_))) rfl rfl rfl (pu_move rfl (AEv.tmp rfl)) ?_
    rcases Bool.eq_false_or_eq_true (decide (low ≤ n_)) with hb10 | hb10
    · replace h := ite_t (dec_t hb10) h
      refine aops_known 10 rfl hb10 ?_
      refine agp (.int .i64 n_) rfl rfl rfl rfl rfl rfl rfl (pu_move rfl (AEv.tmp rfl)) ?_
      refine agp (.int .i64 high) rfl rfl rfl rfl rfl rfl rfl (pu_move rfl (AEv.tmp rfl)) ?_
      refine agp (.bool (decide (n_ ≤ high))) rfl rfl rfl rfl rfl rfl rfl (pu_int (v := .bool (decide (n_ ≤ high))) rfl rfl (AEv.tmp rfl) (AEv.tmp rfl) rfl) ?_
      refine ap (.bool (decide (n_ ≤ high))) rfl rfl rfl (pu_pick (b := true) rfl (AEv.tmp rfl) (fun _ => (AEv.tmp rfl)) (fun h => nomatch h)) ?_
      refine ap (.bool (decide (n_ ≤ high))) rfl rfl rfl (pu_assign rfl (AEv.tmp rfl)) ?_
      refine aops_nil ?_
      subst h
      exact ⟨(), Weak.mkL [] (by decide) trivial ⟨(AEv.le (AEv.tmp rfl) (AV.Le.refl _)), trivial⟩⟩
    · replace h := ite_f (dec_f hb10) h
      refine aops_known 10 rfl hb10 ?_
      refine an rfl rfl rfl rfl rfl rfl rfl rfl ?_
      refine an rfl rfl rfl rfl rfl rfl rfl rfl ?_
      refine an rfl rfl rfl rfl rfl rfl rfl rfl ?_
      refine ap (.bool false) rfl rfl rfl (pu_pick (b := false) rfl (AEv.tmp rfl) (fun h => nomatch h) (fun _ => (AEv.bool _))) ?_
      refine ap (.bool false) rfl rfl rfl (pu_assign rfl (AEv.tmp rfl)) ?_
      refine aops_nil ?_
      subst h
      exact ⟨(), Weak.mkL [] (by decide) trivial ⟨AEv.tmp rfl, trivial⟩⟩
  · intro _
    have h := h8
    refine aw_ret ?_
    obtain rfl := some_of h
    exact ⟨[.bool s7], _, [], ⟨(AEv.tmp rfl), trivial⟩, (AV.Le.refl _), Weak.mkL [] (by decide) trivial trivial, ⟨rfl, rfl⟩⟩

theorem mewsref42.May.ok {t_ : api.Tenant} {r : Bool} (h : mewsref42.May t_ = some r) : Go.Lift.Spec prog 67 [.agg (api.Tenant.ct t_)] [] (fun v H => v = .bool r ∧ H = []) := by
  unfold mewsref42.May at h
  refine Go.Lift.Spec.of_body (rs := [.tmp 2]) func67 rfl rfl (Nat.le_of_ble_eq_true rfl) rfl ?_
  refine aw_seq ?_
  refine aw_region ?_
  refine ac rfl rfl rfl (op_box (cs := (api.Tenant.ct t_)) (v := .agg (api.Tenant.ct t_)) rfl (AEv.tmp rfl) rfl rfl ?_)
  intro p69
  refine ap (.bool false) rfl rfl rfl (pu_assign rfl (AEv.bool _)) ?_
  refine aops_nil ?_
  obtain ⟨s73, s73e, h74⟩ := bind_some h
  refine aw_meet (ν := Unit) (fun v => [(1, .ptr p69 0), (3, .bool s73)]) (fun v => [(p69, .cells (api.Tenant.ct t_))]) ?_ ?_
  · have h := s73e
    refine aw_region ?_
    refine ap (.ptr p69 0) rfl rfl rfl (pu_fieldAddr rfl underlying53 rfl sizeOf9 (by decide) (AEv.tmp rfl) rfl) ?_
    refine ac rfl rfl rfl (op_load1 (i := 0) rfl isAgg9 (AEv.tmp rfl) rfl rfl ?_)
    refine ap (.int .i64 (t_.Name.length : Int)) rfl rfl rfl (pu_strLen rfl underlying9 (AEv.tmp rfl)) ?_
    obtain ⟨r76, r76e, h⟩ := bind_some h
    refine ac rfl rfl rfl (op_call (vs := [.int .i64 (t_.Name.length : Int), .int .i64 1, .int .i64 64]) (H := []) rfl call66 ⟨(AEv.tmp rfl), (AEv.int _ _), (AEv.int _ _), trivial⟩ (List.Perm.refl _) (mewsref42.in_.ok r76e) ?_)
    rintro _ _ ⟨rfl, rfl⟩
    refine ap (.bool r76) rfl rfl rfl (pu_move rfl (AEv.tmp rfl)) ?_
    rcases Bool.eq_false_or_eq_true r76 with hb77 | hb77
    · replace h := ite_t hb77 h
      refine aops_known 11 rfl hb77 ?_
      refine agp (.ptr p69 1) rfl rfl rfl rfl rfl rfl rfl (pu_fieldAddr rfl underlying53 rfl sizeOf9 (by decide) (AEv.tmp rfl) rfl) ?_
      refine ag rfl rfl rfl rfl rfl rfl rfl (op_load1 (i := 0) rfl isAgg9 (AEv.tmp rfl) rfl rfl ?_)
      refine agp (.int .i64 (t_.Token.length : Int)) rfl rfl rfl rfl rfl rfl rfl (pu_strLen rfl underlying9 (AEv.tmp rfl)) ?_
      obtain ⟨r78, r78e, h⟩ := bind_some h
      refine ag rfl rfl rfl rfl rfl rfl rfl (op_call (vs := [.int .i64 (t_.Token.length : Int), .int .i64 1, .int .i64 64]) (H := []) rfl call66 ⟨(AEv.tmp rfl), (AEv.int _ _), (AEv.int _ _), trivial⟩ (List.Perm.refl _) (mewsref42.in_.ok r78e) ?_)
      rintro _ _ ⟨rfl, rfl⟩
      refine ap (.bool r78) rfl rfl rfl (pu_pick (b := true) rfl (AEv.tmp rfl) (fun _ => (AEv.tmp rfl)) (fun h => nomatch h)) ?_
      refine ap (.bool r78) rfl rfl rfl (pu_assign rfl (AEv.tmp rfl)) ?_
      refine aops_nil ?_
      obtain rfl := some_of h
      exact ⟨(), Weak.mkL [0] (by decide) ⟨⟨_, rfl, (CellsLe.refl _), rfl⟩, trivial⟩ ⟨AEv.tmp rfl, AEv.tmp rfl, trivial⟩⟩
    · replace h := ite_fb hb77 h
      refine aops_known 11 rfl hb77 ?_
      refine an rfl rfl rfl rfl rfl rfl rfl rfl ?_
      refine an rfl rfl rfl rfl rfl rfl rfl rfl ?_
      refine an rfl rfl rfl rfl rfl rfl rfl rfl ?_
      refine an rfl rfl rfl rfl rfl rfl rfl rfl ?_
      refine ap (.bool false) rfl rfl rfl (pu_pick (b := false) rfl (AEv.tmp rfl) (fun h => nomatch h) (fun _ => (AEv.bool _))) ?_
      refine ap (.bool false) rfl rfl rfl (pu_assign rfl (AEv.tmp rfl)) ?_
      refine aops_nil ?_
      obtain rfl := some_of h
      exact ⟨(), Weak.mkL [0] (by decide) ⟨⟨_, rfl, (CellsLe.refl _), rfl⟩, trivial⟩ ⟨AEv.tmp rfl, AEv.tmp rfl, trivial⟩⟩
  · intro _
    have h := h74
    obtain ⟨s88, s88e, h89⟩ := bind_some h
    refine aw_meet (ν := Unit) (fun v => [(1, .ptr p69 0), (3, .bool s73), (4, .bool s88)]) (fun v => [(p69, .cells (api.Tenant.ct t_))]) ?_ ?_
    · have h := s88e
      refine aw_region ?_
      refine ap (.ptr p69 2) rfl rfl rfl (pu_fieldAddr rfl underlying53 rfl sizeOf3 (by decide) (AEv.tmp rfl) rfl) ?_
      refine ac rfl rfl rfl (op_load1 (i := 0) rfl isAgg3 (AEv.tmp rfl) rfl rfl ?_)
      obtain ⟨r91, r91e, h⟩ := bind_some h
      refine ac rfl rfl rfl (op_call (vs := [.int .i64 t_.Memory, .int .i64 0, .int .i64 524288]) (H := []) rfl call66 ⟨(AEv.tmp rfl), (AEv.int _ _), (AEv.int _ _), trivial⟩ (List.Perm.refl _) (mewsref42.in_.ok r91e) ?_)
      rintro _ _ ⟨rfl, rfl⟩
      refine ap (.bool r91) rfl rfl rfl (pu_move rfl (AEv.tmp rfl)) ?_
      rcases Bool.eq_false_or_eq_true r91 with hb92 | hb92
      · replace h := ite_t hb92 h
        refine aops_known 20 rfl hb92 ?_
        refine agp (.ptr p69 3) rfl rfl rfl rfl rfl rfl rfl (pu_fieldAddr rfl underlying53 rfl sizeOf3 (by decide) (AEv.tmp rfl) rfl) ?_
        refine ag rfl rfl rfl rfl rfl rfl rfl (op_load1 (i := 0) rfl isAgg3 (AEv.tmp rfl) rfl rfl ?_)
        obtain ⟨r93, r93e, h⟩ := bind_some h
        refine ag rfl rfl rfl rfl rfl rfl rfl (op_call (vs := [.int .i64 t_.Policy, .int .i64 0, .int .i64 5]) (H := []) rfl call66 ⟨(AEv.tmp rfl), (AEv.int _ _), (AEv.int _ _), trivial⟩ (List.Perm.refl _) (mewsref42.in_.ok r93e) ?_)
        rintro _ _ ⟨rfl, rfl⟩
        refine ap (.bool r93) rfl rfl rfl (pu_pick (b := true) rfl (AEv.tmp rfl) (fun _ => (AEv.tmp rfl)) (fun h => nomatch h)) ?_
        refine ap (.bool r93) rfl rfl rfl (pu_move rfl (AEv.tmp rfl)) ?_
        rcases Bool.eq_false_or_eq_true r93 with hb94 | hb94
        · replace h := ite_t hb94 h
          refine aops_known 25 rfl hb94 ?_
          refine agp (.ptr p69 5) rfl rfl rfl rfl rfl rfl rfl (pu_fieldAddr rfl underlying53 rfl sizeOf3 (by decide) (AEv.tmp rfl) rfl) ?_
          refine ag rfl rfl rfl rfl rfl rfl rfl (op_load1 (i := 0) rfl isAgg3 (AEv.tmp rfl) rfl rfl ?_)
          obtain ⟨r95, r95e, h⟩ := bind_some h
          refine ag rfl rfl rfl rfl rfl rfl rfl (op_call (vs := [.int .i64 t_.In, .int .i64 64, .int .i64 1048576]) (H := []) rfl call66 ⟨(AEv.tmp rfl), (AEv.int _ _), (AEv.int _ _), trivial⟩ (List.Perm.refl _) (mewsref42.in_.ok r95e) ?_)
          rintro _ _ ⟨rfl, rfl⟩
          refine ap (.bool r95) rfl rfl rfl (pu_pick (b := true) rfl (AEv.tmp rfl) (fun _ => (AEv.tmp rfl)) (fun h => nomatch h)) ?_
          refine ap (.bool r95) rfl rfl rfl (pu_move rfl (AEv.tmp rfl)) ?_
          rcases Bool.eq_false_or_eq_true r95 with hb96 | hb96
          · replace h := ite_t hb96 h
            refine aops_known 30 rfl hb96 ?_
            refine agp (.ptr p69 6) rfl rfl rfl rfl rfl rfl rfl (pu_fieldAddr rfl underlying53 rfl sizeOf3 (by decide) (AEv.tmp rfl) rfl) ?_
            refine ag rfl rfl rfl rfl rfl rfl rfl (op_load1 (i := 0) rfl isAgg3 (AEv.tmp rfl) rfl rfl ?_)
            obtain ⟨r97, r97e, h⟩ := bind_some h
            refine ag rfl rfl rfl rfl rfl rfl rfl (op_call (vs := [.int .i64 t_.Out, .int .i64 64, .int .i64 4194304]) (H := []) rfl call66 ⟨(AEv.tmp rfl), (AEv.int _ _), (AEv.int _ _), trivial⟩ (List.Perm.refl _) (mewsref42.in_.ok r97e) ?_)
            rintro _ _ ⟨rfl, rfl⟩
            refine ap (.bool r97) rfl rfl rfl (pu_pick (b := true) rfl (AEv.tmp rfl) (fun _ => (AEv.tmp rfl)) (fun h => nomatch h)) ?_
            refine ap (.bool r97) rfl rfl rfl (pu_move rfl (AEv.tmp rfl)) ?_
            rcases Bool.eq_false_or_eq_true r97 with hb98 | hb98
            · replace h := ite_t hb98 h
              refine aops_known 35 rfl hb98 ?_
              refine agp (.ptr p69 9) rfl rfl rfl rfl rfl rfl rfl (pu_fieldAddr rfl underlying53 rfl sizeOf3 (by decide) (AEv.tmp rfl) rfl) ?_
              refine ag rfl rfl rfl rfl rfl rfl rfl (op_load1 (i := 0) rfl isAgg3 (AEv.tmp rfl) rfl rfl ?_)
              obtain ⟨r99, r99e, h⟩ := bind_some h
              refine ag rfl rfl rfl rfl rfl rfl rfl (op_call (vs := [.int .i64 t_.Disk, .int .i64 0, .int .i64 67108864]) (H := []) rfl call66 ⟨(AEv.tmp rfl), (AEv.int _ _), (AEv.int _ _), trivial⟩ (List.Perm.refl _) (mewsref42.in_.ok r99e) ?_)
              rintro _ _ ⟨rfl, rfl⟩
              refine ap (.bool r99) rfl rfl rfl (pu_pick (b := true) rfl (AEv.tmp rfl) (fun _ => (AEv.tmp rfl)) (fun h => nomatch h)) ?_
              refine ap (.bool r99) rfl rfl rfl (pu_assign rfl (AEv.tmp rfl)) ?_
              refine aops_nil ?_
              obtain rfl := some_of h
              exact ⟨(), Weak.mkL [0] (by decide) ⟨⟨_, rfl, (CellsLe.refl _), rfl⟩, trivial⟩ ⟨AEv.tmp rfl, AEv.tmp rfl, AEv.tmp rfl, trivial⟩⟩
            · replace h := ite_fb hb98 h
              refine aops_known 35 rfl hb98 ?_
              refine an rfl rfl rfl rfl rfl rfl rfl rfl ?_
              refine an rfl rfl rfl rfl rfl rfl rfl rfl ?_
              refine an rfl rfl rfl rfl rfl rfl rfl rfl ?_
              refine ap (.bool false) rfl rfl rfl (pu_pick (b := false) rfl (AEv.tmp rfl) (fun h => nomatch h) (fun _ => (AEv.bool _))) ?_
              refine ap (.bool false) rfl rfl rfl (pu_assign rfl (AEv.tmp rfl)) ?_
              refine aops_nil ?_
              obtain rfl := some_of h
              exact ⟨(), Weak.mkL [0] (by decide) ⟨⟨_, rfl, (CellsLe.refl _), rfl⟩, trivial⟩ ⟨AEv.tmp rfl, AEv.tmp rfl, AEv.tmp rfl, trivial⟩⟩
          · replace h := ite_fb hb96 h
            refine aops_known 30 rfl hb96 ?_
            refine an rfl rfl rfl rfl rfl rfl rfl rfl ?_
            refine an rfl rfl rfl rfl rfl rfl rfl rfl ?_
            refine an rfl rfl rfl rfl rfl rfl rfl rfl ?_
            refine ap (.bool false) rfl rfl rfl (pu_pick (b := false) rfl (AEv.tmp rfl) (fun h => nomatch h) (fun _ => (AEv.bool _))) ?_
            refine ap (.bool false) rfl rfl rfl (pu_move rfl (AEv.tmp rfl)) ?_
            refine an rfl rfl rfl rfl rfl rfl rfl rfl ?_
            refine an rfl rfl rfl rfl rfl rfl rfl rfl ?_
            refine an rfl rfl rfl rfl rfl rfl rfl rfl ?_
            refine ap (.bool false) rfl rfl rfl (pu_pick (b := false) rfl (AEv.tmp rfl) (fun h => nomatch h) (fun _ => (AEv.bool _))) ?_
            refine ap (.bool false) rfl rfl rfl (pu_assign rfl (AEv.tmp rfl)) ?_
            refine aops_nil ?_
            obtain rfl := some_of h
            exact ⟨(), Weak.mkL [0] (by decide) ⟨⟨_, rfl, (CellsLe.refl _), rfl⟩, trivial⟩ ⟨AEv.tmp rfl, AEv.tmp rfl, AEv.tmp rfl, trivial⟩⟩
        · replace h := ite_fb hb94 h
          refine aops_known 25 rfl hb94 ?_
          refine an rfl rfl rfl rfl rfl rfl rfl rfl ?_
          refine an rfl rfl rfl rfl rfl rfl rfl rfl ?_
          refine an rfl rfl rfl rfl rfl rfl rfl rfl ?_
          refine ap (.bool false) rfl rfl rfl (pu_pick (b := false) rfl (AEv.tmp rfl) (fun h => nomatch h) (fun _ => (AEv.bool _))) ?_
          refine ap (.bool false) rfl rfl rfl (pu_move rfl (AEv.tmp rfl)) ?_
          refine an rfl rfl rfl rfl rfl rfl rfl rfl ?_
          refine an rfl rfl rfl rfl rfl rfl rfl rfl ?_
          refine an rfl rfl rfl rfl rfl rfl rfl rfl ?_
          refine ap (.bool false) rfl rfl rfl (pu_pick (b := false) rfl (AEv.tmp rfl) (fun h => nomatch h) (fun _ => (AEv.bool _))) ?_
          refine ap (.bool false) rfl rfl rfl (pu_move rfl (AEv.tmp rfl)) ?_
          refine an rfl rfl rfl rfl rfl rfl rfl rfl ?_
          refine an rfl rfl rfl rfl rfl rfl rfl rfl ?_
          refine an rfl rfl rfl rfl rfl rfl rfl rfl ?_
          refine ap (.bool false) rfl rfl rfl (pu_pick (b := false) rfl (AEv.tmp rfl) (fun h => nomatch h) (fun _ => (AEv.bool _))) ?_
          refine ap (.bool false) rfl rfl rfl (pu_assign rfl (AEv.tmp rfl)) ?_
          refine aops_nil ?_
          obtain rfl := some_of h
          exact ⟨(), Weak.mkL [0] (by decide) ⟨⟨_, rfl, (CellsLe.refl _), rfl⟩, trivial⟩ ⟨AEv.tmp rfl, AEv.tmp rfl, AEv.tmp rfl, trivial⟩⟩
      · replace h := ite_fb hb92 h
        refine aops_known 20 rfl hb92 ?_
        refine an rfl rfl rfl rfl rfl rfl rfl rfl ?_
        refine an rfl rfl rfl rfl rfl rfl rfl rfl ?_
        refine an rfl rfl rfl rfl rfl rfl rfl rfl ?_
        refine ap (.bool false) rfl rfl rfl (pu_pick (b := false) rfl (AEv.tmp rfl) (fun h => nomatch h) (fun _ => (AEv.bool _))) ?_
        refine ap (.bool false) rfl rfl rfl (pu_move rfl (AEv.tmp rfl)) ?_
        refine an rfl rfl rfl rfl rfl rfl rfl rfl ?_
        refine an rfl rfl rfl rfl rfl rfl rfl rfl ?_
        refine an rfl rfl rfl rfl rfl rfl rfl rfl ?_
        refine ap (.bool false) rfl rfl rfl (pu_pick (b := false) rfl (AEv.tmp rfl) (fun h => nomatch h) (fun _ => (AEv.bool _))) ?_
        refine ap (.bool false) rfl rfl rfl (pu_move rfl (AEv.tmp rfl)) ?_
        refine an rfl rfl rfl rfl rfl rfl rfl rfl ?_
        refine an rfl rfl rfl rfl rfl rfl rfl rfl ?_
        refine an rfl rfl rfl rfl rfl rfl rfl rfl ?_
        refine ap (.bool false) rfl rfl rfl (pu_pick (b := false) rfl (AEv.tmp rfl) (fun h => nomatch h) (fun _ => (AEv.bool _))) ?_
        refine ap (.bool false) rfl rfl rfl (pu_move rfl (AEv.tmp rfl)) ?_
        refine an rfl rfl rfl rfl rfl rfl rfl rfl ?_
        refine an rfl rfl rfl rfl rfl rfl rfl rfl ?_
        refine an rfl rfl rfl rfl rfl rfl rfl rfl ?_
        refine ap (.bool false) rfl rfl rfl (pu_pick (b := false) rfl (AEv.tmp rfl) (fun h => nomatch h) (fun _ => (AEv.bool _))) ?_
        refine ap (.bool false) rfl rfl rfl (pu_assign rfl (AEv.tmp rfl)) ?_
        refine aops_nil ?_
        obtain rfl := some_of h
        exact ⟨(), Weak.mkL [0] (by decide) ⟨⟨_, rfl, (CellsLe.refl _), rfl⟩, trivial⟩ ⟨AEv.tmp rfl, AEv.tmp rfl, AEv.tmp rfl, trivial⟩⟩
    · intro _
      have h := h89
      obtain ⟨s107, s107e, h108⟩ := bind_some h
      refine aw_meet (ν := Unit) (fun v => [(1, .ptr p69 0), (3, .bool s73), (4, .bool s88), (5, .bool s107)]) (fun v => [(p69, .cells (api.Tenant.ct t_))]) ?_ ?_
      · have h := s107e
        refine aw_region ?_
        refine ap (.ptr p69 4) rfl rfl rfl (pu_fieldAddr rfl underlying53 rfl sizeOf3 (by decide) (AEv.tmp rfl) rfl) ?_
        refine ac rfl rfl rfl (op_load1 (i := 0) rfl isAgg3 (AEv.tmp rfl) rfl rfl ?_)
        obtain ⟨r110, r110e, h⟩ := bind_some h
        refine ac rfl rfl rfl (op_call (vs := [.int .i64 t_.Conns, .int .i64 1, .int .i64 64]) (H := []) rfl call66 ⟨(AEv.tmp rfl), (AEv.int _ _), (AEv.int _ _), trivial⟩ (List.Perm.refl _) (mewsref42.in_.ok r110e) ?_)
        rintro _ _ ⟨rfl, rfl⟩
        refine ap (.bool r110) rfl rfl rfl (pu_move rfl (AEv.tmp rfl)) ?_
        rcases Bool.eq_false_or_eq_true r110 with hb111 | hb111
        · replace h := ite_t hb111 h
          refine aops_known 43 rfl hb111 ?_
          refine agp (.ptr p69 7) rfl rfl rfl rfl rfl rfl rfl (pu_fieldAddr rfl underlying53 rfl sizeOf3 (by decide) (AEv.tmp rfl) rfl) ?_
          refine ag rfl rfl rfl rfl rfl rfl rfl (op_load1 (i := 0) rfl isAgg3 (AEv.tmp rfl) rfl rfl ?_)
          obtain ⟨r112, r112e, h⟩ := bind_some h
          refine ag rfl rfl rfl rfl rfl rfl rfl (op_call (vs := [.int .i64 t_.Burst, .int .i64 1, .int .i64 1073741824]) (H := []) rfl call66 ⟨(AEv.tmp rfl), (AEv.int _ _), (AEv.int _ _), trivial⟩ (List.Perm.refl _) (mewsref42.in_.ok r112e) ?_)
          rintro _ _ ⟨rfl, rfl⟩
          refine ap (.bool r112) rfl rfl rfl (pu_pick (b := true) rfl (AEv.tmp rfl) (fun _ => (AEv.tmp rfl)) (fun h => nomatch h)) ?_
          refine ap (.bool r112) rfl rfl rfl (pu_move rfl (AEv.tmp rfl)) ?_
          rcases Bool.eq_false_or_eq_true r112 with hb113 | hb113
          · replace h := ite_t hb113 h
            refine aops_known 48 rfl hb113 ?_
            refine agp (.ptr p69 8) rfl rfl rfl rfl rfl rfl rfl (pu_fieldAddr rfl underlying53 rfl sizeOf3 (by decide) (AEv.tmp rfl) rfl) ?_
            refine ag rfl rfl rfl rfl rfl rfl rfl (op_load1 (i := 0) rfl isAgg3 (AEv.tmp rfl) rfl rfl ?_)
            obtain ⟨r114, r114e, h⟩ := bind_some h
            refine ag rfl rfl rfl rfl rfl rfl rfl (op_call (vs := [.int .i64 t_.Rate, .int .i64 0, .int .i64 1048576]) (H := []) rfl call66 ⟨(AEv.tmp rfl), (AEv.int _ _), (AEv.int _ _), trivial⟩ (List.Perm.refl _) (mewsref42.in_.ok r114e) ?_)
            rintro _ _ ⟨rfl, rfl⟩
            refine ap (.bool r114) rfl rfl rfl (pu_pick (b := true) rfl (AEv.tmp rfl) (fun _ => (AEv.tmp rfl)) (fun h => nomatch h)) ?_
            refine ap (.bool r114) rfl rfl rfl (pu_move rfl (AEv.tmp rfl)) ?_
            rcases Bool.eq_false_or_eq_true r114 with hb115 | hb115
            · replace h := ite_t hb115 h
              refine aops_known 53 rfl hb115 ?_
              refine agp (.ptr p69 10) rfl rfl rfl rfl rfl rfl rfl (pu_fieldAddr rfl underlying53 rfl sizeOf3 (by decide) (AEv.tmp rfl) rfl) ?_
              refine ag rfl rfl rfl rfl rfl rfl rfl (op_load1 (i := 0) rfl isAgg3 (AEv.tmp rfl) rfl rfl ?_)
              obtain ⟨r116, r116e, h⟩ := bind_some h
              refine ag rfl rfl rfl rfl rfl rfl rfl (op_call (vs := [.int .i64 t_.Sync, .int .i64 1, .int .i64 3]) (H := []) rfl call66 ⟨(AEv.tmp rfl), (AEv.int _ _), (AEv.int _ _), trivial⟩ (List.Perm.refl _) (mewsref42.in_.ok r116e) ?_)
              rintro _ _ ⟨rfl, rfl⟩
              refine ap (.bool r116) rfl rfl rfl (pu_pick (b := true) rfl (AEv.tmp rfl) (fun _ => (AEv.tmp rfl)) (fun h => nomatch h)) ?_
              refine ap (.bool r116) rfl rfl rfl (pu_assign rfl (AEv.tmp rfl)) ?_
              refine aops_nil ?_
              obtain rfl := some_of h
              exact ⟨(), Weak.mkL [0] (by decide) ⟨⟨_, rfl, (CellsLe.refl _), rfl⟩, trivial⟩ ⟨AEv.tmp rfl, AEv.tmp rfl, AEv.tmp rfl, AEv.tmp rfl, trivial⟩⟩
            · replace h := ite_fb hb115 h
              refine aops_known 53 rfl hb115 ?_
              refine an rfl rfl rfl rfl rfl rfl rfl rfl ?_
              refine an rfl rfl rfl rfl rfl rfl rfl rfl ?_
              refine an rfl rfl rfl rfl rfl rfl rfl rfl ?_
              refine ap (.bool false) rfl rfl rfl (pu_pick (b := false) rfl (AEv.tmp rfl) (fun h => nomatch h) (fun _ => (AEv.bool _))) ?_
              refine ap (.bool false) rfl rfl rfl (pu_assign rfl (AEv.tmp rfl)) ?_
              refine aops_nil ?_
              obtain rfl := some_of h
              exact ⟨(), Weak.mkL [0] (by decide) ⟨⟨_, rfl, (CellsLe.refl _), rfl⟩, trivial⟩ ⟨AEv.tmp rfl, AEv.tmp rfl, AEv.tmp rfl, AEv.tmp rfl, trivial⟩⟩
          · replace h := ite_fb hb113 h
            refine aops_known 48 rfl hb113 ?_
            refine an rfl rfl rfl rfl rfl rfl rfl rfl ?_
            refine an rfl rfl rfl rfl rfl rfl rfl rfl ?_
            refine an rfl rfl rfl rfl rfl rfl rfl rfl ?_
            refine ap (.bool false) rfl rfl rfl (pu_pick (b := false) rfl (AEv.tmp rfl) (fun h => nomatch h) (fun _ => (AEv.bool _))) ?_
            refine ap (.bool false) rfl rfl rfl (pu_move rfl (AEv.tmp rfl)) ?_
            refine an rfl rfl rfl rfl rfl rfl rfl rfl ?_
            refine an rfl rfl rfl rfl rfl rfl rfl rfl ?_
            refine an rfl rfl rfl rfl rfl rfl rfl rfl ?_
            refine ap (.bool false) rfl rfl rfl (pu_pick (b := false) rfl (AEv.tmp rfl) (fun h => nomatch h) (fun _ => (AEv.bool _))) ?_
            refine ap (.bool false) rfl rfl rfl (pu_assign rfl (AEv.tmp rfl)) ?_
            refine aops_nil ?_
            obtain rfl := some_of h
            exact ⟨(), Weak.mkL [0] (by decide) ⟨⟨_, rfl, (CellsLe.refl _), rfl⟩, trivial⟩ ⟨AEv.tmp rfl, AEv.tmp rfl, AEv.tmp rfl, AEv.tmp rfl, trivial⟩⟩
        · replace h := ite_fb hb111 h
          refine aops_known 43 rfl hb111 ?_
          refine an rfl rfl rfl rfl rfl rfl rfl rfl ?_
          refine an rfl rfl rfl rfl rfl rfl rfl rfl ?_
          refine an rfl rfl rfl rfl rfl rfl rfl rfl ?_
          refine ap (.bool false) rfl rfl rfl (pu_pick (b := false) rfl (AEv.tmp rfl) (fun h => nomatch h) (fun _ => (AEv.bool _))) ?_
          refine ap (.bool false) rfl rfl rfl (pu_move rfl (AEv.tmp rfl)) ?_
          refine an rfl rfl rfl rfl rfl rfl rfl rfl ?_
          refine an rfl rfl rfl rfl rfl rfl rfl rfl ?_
          refine an rfl rfl rfl rfl rfl rfl rfl rfl ?_
          refine ap (.bool false) rfl rfl rfl (pu_pick (b := false) rfl (AEv.tmp rfl) (fun h => nomatch h) (fun _ => (AEv.bool _))) ?_
          refine ap (.bool false) rfl rfl rfl (pu_move rfl (AEv.tmp rfl)) ?_
          refine an rfl rfl rfl rfl rfl rfl rfl rfl ?_
          refine an rfl rfl rfl rfl rfl rfl rfl rfl ?_
          refine an rfl rfl rfl rfl rfl rfl rfl rfl ?_
          refine ap (.bool false) rfl rfl rfl (pu_pick (b := false) rfl (AEv.tmp rfl) (fun h => nomatch h) (fun _ => (AEv.bool _))) ?_
          refine ap (.bool false) rfl rfl rfl (pu_assign rfl (AEv.tmp rfl)) ?_
          refine aops_nil ?_
          obtain rfl := some_of h
          exact ⟨(), Weak.mkL [0] (by decide) ⟨⟨_, rfl, (CellsLe.refl _), rfl⟩, trivial⟩ ⟨AEv.tmp rfl, AEv.tmp rfl, AEv.tmp rfl, AEv.tmp rfl, trivial⟩⟩
      · intro _
        have h := h108
        refine aw_seq ?_
        refine aw_region ?_
        refine ap (.ptr p69 11) rfl rfl rfl (pu_fieldAddr rfl underlying53 rfl sizeOf23 (by decide) (AEv.tmp rfl) rfl) ?_
        refine ac rfl rfl rfl (op_loadN (i := 0) rfl isAgg23 sizeOf23 (AEv.tmp rfl) rfl (Nat.le_of_ble_eq_true rfl) rfl ?_)
        refine ac rfl rfl rfl (op_alloc (cs := [.int .i64 0, .int .i64 0, .int .i64 0]) (v := .agg [.int .i64 0, .int .i64 0, .int .i64 0]) rfl zeroValue23 rfl rfl rfl ?_)
        intro p117
        refine ac0 rfl rfl (op_store (i := 0) (cs' := [.int .i64 t_.Limits.Args, .int .i64 t_.Limits.Bulk, .int .i64 t_.Limits.Line]) rfl sizeOf23 (AEv.tmp rfl) (v := .agg [.int .i64 t_.Limits.Args, .int .i64 t_.Limits.Bulk, .int .i64 t_.Limits.Line]) (AEv.tmp rfl) rfl rfl rfl (Nat.le_of_ble_eq_true rfl) rfl ?_)
        refine aops_nil ?_
        obtain ⟨s126, s126e, h127⟩ := bind_some h
        refine aw_meet (ν := Unit) (fun v => [(2, .bool s126)]) (fun v => []) ?_ ?_
        · have h := s126e
          refine aw_region ?_
          refine ap (.bool s73) rfl rfl rfl (pu_move rfl (AEv.tmp rfl)) ?_
          refine ap (.bool s73) rfl rfl rfl (pu_move rfl (AEv.tmp rfl)) ?_
          rcases Bool.eq_false_or_eq_true s73 with hb129 | hb129
          · replace h := ite_t hb129 h
            refine aops_known 61 rfl hb129 ?_
            refine agp (.bool s88) rfl rfl rfl rfl rfl rfl rfl (pu_move rfl (AEv.tmp rfl)) ?_
            refine ap (.bool s88) rfl rfl rfl (pu_pick (b := true) rfl (AEv.tmp rfl) (fun _ => (AEv.tmp rfl)) (fun h => nomatch h)) ?_
            refine ap (.bool s88) rfl rfl rfl (pu_move rfl (AEv.tmp rfl)) ?_
            rcases Bool.eq_false_or_eq_true s88 with hb130 | hb130
            · replace h := ite_t hb130 h
              refine aops_known 64 rfl hb130 ?_
              refine agp (.bool s107) rfl rfl rfl rfl rfl rfl rfl (pu_move rfl (AEv.tmp rfl)) ?_
              refine ap (.bool s107) rfl rfl rfl (pu_pick (b := true) rfl (AEv.tmp rfl) (fun _ => (AEv.tmp rfl)) (fun h => nomatch h)) ?_
              refine ap (.bool s107) rfl rfl rfl (pu_move rfl (AEv.tmp rfl)) ?_
              rcases Bool.eq_false_or_eq_true s107 with hb131 | hb131
              · replace h := ite_t hb131 h
                refine aops_known 67 rfl hb131 ?_
                refine agp (.ptr p117 0) rfl rfl rfl rfl rfl rfl rfl (pu_fieldAddr rfl underlying23 rfl sizeOf3 (by decide) (AEv.tmp rfl) rfl) ?_
                refine ag rfl rfl rfl rfl rfl rfl rfl (op_load1 (i := 0) rfl isAgg3 (AEv.tmp rfl) rfl rfl ?_)
                obtain ⟨r132, r132e, h⟩ := bind_some h
                refine ag rfl rfl rfl rfl rfl rfl rfl (op_call (vs := [.int .i64 t_.Limits.Args, .int .i64 1, .int .i64 65536]) (H := []) rfl call66 ⟨(AEv.tmp rfl), (AEv.int _ _), (AEv.int _ _), trivial⟩ (List.Perm.refl _) (mewsref42.in_.ok r132e) ?_)
                rintro _ _ ⟨rfl, rfl⟩
                refine ap (.bool r132) rfl rfl rfl (pu_pick (b := true) rfl (AEv.tmp rfl) (fun _ => (AEv.tmp rfl)) (fun h => nomatch h)) ?_
                refine ap (.bool r132) rfl rfl rfl (pu_move rfl (AEv.tmp rfl)) ?_
                rcases Bool.eq_false_or_eq_true r132 with hb133 | hb133
                · replace h := ite_t hb133 h
                  refine aops_known 72 rfl hb133 ?_
                  refine agp (.ptr p117 1) rfl rfl rfl rfl rfl rfl rfl (pu_fieldAddr rfl underlying23 rfl sizeOf3 (by decide) (AEv.tmp rfl) rfl) ?_
                  refine ag rfl rfl rfl rfl rfl rfl rfl (op_load1 (i := 0) rfl isAgg3 (AEv.tmp rfl) rfl rfl ?_)
                  obtain ⟨r134, r134e, h⟩ := bind_some h
                  refine ag rfl rfl rfl rfl rfl rfl rfl (op_call (vs := [.int .i64 t_.Limits.Bulk, .int .i64 1, .int .i64 1048576]) (H := []) rfl call66 ⟨(AEv.tmp rfl), (AEv.int _ _), (AEv.int _ _), trivial⟩ (List.Perm.refl _) (mewsref42.in_.ok r134e) ?_)
                  rintro _ _ ⟨rfl, rfl⟩
                  refine ap (.bool r134) rfl rfl rfl (pu_pick (b := true) rfl (AEv.tmp rfl) (fun _ => (AEv.tmp rfl)) (fun h => nomatch h)) ?_
                  refine ap (.bool r134) rfl rfl rfl (pu_move rfl (AEv.tmp rfl)) ?_
                  rcases Bool.eq_false_or_eq_true r134 with hb135 | hb135
                  · replace h := ite_t hb135 h
                    refine aops_known 77 rfl hb135 ?_
                    refine agp (.ptr p117 2) rfl rfl rfl rfl rfl rfl rfl (pu_fieldAddr rfl underlying23 rfl sizeOf3 (by decide) (AEv.tmp rfl) rfl) ?_
                    refine ag rfl rfl rfl rfl rfl rfl rfl (op_load1 (i := 0) rfl isAgg3 (AEv.tmp rfl) rfl rfl ?_)
                    obtain ⟨r136, r136e, h⟩ := bind_some h
                    refine ag rfl rfl rfl rfl rfl rfl rfl (op_call (vs := [.int .i64 t_.Limits.Line, .int .i64 1, .int .i64 65536]) (H := []) rfl call66 ⟨(AEv.tmp rfl), (AEv.int _ _), (AEv.int _ _), trivial⟩ (List.Perm.refl _) (mewsref42.in_.ok r136e) ?_)
                    rintro _ _ ⟨rfl, rfl⟩
                    refine ap (.bool r136) rfl rfl rfl (pu_pick (b := true) rfl (AEv.tmp rfl) (fun _ => (AEv.tmp rfl)) (fun h => nomatch h)) ?_
                    refine ap (.bool r136) rfl rfl rfl (pu_assign rfl (AEv.tmp rfl)) ?_
                    refine aops_nil ?_
                    obtain rfl := some_of h
                    exact ⟨(), Weak.mkL [] (by decide) trivial ⟨AEv.tmp rfl, trivial⟩⟩
                  · replace h := ite_fb hb135 h
                    refine aops_known 77 rfl hb135 ?_
                    refine an rfl rfl rfl rfl rfl rfl rfl rfl ?_
                    refine an rfl rfl rfl rfl rfl rfl rfl rfl ?_
                    refine an rfl rfl rfl rfl rfl rfl rfl rfl ?_
                    refine ap (.bool false) rfl rfl rfl (pu_pick (b := false) rfl (AEv.tmp rfl) (fun h => nomatch h) (fun _ => (AEv.bool _))) ?_
                    refine ap (.bool false) rfl rfl rfl (pu_assign rfl (AEv.tmp rfl)) ?_
                    refine aops_nil ?_
                    obtain rfl := some_of h
                    exact ⟨(), Weak.mkL [] (by decide) trivial ⟨AEv.tmp rfl, trivial⟩⟩
                · replace h := ite_fb hb133 h
                  refine aops_known 72 rfl hb133 ?_
                  refine an rfl rfl rfl rfl rfl rfl rfl rfl ?_
                  refine an rfl rfl rfl rfl rfl rfl rfl rfl ?_
                  refine an rfl rfl rfl rfl rfl rfl rfl rfl ?_
                  refine ap (.bool false) rfl rfl rfl (pu_pick (b := false) rfl (AEv.tmp rfl) (fun h => nomatch h) (fun _ => (AEv.bool _))) ?_
                  refine ap (.bool false) rfl rfl rfl (pu_move rfl (AEv.tmp rfl)) ?_
                  refine an rfl rfl rfl rfl rfl rfl rfl rfl ?_
                  refine an rfl rfl rfl rfl rfl rfl rfl rfl ?_
                  refine an rfl rfl rfl rfl rfl rfl rfl rfl ?_
                  refine ap (.bool false) rfl rfl rfl (pu_pick (b := false) rfl (AEv.tmp rfl) (fun h => nomatch h) (fun _ => (AEv.bool _))) ?_
                  refine ap (.bool false) rfl rfl rfl (pu_assign rfl (AEv.tmp rfl)) ?_
                  refine aops_nil ?_
                  obtain rfl := some_of h
                  exact ⟨(), Weak.mkL [] (by decide) trivial ⟨AEv.tmp rfl, trivial⟩⟩
              · replace h := ite_fb hb131 h
                refine aops_known 67 rfl hb131 ?_
                refine an rfl rfl rfl rfl rfl rfl rfl rfl ?_
                refine an rfl rfl rfl rfl rfl rfl rfl rfl ?_
                refine an rfl rfl rfl rfl rfl rfl rfl rfl ?_
                refine ap (.bool false) rfl rfl rfl (pu_pick (b := false) rfl (AEv.tmp rfl) (fun h => nomatch h) (fun _ => (AEv.bool _))) ?_
                refine ap (.bool false) rfl rfl rfl (pu_move rfl (AEv.tmp rfl)) ?_
                refine an rfl rfl rfl rfl rfl rfl rfl rfl ?_
                refine an rfl rfl rfl rfl rfl rfl rfl rfl ?_
                refine an rfl rfl rfl rfl rfl rfl rfl rfl ?_
                refine ap (.bool false) rfl rfl rfl (pu_pick (b := false) rfl (AEv.tmp rfl) (fun h => nomatch h) (fun _ => (AEv.bool _))) ?_
                refine ap (.bool false) rfl rfl rfl (pu_move rfl (AEv.tmp rfl)) ?_
                refine an rfl rfl rfl rfl rfl rfl rfl rfl ?_
                refine an rfl rfl rfl rfl rfl rfl rfl rfl ?_
                refine an rfl rfl rfl rfl rfl rfl rfl rfl ?_
                refine ap (.bool false) rfl rfl rfl (pu_pick (b := false) rfl (AEv.tmp rfl) (fun h => nomatch h) (fun _ => (AEv.bool _))) ?_
                refine ap (.bool false) rfl rfl rfl (pu_assign rfl (AEv.tmp rfl)) ?_
                refine aops_nil ?_
                obtain rfl := some_of h
                exact ⟨(), Weak.mkL [] (by decide) trivial ⟨AEv.tmp rfl, trivial⟩⟩
            · replace h := ite_fb hb130 h
              refine aops_known 64 rfl hb130 ?_
              refine an rfl rfl rfl rfl rfl rfl rfl rfl ?_
              refine ap (.bool false) rfl rfl rfl (pu_pick (b := false) rfl (AEv.tmp rfl) (fun h => nomatch h) (fun _ => (AEv.bool _))) ?_
              refine ap (.bool false) rfl rfl rfl (pu_move rfl (AEv.tmp rfl)) ?_
              refine an rfl rfl rfl rfl rfl rfl rfl rfl ?_
              refine an rfl rfl rfl rfl rfl rfl rfl rfl ?_
              refine an rfl rfl rfl rfl rfl rfl rfl rfl ?_
              refine ap (.bool false) rfl rfl rfl (pu_pick (b := false) rfl (AEv.tmp rfl) (fun h => nomatch h) (fun _ => (AEv.bool _))) ?_
              refine ap (.bool false) rfl rfl rfl (pu_move rfl (AEv.tmp rfl)) ?_
              refine an rfl rfl rfl rfl rfl rfl rfl rfl ?_
              refine an rfl rfl rfl rfl rfl rfl rfl rfl ?_
              refine an rfl rfl rfl rfl rfl rfl rfl rfl ?_
              refine ap (.bool false) rfl rfl rfl (pu_pick (b := false) rfl (AEv.tmp rfl) (fun h => nomatch h) (fun _ => (AEv.bool _))) ?_
              refine ap (.bool false) rfl rfl rfl (pu_move rfl (AEv.tmp rfl)) ?_
              refine an rfl rfl rfl rfl rfl rfl rfl rfl ?_
              refine an rfl rfl rfl rfl rfl rfl rfl rfl ?_
              refine an rfl rfl rfl rfl rfl rfl rfl rfl ?_
              refine ap (.bool false) rfl rfl rfl (pu_pick (b := false) rfl (AEv.tmp rfl) (fun h => nomatch h) (fun _ => (AEv.bool _))) ?_
              refine ap (.bool false) rfl rfl rfl (pu_assign rfl (AEv.tmp rfl)) ?_
              refine aops_nil ?_
              obtain rfl := some_of h
              exact ⟨(), Weak.mkL [] (by decide) trivial ⟨AEv.tmp rfl, trivial⟩⟩
          · replace h := ite_fb hb129 h
            refine aops_known 61 rfl hb129 ?_
            refine an rfl rfl rfl rfl rfl rfl rfl rfl ?_
            refine ap (.bool false) rfl rfl rfl (pu_pick (b := false) rfl (AEv.tmp rfl) (fun h => nomatch h) (fun _ => (AEv.bool _))) ?_
            refine ap (.bool false) rfl rfl rfl (pu_move rfl (AEv.tmp rfl)) ?_
            refine an rfl rfl rfl rfl rfl rfl rfl rfl ?_
            refine ap (.bool false) rfl rfl rfl (pu_pick (b := false) rfl (AEv.tmp rfl) (fun h => nomatch h) (fun _ => (AEv.bool _))) ?_
            refine ap (.bool false) rfl rfl rfl (pu_move rfl (AEv.tmp rfl)) ?_
            refine an rfl rfl rfl rfl rfl rfl rfl rfl ?_
            refine an rfl rfl rfl rfl rfl rfl rfl rfl ?_
            refine an rfl rfl rfl rfl rfl rfl rfl rfl ?_
            refine ap (.bool false) rfl rfl rfl (pu_pick (b := false) rfl (AEv.tmp rfl) (fun h => nomatch h) (fun _ => (AEv.bool _))) ?_
            refine ap (.bool false) rfl rfl rfl (pu_move rfl (AEv.tmp rfl)) ?_
            refine an rfl rfl rfl rfl rfl rfl rfl rfl ?_
            refine an rfl rfl rfl rfl rfl rfl rfl rfl ?_
            refine an rfl rfl rfl rfl rfl rfl rfl rfl ?_
            refine ap (.bool false) rfl rfl rfl (pu_pick (b := false) rfl (AEv.tmp rfl) (fun h => nomatch h) (fun _ => (AEv.bool _))) ?_
            refine ap (.bool false) rfl rfl rfl (pu_move rfl (AEv.tmp rfl)) ?_
            refine an rfl rfl rfl rfl rfl rfl rfl rfl ?_
            refine an rfl rfl rfl rfl rfl rfl rfl rfl ?_
            refine an rfl rfl rfl rfl rfl rfl rfl rfl ?_
            refine ap (.bool false) rfl rfl rfl (pu_pick (b := false) rfl (AEv.tmp rfl) (fun h => nomatch h) (fun _ => (AEv.bool _))) ?_
            refine ap (.bool false) rfl rfl rfl (pu_assign rfl (AEv.tmp rfl)) ?_
            refine aops_nil ?_
            obtain rfl := some_of h
            exact ⟨(), Weak.mkL [] (by decide) trivial ⟨AEv.tmp rfl, trivial⟩⟩
        · intro _
          have h := h127
          refine aw_ret ?_
          obtain rfl := some_of h
          exact ⟨[.bool s126], _, [], ⟨(AEv.tmp rfl), trivial⟩, (AV.Le.refl _), Weak.mkL [] (by decide) trivial trivial, ⟨rfl, rfl⟩⟩

theorem mewsref42.Right.ok {c_ : api.Config} {r : Int} (h : mewsref42.Right c_ = some r) : Go.Lift.Spec prog 44 [.agg [.sl .no 14 (c_.Tenants.map api.Tenant.av), .int .i64 c_.Quantum, .int .i64 c_.Deadline]] [] (fun v H => v = .int .i64 r ∧ H = []) := by
  unfold mewsref42.Right at h
  refine Go.Lift.Spec.of_body (rs := [.tmp 2]) func44 rfl rfl (Nat.le_of_ble_eq_true rfl) rfl ?_
  refine aw_seq ?_
  refine aw_region ?_
  refine ac rfl rfl rfl (op_box (cs := [.sl .no 14 (c_.Tenants.map api.Tenant.av), .int .i64 c_.Quantum, .int .i64 c_.Deadline]) (v := .agg [.sl .no 14 (c_.Tenants.map api.Tenant.av), .int .i64 c_.Quantum, .int .i64 c_.Deadline]) rfl (AEv.tmp rfl) rfl rfl ?_)
  intro p568
  refine ap (.int .i64 0) rfl rfl rfl (pu_assign rfl (AEv.int _ _)) ?_
  refine aops_nil ?_
  refine aw_seq ?_
  refine aw_seq ?_
  refine aw_region ?_
  refine ap (.ptr p568 0) rfl rfl rfl (pu_fieldAddr rfl underlying78 rfl sizeOf76 (by decide) (AEv.tmp rfl) rfl) ?_
  refine ac rfl rfl rfl (op_load1 (i := 0) rfl isAgg76 (AEv.tmp rfl) rfl rfl ?_)
  refine ap (.int .i64 (c_.Tenants.length : Int)) rfl rfl rfl (pu_lenM rfl underlying76 (AEv.tmp rfl)) ?_
  obtain ⟨r569, r569e, h⟩ := bind_some h
  refine ac rfl rfl rfl (op_call (vs := [.int .i64 (c_.Tenants.length : Int), .int .i64 1, .int .i64 16]) (H := []) rfl call66 ⟨(AEv.tmp rfl), (AEv.int _ _), (AEv.int _ _), trivial⟩ (List.Perm.refl _) (mewsref42.in_.ok r569e) ?_)
  rintro _ _ ⟨rfl, rfl⟩
  refine ap (.bool (!r569)) rfl rfl rfl (pu_not rfl (AEv.tmp rfl)) ?_
  refine aops_nil ?_
  refine aw_cond (b := (!r569)) (AEv.tmp rfl) (fun hb1134 => ?_) (fun hb1134 => ?_)
  · replace h := ite_t hb1134 h
    refine aw_seq ?_
    refine aw_region ?_
    refine ap (.int .i64 7) rfl rfl rfl (pu_assign rfl (AEv.int _ _)) ?_
    refine aops_nil ?_
    refine aw_ret ?_
    obtain rfl := some_of h
    exact ⟨[.int .i64 7], _, [], ⟨(AEv.tmp rfl), trivial⟩, (AV.Le.refl _), Weak.mkL [] (by decide) trivial trivial, ⟨rfl, rfl⟩⟩
  · replace h := ite_fb hb1134 h
    refine aw_skip ?_
    obtain ⟨s1133, s1133e, h589⟩ := bind_some h
    refine aw_join (σ := Unit) (ν := Unit) (fun u v => [(1, .ptr p568 0)]) (fun u v => [(p568, .cells [.sl .no 14 (c_.Tenants.map api.Tenant.av), .int .i64 c_.Quantum, .int .i64 c_.Deadline])]) (fun u => s1133 = .inl u) ?_ ?_
    · intro s588
      intro _
      rintro rfl
      have h := onSum_inl h589
      refine aw_seq ?_
      obtain ⟨s612, s612e, h613⟩ := bind_some h
      refine aw_meet (ν := Unit) (fun v => [(1, .ptr p568 0), (40, .bool s612)]) (fun v => [(p568, .cells [.sl .no 14 (c_.Tenants.map api.Tenant.av), .int .i64 c_.Quantum, .int .i64 c_.Deadline])]) ?_ ?_
      · have h := s612e
        refine aw_region ?_
        refine ap (.ptr p568 1) rfl rfl rfl (pu_fieldAddr rfl underlying78 rfl sizeOf3 (by decide) (AEv.tmp rfl) rfl) ?_
        refine ac rfl rfl rfl (op_load1 (i := 0) rfl isAgg3 (AEv.tmp rfl) rfl rfl ?_)
        obtain ⟨r615, r615e, h⟩ := bind_some h
        refine ac rfl rfl rfl (op_call (vs := [.int .i64 c_.Quantum, .int .i64 1, .int .i64 1000]) (H := []) rfl call66 ⟨(AEv.tmp rfl), (AEv.int _ _), (AEv.int _ _), trivial⟩ (List.Perm.refl _) (mewsref42.in_.ok r615e) ?_)
        rintro _ _ ⟨rfl, rfl⟩
        refine ap (.bool (!r615)) rfl rfl rfl (pu_not rfl (AEv.tmp rfl)) ?_
        refine ap (.bool (!r615)) rfl rfl rfl (pu_move rfl (AEv.tmp rfl)) ?_
        rcases Bool.eq_false_or_eq_true (!r615) with hb616 | hb616
        · replace h := ite_t hb616 h
          refine aops_known 31 rfl hb616 ?_
          refine an rfl rfl rfl rfl rfl rfl rfl rfl ?_
          refine an rfl rfl rfl rfl rfl rfl rfl rfl ?_
          refine an rfl rfl rfl rfl rfl rfl rfl rfl ?_
          refine ap (.bool true) rfl rfl rfl (pu_pick (b := true) rfl (AEv.tmp rfl) (fun _ => (AEv.bool _)) (fun h => nomatch h)) ?_
          refine ap (.bool true) rfl rfl rfl (pu_move rfl (AEv.tmp rfl)) ?_
          refine an rfl rfl rfl rfl rfl rfl rfl rfl ?_
          refine an rfl rfl rfl rfl rfl rfl rfl rfl ?_
          refine an rfl rfl rfl rfl rfl rfl rfl rfl ?_
          refine ap (.bool true) rfl rfl rfl (pu_pick (b := true) rfl (AEv.tmp rfl) (fun _ => (AEv.bool _)) (fun h => nomatch h)) ?_
          refine aops_nil ?_
          obtain rfl := some_of h
          exact ⟨(), Weak.mkL [0] (by decide) ⟨⟨_, rfl, (CellsLe.refl _), rfl⟩, trivial⟩ ⟨AEv.tmp rfl, AEv.tmp rfl, trivial⟩⟩
        · replace h := ite_fb hb616 h
          refine aops_known 31 rfl hb616 ?_
          refine agp (.ptr p568 2) rfl rfl rfl rfl rfl rfl rfl (pu_fieldAddr rfl underlying78 rfl sizeOf2 (by decide) (AEv.tmp rfl) rfl) ?_
          refine ag rfl rfl rfl rfl rfl rfl rfl (op_load1 (i := 0) rfl isAgg2 (AEv.tmp rfl) rfl rfl ?_)
          refine agp (.bool (decide (c_.Deadline < 1))) rfl rfl rfl rfl rfl rfl rfl (pu_int (v := .bool (decide (c_.Deadline < 1))) rfl rfl (AEv.tmp rfl) (AEv.int _ _) rfl) ?_
          refine ap (.bool (decide (c_.Deadline < 1))) rfl rfl rfl (pu_pick (b := false) rfl (AEv.tmp rfl) (fun h => nomatch h) (fun _ => (AEv.tmp rfl))) ?_
          refine ap (.bool (decide (c_.Deadline < 1))) rfl rfl rfl (pu_move rfl (AEv.tmp rfl)) ?_
          rcases Bool.eq_false_or_eq_true (decide (c_.Deadline < 1)) with hb617 | hb617
          · replace h := ite_t (dec_t hb617) h
            refine aops_known 36 rfl hb617 ?_
            refine an rfl rfl rfl rfl rfl rfl rfl rfl ?_
            refine an rfl rfl rfl rfl rfl rfl rfl rfl ?_
            refine an rfl rfl rfl rfl rfl rfl rfl rfl ?_
            refine ap (.bool true) rfl rfl rfl (pu_pick (b := true) rfl (AEv.tmp rfl) (fun _ => (AEv.bool _)) (fun h => nomatch h)) ?_
            refine aops_nil ?_
            obtain rfl := some_of h
            exact ⟨(), Weak.mkL [0] (by decide) ⟨⟨_, rfl, (CellsLe.refl _), rfl⟩, trivial⟩ ⟨AEv.tmp rfl, AEv.tmp rfl, trivial⟩⟩
          · replace h := ite_f (dec_f hb617) h
            refine aops_known 36 rfl hb617 ?_
            refine agp (.ptr p568 2) rfl rfl rfl rfl rfl rfl rfl (pu_fieldAddr rfl underlying78 rfl sizeOf2 (by decide) (AEv.tmp rfl) rfl) ?_
            refine ag rfl rfl rfl rfl rfl rfl rfl (op_load1 (i := 0) rfl isAgg2 (AEv.tmp rfl) rfl rfl ?_)
            refine agp (.bool (decide (1099511627776 < c_.Deadline))) rfl rfl rfl rfl rfl rfl rfl (pu_int (v := .bool (decide (1099511627776 < c_.Deadline))) rfl rfl (AEv.tmp rfl) (AEv.int _ _) rfl) ?_
            refine ap (.bool (decide (1099511627776 < c_.Deadline))) rfl rfl rfl (pu_pick (b := false) rfl (AEv.tmp rfl) (fun h => nomatch h) (fun _ => (AEv.tmp rfl))) ?_
            refine aops_nil ?_
            obtain rfl := some_of h
            exact ⟨(), Weak.mkL [0] (by decide) ⟨⟨_, rfl, (CellsLe.refl _), rfl⟩, trivial⟩ ⟨AEv.tmp rfl, (AEv.le (AEv.tmp rfl) (AV.Le.refl _)), trivial⟩⟩
      · intro _
        have h := h613
        refine aw_cond (b := s612) (AEv.tmp rfl) (fun hb1132 => ?_) (fun hb1132 => ?_)
        · replace h := ite_t hb1132 h
          refine aw_seq ?_
          refine aw_region ?_
          refine ap (.int .i64 1) rfl rfl rfl (pu_assign rfl (AEv.int _ _)) ?_
          refine aops_nil ?_
          refine aw_ret ?_
          obtain rfl := some_of h
          exact ⟨[.int .i64 1], _, [], ⟨(AEv.tmp rfl), trivial⟩, (AV.Le.refl _), Weak.mkL [] (by decide) trivial trivial, ⟨rfl, rfl⟩⟩
        · replace h := ite_fb hb1132 h
          refine aw_skip ?_
          obtain ⟨s1131, s1131e, h874⟩ := bind_some h
          refine aw_join (σ := Unit) (ν := Unit) (fun u v => []) (fun u v => []) (fun u => s1131 = .inl u) ?_ ?_
          · intro s873
            intro _
            rintro rfl
            have h := onSum_inl h874
            refine aw_seq ?_
            refine aw_region ?_
            refine ap (.int .i64 0) rfl rfl rfl (pu_assign rfl (AEv.int _ _)) ?_
            refine aops_nil ?_
            refine aw_ret ?_
            obtain rfl := some_of h
            exact ⟨[.int .i64 0], _, [], ⟨(AEv.tmp rfl), trivial⟩, (AV.Le.refl _), Weak.mkL [] (by decide) trivial trivial, ⟨rfl, rfl⟩⟩
          · have h := s1131e
            refine aw_seq ?_
            refine aw_region ?_
            refine ap (.int .i64 0) rfl rfl rfl (pu_assign rfl (AEv.int _ _)) ?_
            refine aops_nil ?_
            refine aw_block ?_
            refine aw_while (σ := mewsref42.Right.S2) (ν := Unit) (mewsref42.Right.body2 c_) (fun s1044 v => [(1, .ptr p568 0), (4, .int .i64 s1044.i)]) (fun s1044 v => [(p568, .cells [.sl .no 14 (c_.Tenants.map api.Tenant.av), .int .i64 c_.Quantum, .int .i64 c_.Deadline])]) ⟨0⟩ () _ h (Weak.mkL [0] (by decide) ⟨⟨_, rfl, (CellsLe.refl _), rfl⟩, trivial⟩ ⟨AEv.tmp rfl, AEv.tmp rfl, trivial⟩) ?_
            rintro s1044 _ x1046 h hx1045
            unfold mewsref42.Right.body2 at h
            refine aw_seq ?_
            refine aw_seq ?_
            refine aw_region ?_
            refine ap (.int .i64 s1044.i) rfl rfl rfl (pu_move rfl (AEv.tmp rfl)) ?_
            refine ap (.ptr p568 0) rfl rfl rfl (pu_fieldAddr rfl underlying78 rfl sizeOf76 (by decide) (AEv.tmp rfl) rfl) ?_
            refine ac rfl rfl rfl (op_load1 (i := 0) rfl isAgg76 (AEv.tmp rfl) rfl rfl ?_)
            refine ap (.int .i64 (c_.Tenants.length : Int)) rfl rfl rfl (pu_lenM rfl underlying76 (AEv.tmp rfl)) ?_
            refine ap (.bool (decide (s1044.i < (c_.Tenants.length : Int)))) rfl rfl rfl (pu_int (v := .bool (decide (s1044.i < (c_.Tenants.length : Int)))) rfl rfl (AEv.tmp rfl) (AEv.tmp rfl) rfl) ?_
            refine aops_nil ?_
            refine aw_cond (b := decide (s1044.i < (c_.Tenants.length : Int))) (AEv.tmp rfl) (fun hb1130 => ?_) (fun hb1130 => ?_)
            · replace h := ite_t (dec_t hb1130) h
              refine aw_skip ?_
              obtain ⟨s1129, s1129e, h1088⟩ := bind_some h
              refine aw_join (σ := Unit) (ν := Unit) (fun u v => [(1, .ptr p568 0), (4, .int .i64 s1044.i)]) (fun u v => [(p568, .cells [.sl .no 14 (c_.Tenants.map api.Tenant.av), .int .i64 c_.Quantum, .int .i64 c_.Deadline])]) (fun u => s1129 = .inl u) ?_ ?_
              · intro s1087
                intro _
                rintro rfl
                have h := onSum_inl h1088
                refine aw_region ?_
                refine ap (.int .i64 s1044.i) rfl rfl rfl (pu_move rfl (AEv.tmp rfl)) ?_
                refine ap (.int .i64 (IntKind.wrap .i64 (s1044.i + 1))) rfl rfl rfl (pu_int (v := .int .i64 (IntKind.wrap .i64 (s1044.i + 1))) rfl rfl (AEv.tmp rfl) (AEv.int _ _) rfl) ?_
                refine ap (.int .i64 (IntKind.wrap .i64 (s1044.i + 1))) rfl rfl rfl (pu_assign rfl (AEv.tmp rfl)) ?_
                refine aops_nil ?_
                obtain rfl := some_of h
                exact ⟨_, (), rfl, Weak.mkL [0] (by decide) ⟨⟨_, rfl, (CellsLe.refl _), rfl⟩, trivial⟩ ⟨AEv.tmp rfl, (AEv.le (AEv.tmp rfl) (AV.Le.refl _)), trivial⟩⟩
              · have h := s1129e
                refine aw_block ?_
                refine aw_seq ?_
                refine aw_region ?_
                refine ap (.int .i64 s1044.i) rfl rfl rfl (pu_move rfl (AEv.tmp rfl)) ?_
                refine ap (.int .i64 (IntKind.wrap .i64 (s1044.i + 1))) rfl rfl rfl (pu_int (v := .int .i64 (IntKind.wrap .i64 (s1044.i + 1))) rfl rfl (AEv.tmp rfl) (AEv.int _ _) rfl) ?_
                refine ap (.int .i64 (IntKind.wrap .i64 (s1044.i + 1))) rfl rfl rfl (pu_assign rfl (AEv.tmp rfl)) ?_
                refine aops_nil ?_
                refine aw_block ?_
                refine aw_while (σ := mewsref42.Right.S4) (ν := Unit) (mewsref42.Right.body4 c_ s1044) (fun s1114 v => [(1, .ptr p568 0), (4, .int .i64 s1044.i), (5, .int .i64 s1114.k)]) (fun s1114 v => [(p568, .cells [.sl .no 14 (c_.Tenants.map api.Tenant.av), .int .i64 c_.Quantum, .int .i64 c_.Deadline])]) ⟨IntKind.wrap .i64 (s1044.i + 1)⟩ () _ h (Weak.mkL [0] (by decide) ⟨⟨_, rfl, (CellsLe.refl _), rfl⟩, trivial⟩ ⟨AEv.tmp rfl, AEv.tmp rfl, (AEv.le (AEv.tmp rfl) (AV.Le.refl _)), trivial⟩) ?_
                rintro s1114 _ x1116 h hx1115
                unfold mewsref42.Right.body4 at h
                refine aw_seq ?_
                refine aw_seq ?_
                refine aw_region ?_
                refine ap (.int .i64 s1114.k) rfl rfl rfl (pu_move rfl (AEv.tmp rfl)) ?_
                refine ap (.ptr p568 0) rfl rfl rfl (pu_fieldAddr rfl underlying78 rfl sizeOf76 (by decide) (AEv.tmp rfl) rfl) ?_
                refine ac rfl rfl rfl (op_load1 (i := 0) rfl isAgg76 (AEv.tmp rfl) rfl rfl ?_)
                refine ap (.int .i64 (c_.Tenants.length : Int)) rfl rfl rfl (pu_lenM rfl underlying76 (AEv.tmp rfl)) ?_
                refine ap (.bool (decide (s1114.k < (c_.Tenants.length : Int)))) rfl rfl rfl (pu_int (v := .bool (decide (s1114.k < (c_.Tenants.length : Int)))) rfl rfl (AEv.tmp rfl) (AEv.tmp rfl) rfl) ?_
                refine aops_nil ?_
                refine aw_cond (b := decide (s1114.k < (c_.Tenants.length : Int))) (AEv.tmp rfl) (fun hb1128 => ?_) (fun hb1128 => ?_)
                · replace h := ite_t (dec_t hb1128) h
                  refine aw_skip ?_
                  refine aw_seq ?_
                  refine aw_block ?_
                  refine aw_seq ?_
                  obtain ⟨c1118, h⟩ := need_of h
                  obtain ⟨c1119, h⟩ := need_of h
                  refine aw_reserve fun p1120 => ?_
                  refine aw_reserve fun p1121 => ?_
                  refine aw_plan (by decide +kernel) [([], some 57, [1]), ([0], some 58, [57]), ([], some 59, [4]), ([1, 2], some 60, [58, 59]), ([3], some 61, [60]), ([], some 62, [1]), ([5], some 63, [62]), ([], some 64, [5]), ([6, 7], some 65, [63, 64]), ([8], some 66, [65]), ([], some 6, []), ([], some 7, []), ([10, 4, 0, 1, 2, 3, 4, 10, 11], none, [6, 61]), ([11, 9, 12, 0, 1, 2, 3, 4, 5, 6, 7, 8, 9, 10, 11, 12], none, [7, 66])] rfl [[], [0], [], [0, 1, 2], [0, 1, 2, 3], [], [5], [], [5, 6, 7], [5, 6, 7, 8], [], [], [0, 1, 2, 3, 4, 10, 11], [0, 1, 2, 3, 4, 5, 6, 7, 8, 9, 10, 11, 12]] [[], [(2, 0, false)], [], [], [], [], [(2, 0, false)], [], [], [], [(1, 0, true)], [(0, 0, true)], [(1, 1, true)], [(0, 1, true)]] [[11, 13], [10, 12], []] [[[(p1121, .resv)], [(p1121, .cells [.str ([] : List UInt8), .str ([] : List UInt8), .int .i64 0, .int .i64 0, .int .i64 0, .int .i64 0, .int .i64 0, .int .i64 0, .int .i64 0, .int .i64 0, .int .i64 0, .int .i64 0, .int .i64 0, .int .i64 0])], [(p1121, .cells (api.Tenant.ct (ix c_.Tenants s1114.k)))]], [[(p1120, .resv)], [(p1120, .cells [.str ([] : List UInt8), .str ([] : List UInt8), .int .i64 0, .int .i64 0, .int .i64 0, .int .i64 0, .int .i64 0, .int .i64 0, .int .i64 0, .int .i64 0, .int .i64 0, .int .i64 0, .int .i64 0, .int .i64 0])], [(p1120, .cells (api.Tenant.ct (ix c_.Tenants s1044.i)))]], [[(p568, .cells [.sl .no 14 (c_.Tenants.map api.Tenant.av), .int .i64 c_.Quantum, .int .i64 c_.Deadline])]]] [.ptr p568 0, .sl .no 14 (c_.Tenants.map api.Tenant.av), .int .i64 s1044.i, .vptr [.str (ix c_.Tenants s1044.i).Name, .str (ix c_.Tenants s1044.i).Token, .int .i64 (ix c_.Tenants s1044.i).Memory, .int .i64 (ix c_.Tenants s1044.i).Policy, .int .i64 (ix c_.Tenants s1044.i).Conns, .int .i64 (ix c_.Tenants s1044.i).In, .int .i64 (ix c_.Tenants s1044.i).Out, .int .i64 (ix c_.Tenants s1044.i).Burst, .int .i64 (ix c_.Tenants s1044.i).Rate, .int .i64 (ix c_.Tenants s1044.i).Disk, .int .i64 (ix c_.Tenants s1044.i).Sync, .int .i64 (ix c_.Tenants s1044.i).Limits.Args, .int .i64 (ix c_.Tenants s1044.i).Limits.Bulk, .int .i64 (ix c_.Tenants s1044.i).Limits.Line], .agg (api.Tenant.ct (ix c_.Tenants s1044.i)), .ptr p568 0, .sl .no 14 (c_.Tenants.map api.Tenant.av), .int .i64 s1114.k, .vptr [.str (ix c_.Tenants s1114.k).Name, .str (ix c_.Tenants s1114.k).Token, .int .i64 (ix c_.Tenants s1114.k).Memory, .int .i64 (ix c_.Tenants s1114.k).Policy, .int .i64 (ix c_.Tenants s1114.k).Conns, .int .i64 (ix c_.Tenants s1114.k).In, .int .i64 (ix c_.Tenants s1114.k).Out, .int .i64 (ix c_.Tenants s1114.k).Burst, .int .i64 (ix c_.Tenants s1114.k).Rate, .int .i64 (ix c_.Tenants s1114.k).Disk, .int .i64 (ix c_.Tenants s1114.k).Sync, .int .i64 (ix c_.Tenants s1114.k).Limits.Args, .int .i64 (ix c_.Tenants s1114.k).Limits.Bulk, .int .i64 (ix c_.Tenants s1114.k).Limits.Line], .agg (api.Tenant.ct (ix c_.Tenants s1114.k)), .ptr p1120 0, .ptr p1121 0, .un, .un] (by decide +kernel) rfl rfl ?_ ?_
                  · refine ⟨⟨[1], rfl, stepg_pure rfl (pu_fieldAddr rfl underlying78 rfl sizeOf76 (by decide) (AEv.tmp rfl) rfl)⟩, ?_⟩
                    refine ⟨⟨[57], rfl, stepg_plain rfl (op_load1 (i := 0) rfl isAgg76 (AEv.tmp rfl) rfl rfl ⟨rfl, rfl⟩)⟩, ?_⟩
                    refine ⟨⟨[4], rfl, stepg_pure rfl (pu_move rfl (AEv.tmp rfl))⟩, ?_⟩
                    refine ⟨⟨[58, 59], rfl, stepg_pure rfl (pu_indexAddrM rfl underlying76 sizeOf53 (AEv.tmp rfl) (AEv.tmp rfl) c1118 rfl)⟩, ?_⟩
                    refine ⟨⟨[60], rfl, stepg_plain rfl (op_loadVN rfl isAgg53 sizeOf53 (AEv.tmp rfl) (Nat.le_of_ble_eq_true rfl) rfl ⟨rfl, rfl⟩)⟩, ?_⟩
                    refine ⟨⟨[1], rfl, stepg_pure rfl (pu_fieldAddr rfl underlying78 rfl sizeOf76 (by decide) (AEv.tmp rfl) rfl)⟩, ?_⟩
                    refine ⟨⟨[62], rfl, stepg_plain rfl (op_load1 (i := 0) rfl isAgg76 (AEv.tmp rfl) rfl rfl ⟨rfl, rfl⟩)⟩, ?_⟩
                    refine ⟨⟨[5], rfl, stepg_pure rfl (pu_move rfl (AEv.tmp rfl))⟩, ?_⟩
                    refine ⟨⟨[63, 64], rfl, stepg_pure rfl (pu_indexAddrM rfl underlying76 sizeOf53 (AEv.tmp rfl) (AEv.tmp rfl) c1119 rfl)⟩, ?_⟩
                    refine ⟨⟨[65], rfl, stepg_plain rfl (op_loadVN rfl isAgg53 sizeOf53 (AEv.tmp rfl) (Nat.le_of_ble_eq_true rfl) rfl ⟨rfl, rfl⟩)⟩, ?_⟩
                    refine ⟨⟨[], rfl, stepg_plain rfl (aop_settleP (op_alloc (cs := [.str ([] : List UInt8), .str ([] : List UInt8), .int .i64 0, .int .i64 0, .int .i64 0, .int .i64 0, .int .i64 0, .int .i64 0, .int .i64 0, .int .i64 0, .int .i64 0, .int .i64 0, .int .i64 0, .int .i64 0]) (v := .agg [.str ([] : List UInt8), .str ([] : List UInt8), .int .i64 0, .int .i64 0, .int .i64 0, .int .i64 0, .int .i64 0, .int .i64 0, .int .i64 0, .int .i64 0, .int .i64 0, .int .i64 0, .int .i64 0, .int .i64 0]) rfl zeroValue53 rfl rfl rfl fun t => ⟨t, rfl, rfl⟩) ⟨rfl, rfl⟩)⟩, ?_⟩
                    refine ⟨⟨[], rfl, stepg_plain rfl (aop_settleP (op_alloc (cs := [.str ([] : List UInt8), .str ([] : List UInt8), .int .i64 0, .int .i64 0, .int .i64 0, .int .i64 0, .int .i64 0, .int .i64 0, .int .i64 0, .int .i64 0, .int .i64 0, .int .i64 0, .int .i64 0, .int .i64 0]) (v := .agg [.str ([] : List UInt8), .str ([] : List UInt8), .int .i64 0, .int .i64 0, .int .i64 0, .int .i64 0, .int .i64 0, .int .i64 0, .int .i64 0, .int .i64 0, .int .i64 0, .int .i64 0, .int .i64 0, .int .i64 0]) rfl zeroValue53 rfl rfl rfl fun t => ⟨t, rfl, rfl⟩) ⟨rfl, rfl⟩)⟩, ?_⟩
                    refine ⟨⟨[6, 61], rfl, stepg_plain rfl (op_store (i := 0) (cs' := (api.Tenant.ct (ix c_.Tenants s1044.i))) rfl sizeOf53 (AEv.tmp rfl) (v := .agg (api.Tenant.ct (ix c_.Tenants s1044.i))) (AEv.tmp rfl) rfl rfl rfl (Nat.le_of_ble_eq_true rfl) rfl ⟨rfl, rfl⟩)⟩, ?_⟩
                    refine ⟨⟨[7, 66], rfl, stepg_plain rfl (op_store (i := 0) (cs' := (api.Tenant.ct (ix c_.Tenants s1114.k))) rfl sizeOf53 (AEv.tmp rfl) (v := .agg (api.Tenant.ct (ix c_.Tenants s1114.k))) (AEv.tmp rfl) rfl rfl rfl (Nat.le_of_ble_eq_true rfl) rfl ⟨rfl, rfl⟩)⟩, ?_⟩
                    trivial
                  obtain ⟨s1123, s1123e, h1124⟩ := letO_of h
                  refine aw_meet (ν := Unit) (fun v => [(1, .ptr p568 0), (4, .int .i64 s1044.i), (5, .int .i64 s1114.k), (78, .bool s1123)]) (fun v => [(p568, .cells [.sl .no 14 (c_.Tenants.map api.Tenant.av), .int .i64 c_.Quantum, .int .i64 c_.Deadline])]) ?_ ?_
                  · have h := s1123e.symm
                    refine aw_region ?_
                    refine ap (.ptr p1120 0) rfl rfl rfl (pu_fieldAddr rfl underlying53 rfl sizeOf9 (by decide) (AEv.tmp rfl) rfl) ?_
                    refine ac rfl rfl rfl (op_load1 (i := 1) rfl isAgg9 (AEv.tmp rfl) rfl rfl ?_)
                    refine ap (.ptr p1121 0) rfl rfl rfl (pu_fieldAddr rfl underlying53 rfl sizeOf9 (by decide) (AEv.tmp rfl) rfl) ?_
                    refine ac rfl rfl rfl (op_load1 (i := 0) rfl isAgg9 (AEv.tmp rfl) rfl rfl ?_)
                    refine ap (.bool (decide ((ix c_.Tenants s1044.i).Name = (ix c_.Tenants s1114.k).Name))) rfl rfl rfl (pu_str (v := .bool (decide ((ix c_.Tenants s1044.i).Name = (ix c_.Tenants s1114.k).Name))) rfl rfl (AEv.tmp rfl) (AEv.tmp rfl) rfl) ?_
                    refine ap (.bool (decide ((ix c_.Tenants s1044.i).Name = (ix c_.Tenants s1114.k).Name))) rfl rfl rfl (pu_move rfl (AEv.tmp rfl)) ?_
                    rcases Bool.eq_false_or_eq_true (decide ((ix c_.Tenants s1044.i).Name = (ix c_.Tenants s1114.k).Name)) with hb1126 | hb1126
                    · replace h := ite_t (dec_t hb1126) h
                      refine aops_known 72 rfl hb1126 ?_
                      refine an rfl rfl rfl rfl rfl rfl rfl rfl ?_
                      refine an rfl rfl rfl rfl rfl rfl rfl rfl ?_
                      refine an rfl rfl rfl rfl rfl rfl rfl rfl ?_
                      refine an rfl rfl rfl rfl rfl rfl rfl rfl ?_
                      refine an rfl rfl rfl rfl rfl rfl rfl rfl ?_
                      refine ap (.bool true) rfl rfl rfl (pu_pick (b := true) rfl (AEv.tmp rfl) (fun _ => (AEv.bool _)) (fun h => nomatch h)) ?_
                      refine aops_nil ?_
                      subst h
                      exact ⟨(), Weak.mkL [2] (by decide) ⟨⟨_, rfl, (CellsLe.refl _), rfl⟩, trivial⟩ ⟨AEv.tmp rfl, AEv.tmp rfl, AEv.tmp rfl, AEv.tmp rfl, trivial⟩⟩
                    · replace h := ite_f (dec_f hb1126) h
                      refine aops_known 72 rfl hb1126 ?_
                      refine agp (.ptr p1120 1) rfl rfl rfl rfl rfl rfl rfl (pu_fieldAddr rfl underlying53 rfl sizeOf9 (by decide) (AEv.tmp rfl) rfl) ?_
                      refine ag rfl rfl rfl rfl rfl rfl rfl (op_load1 (i := 1) rfl isAgg9 (AEv.tmp rfl) rfl rfl ?_)
                      refine agp (.ptr p1121 1) rfl rfl rfl rfl rfl rfl rfl (pu_fieldAddr rfl underlying53 rfl sizeOf9 (by decide) (AEv.tmp rfl) rfl) ?_
                      refine ag rfl rfl rfl rfl rfl rfl rfl (op_load1 (i := 0) rfl isAgg9 (AEv.tmp rfl) rfl rfl ?_)
                      refine agp (.bool (decide ((ix c_.Tenants s1044.i).Token = (ix c_.Tenants s1114.k).Token))) rfl rfl rfl rfl rfl rfl rfl (pu_str (v := .bool (decide ((ix c_.Tenants s1044.i).Token = (ix c_.Tenants s1114.k).Token))) rfl rfl (AEv.tmp rfl) (AEv.tmp rfl) rfl) ?_
                      refine ap (.bool (decide ((ix c_.Tenants s1044.i).Token = (ix c_.Tenants s1114.k).Token))) rfl rfl rfl (pu_pick (b := false) rfl (AEv.tmp rfl) (fun h => nomatch h) (fun _ => (AEv.tmp rfl))) ?_
                      refine aops_nil ?_
                      subst h
                      exact ⟨(), Weak.mkL [2] (by decide) ⟨⟨_, rfl, (CellsLe.refl _), rfl⟩, trivial⟩ ⟨AEv.tmp rfl, AEv.tmp rfl, AEv.tmp rfl, (AEv.le (AEv.tmp rfl) (AV.Le.refl _)), trivial⟩⟩
                  · intro _
                    have h := h1124
                    refine aw_cond (b := s1123) (AEv.tmp rfl) (fun hb1127 => ?_) (fun hb1127 => ?_)
                    · replace h := ite_t hb1127 h
                      refine aw_seq ?_
                      refine aw_region ?_
                      refine ap (.int .i64 9) rfl rfl rfl (pu_assign rfl (AEv.int _ _)) ?_
                      refine aops_nil ?_
                      refine aw_ret ?_
                      obtain rfl := some_of h
                      have h := congrArg some (hx1115 _ rfl)
                      obtain rfl := some_of h
                      have h := onSum_inr h1088
                      obtain rfl := some_of h
                      have h := congrArg some (hx1045 _ rfl)
                      obtain rfl := some_of h
                      have h := onSum_inr h874
                      obtain rfl := some_of h
                      exact ⟨[.int .i64 9], _, [], ⟨(AEv.tmp rfl), trivial⟩, (AV.Le.refl _), Weak.mkL [] (by decide) trivial trivial, ⟨rfl, rfl⟩⟩
                    · replace h := ite_fb hb1127 h
                      refine aw_skip ?_
                      refine aw_region ?_
                      refine ap (.int .i64 s1114.k) rfl rfl rfl (pu_move rfl (AEv.tmp rfl)) ?_
                      refine ap (.int .i64 (IntKind.wrap .i64 (s1114.k + 1))) rfl rfl rfl (pu_int (v := .int .i64 (IntKind.wrap .i64 (s1114.k + 1))) rfl rfl (AEv.tmp rfl) (AEv.int _ _) rfl) ?_
                      refine ap (.int .i64 (IntKind.wrap .i64 (s1114.k + 1))) rfl rfl rfl (pu_assign rfl (AEv.tmp rfl)) ?_
                      refine aops_nil ?_
                      obtain rfl := some_of h
                      exact ⟨_, (), rfl, Weak.mkL [0] (by decide) ⟨⟨_, rfl, (CellsLe.refl _), rfl⟩, trivial⟩ ⟨AEv.tmp rfl, AEv.tmp rfl, (AEv.le (AEv.tmp rfl) (AV.Le.refl _)), trivial⟩⟩
                · replace h := ite_f (dec_f hb1128) h
                  refine aw_exit ?_
                  obtain rfl := some_of h
                  have h := congrArg some (hx1115 _ rfl)
                  exact ⟨(), (), (some_of h).symm, Weak.mkL [0] (by decide) ⟨⟨_, rfl, (CellsLe.refl _), rfl⟩, trivial⟩ ⟨AEv.tmp rfl, AEv.tmp rfl, trivial⟩⟩
            · replace h := ite_f (dec_f hb1130) h
              refine aw_exit ?_
              obtain rfl := some_of h
              have h := congrArg some (hx1045 _ rfl)
              exact ⟨(), (), (some_of h).symm, Weak.mkL [] (by decide) trivial trivial⟩
    · have h := s1133e
      refine aw_seq ?_
      refine aw_region ?_
      refine ap (.int .i64 0) rfl rfl rfl (pu_assign rfl (AEv.int _ _)) ?_
      refine aops_nil ?_
      refine aw_block ?_
      refine aw_while (σ := mewsref42.Right.S0) (ν := Unit) (mewsref42.Right.body0 c_) (fun s601 v => [(1, .ptr p568 0), (3, .int .i64 s601.i)]) (fun s601 v => [(p568, .cells [.sl .no 14 (c_.Tenants.map api.Tenant.av), .int .i64 c_.Quantum, .int .i64 c_.Deadline])]) ⟨0⟩ () _ h (Weak.mkL [0] (by decide) ⟨⟨_, rfl, (CellsLe.refl _), rfl⟩, trivial⟩ ⟨AEv.tmp rfl, AEv.tmp rfl, trivial⟩) ?_
      rintro s601 _ x603 h hx602
      unfold mewsref42.Right.body0 at h
      refine aw_seq ?_
      refine aw_seq ?_
      refine aw_region ?_
      refine ap (.int .i64 s601.i) rfl rfl rfl (pu_move rfl (AEv.tmp rfl)) ?_
      refine ap (.ptr p568 0) rfl rfl rfl (pu_fieldAddr rfl underlying78 rfl sizeOf76 (by decide) (AEv.tmp rfl) rfl) ?_
      refine ac rfl rfl rfl (op_load1 (i := 0) rfl isAgg76 (AEv.tmp rfl) rfl rfl ?_)
      refine ap (.int .i64 (c_.Tenants.length : Int)) rfl rfl rfl (pu_lenM rfl underlying76 (AEv.tmp rfl)) ?_
      refine ap (.bool (decide (s601.i < (c_.Tenants.length : Int)))) rfl rfl rfl (pu_int (v := .bool (decide (s601.i < (c_.Tenants.length : Int)))) rfl rfl (AEv.tmp rfl) (AEv.tmp rfl) rfl) ?_
      refine aops_nil ?_
      refine aw_cond (b := decide (s601.i < (c_.Tenants.length : Int))) (AEv.tmp rfl) (fun hb608 => ?_) (fun hb608 => ?_)
      · replace h := ite_t (dec_t hb608) h
        refine aw_skip ?_
        refine aw_seq ?_
        refine aw_block ?_
        refine aw_seq ?_
        refine aw_region ?_
        refine ap (.ptr p568 0) rfl rfl rfl (pu_fieldAddr rfl underlying78 rfl sizeOf76 (by decide) (AEv.tmp rfl) rfl) ?_
        refine ac rfl rfl rfl (op_load1 (i := 0) rfl isAgg76 (AEv.tmp rfl) rfl rfl ?_)
        refine ap (.int .i64 s601.i) rfl rfl rfl (pu_move rfl (AEv.tmp rfl)) ?_
        obtain ⟨c605, h⟩ := need_of h
        refine ap (.vptr [.str (ix c_.Tenants s601.i).Name, .str (ix c_.Tenants s601.i).Token, .int .i64 (ix c_.Tenants s601.i).Memory, .int .i64 (ix c_.Tenants s601.i).Policy, .int .i64 (ix c_.Tenants s601.i).Conns, .int .i64 (ix c_.Tenants s601.i).In, .int .i64 (ix c_.Tenants s601.i).Out, .int .i64 (ix c_.Tenants s601.i).Burst, .int .i64 (ix c_.Tenants s601.i).Rate, .int .i64 (ix c_.Tenants s601.i).Disk, .int .i64 (ix c_.Tenants s601.i).Sync, .int .i64 (ix c_.Tenants s601.i).Limits.Args, .int .i64 (ix c_.Tenants s601.i).Limits.Bulk, .int .i64 (ix c_.Tenants s601.i).Limits.Line]) rfl rfl rfl (pu_indexAddrM rfl underlying76 sizeOf53 (AEv.tmp rfl) (AEv.tmp rfl) c605 rfl) ?_
        refine ac rfl rfl rfl (op_loadVN rfl isAgg53 sizeOf53 (AEv.tmp rfl) (Nat.le_of_ble_eq_true rfl) rfl ?_)
        obtain ⟨r606, r606e, h⟩ := bind_some h
        refine ac rfl rfl rfl (op_call (vs := [.agg (api.Tenant.ct (ix c_.Tenants s601.i))]) (H := []) rfl call67 ⟨(AEv.tmp rfl), trivial⟩ (List.Perm.refl _) (mewsref42.May.ok r606e) ?_)
        rintro _ _ ⟨rfl, rfl⟩
        refine ap (.bool (!r606)) rfl rfl rfl (pu_not rfl (AEv.tmp rfl)) ?_
        refine aops_nil ?_
        refine aw_cond (b := (!r606)) (AEv.tmp rfl) (fun hb607 => ?_) (fun hb607 => ?_)
        · replace h := ite_t hb607 h
          refine aw_seq ?_
          refine aw_region ?_
          refine ap (.int .i64 1) rfl rfl rfl (pu_assign rfl (AEv.int _ _)) ?_
          refine aops_nil ?_
          refine aw_ret ?_
          obtain rfl := some_of h
          have h := congrArg some (hx602 _ rfl)
          obtain rfl := some_of h
          have h := onSum_inr h589
          obtain rfl := some_of h
          exact ⟨[.int .i64 1], _, [], ⟨(AEv.tmp rfl), trivial⟩, (AV.Le.refl _), Weak.mkL [] (by decide) trivial trivial, ⟨rfl, rfl⟩⟩
        · replace h := ite_fb hb607 h
          refine aw_skip ?_
          refine aw_region ?_
          refine ap (.int .i64 s601.i) rfl rfl rfl (pu_move rfl (AEv.tmp rfl)) ?_
          refine ap (.int .i64 (IntKind.wrap .i64 (s601.i + 1))) rfl rfl rfl (pu_int (v := .int .i64 (IntKind.wrap .i64 (s601.i + 1))) rfl rfl (AEv.tmp rfl) (AEv.int _ _) rfl) ?_
          refine ap (.int .i64 (IntKind.wrap .i64 (s601.i + 1))) rfl rfl rfl (pu_assign rfl (AEv.tmp rfl)) ?_
          refine aops_nil ?_
          obtain rfl := some_of h
          exact ⟨_, (), rfl, Weak.mkL [0] (by decide) ⟨⟨_, rfl, (CellsLe.refl _), rfl⟩, trivial⟩ ⟨AEv.tmp rfl, (AEv.le (AEv.tmp rfl) (AV.Le.refl _)), trivial⟩⟩
      · replace h := ite_f (dec_f hb608) h
        refine aw_exit ?_
        obtain rfl := some_of h
        have h := congrArg some (hx602 _ rfl)
        exact ⟨(), (), (some_of h).symm, Weak.mkL [0] (by decide) ⟨⟨_, rfl, (CellsLe.refl _), rfl⟩, trivial⟩ ⟨AEv.tmp rfl, trivial⟩⟩

theorem mewsref42.Find.ok {c_ : api.Config} {token : List UInt8} {r : Int} (h : mewsref42.Find c_ token = some r) : Go.Lift.Spec prog 46 [.agg [.sl .no 14 (c_.Tenants.map api.Tenant.av), .int .i64 c_.Quantum, .int .i64 c_.Deadline], .str token] [] (fun v H => v = .int .i64 r ∧ H = []) := by
  unfold mewsref42.Find at h
  refine Go.Lift.Spec.of_body (rs := [.tmp 4]) func46 rfl rfl (Nat.le_of_ble_eq_true rfl) rfl ?_
  refine aw_seq ?_
  refine aw_region ?_
  refine ac rfl rfl rfl (op_box (cs := [.sl .no 14 (c_.Tenants.map api.Tenant.av), .int .i64 c_.Quantum, .int .i64 c_.Deadline]) (v := .agg [.sl .no 14 (c_.Tenants.map api.Tenant.av), .int .i64 c_.Quantum, .int .i64 c_.Deadline]) rfl (AEv.tmp rfl) rfl rfl ?_)
  intro p36
  refine ap (.int .i64 0) rfl rfl rfl (pu_assign rfl (AEv.int _ _)) ?_
  refine aops_nil ?_
  obtain ⟨s70, s70e, h53⟩ := bind_some h
  refine aw_join (σ := Unit) (ν := Unit) (fun u v => []) (fun u v => []) (fun u => s70 = .inl u) ?_ ?_
  · intro s52
    intro _
    rintro rfl
    have h := onSum_inl h53
    refine aw_seq ?_
    refine aw_region ?_
    refine ap (.int .i64 (-1)) rfl rfl rfl (pu_assign rfl (AEv.int _ _)) ?_
    refine aops_nil ?_
    refine aw_ret ?_
    obtain rfl := some_of h
    exact ⟨[.int .i64 (-1)], _, [], ⟨(AEv.tmp rfl), trivial⟩, (AV.Le.refl _), Weak.mkL [] (by decide) trivial trivial, ⟨rfl, rfl⟩⟩
  · have h := s70e
    refine aw_seq ?_
    refine aw_region ?_
    refine ap (.int .i64 0) rfl rfl rfl (pu_assign rfl (AEv.int _ _)) ?_
    refine aops_nil ?_
    refine aw_block ?_
    refine aw_while (σ := mewsref42.Find.S0) (ν := Unit) (mewsref42.Find.body0 c_ token) (fun s63 v => [(1, .str token), (2, .ptr p36 0), (5, .int .i64 s63.i)]) (fun s63 v => [(p36, .cells [.sl .no 14 (c_.Tenants.map api.Tenant.av), .int .i64 c_.Quantum, .int .i64 c_.Deadline])]) ⟨0⟩ () _ h (Weak.mkL [0] (by decide) ⟨⟨_, rfl, (CellsLe.refl _), rfl⟩, trivial⟩ ⟨AEv.tmp rfl, AEv.tmp rfl, AEv.tmp rfl, trivial⟩) ?_
    rintro s63 _ x65 h hx64
    unfold mewsref42.Find.body0 at h
    refine aw_seq ?_
    refine aw_seq ?_
    refine aw_region ?_
    refine ap (.int .i64 s63.i) rfl rfl rfl (pu_move rfl (AEv.tmp rfl)) ?_
    refine ap (.ptr p36 0) rfl rfl rfl (pu_fieldAddr rfl underlying78 rfl sizeOf76 (by decide) (AEv.tmp rfl) rfl) ?_
    refine ac rfl rfl rfl (op_load1 (i := 0) rfl isAgg76 (AEv.tmp rfl) rfl rfl ?_)
    refine ap (.int .i64 (c_.Tenants.length : Int)) rfl rfl rfl (pu_lenM rfl underlying76 (AEv.tmp rfl)) ?_
    refine ap (.bool (decide (s63.i < (c_.Tenants.length : Int)))) rfl rfl rfl (pu_int (v := .bool (decide (s63.i < (c_.Tenants.length : Int)))) rfl rfl (AEv.tmp rfl) (AEv.tmp rfl) rfl) ?_
    refine aops_nil ?_
    refine aw_cond (b := decide (s63.i < (c_.Tenants.length : Int))) (AEv.tmp rfl) (fun hb69 => ?_) (fun hb69 => ?_)
    · replace h := ite_t (dec_t hb69) h
      refine aw_skip ?_
      refine aw_seq ?_
      refine aw_block ?_
      refine aw_seq ?_
      refine aw_region ?_
      refine ap (.ptr p36 0) rfl rfl rfl (pu_fieldAddr rfl underlying78 rfl sizeOf76 (by decide) (AEv.tmp rfl) rfl) ?_
      refine ac rfl rfl rfl (op_load1 (i := 0) rfl isAgg76 (AEv.tmp rfl) rfl rfl ?_)
      refine ap (.int .i64 s63.i) rfl rfl rfl (pu_move rfl (AEv.tmp rfl)) ?_
      obtain ⟨c67, h⟩ := need_of h
      refine ap (.vptr [.str (ix c_.Tenants s63.i).Name, .str (ix c_.Tenants s63.i).Token, .int .i64 (ix c_.Tenants s63.i).Memory, .int .i64 (ix c_.Tenants s63.i).Policy, .int .i64 (ix c_.Tenants s63.i).Conns, .int .i64 (ix c_.Tenants s63.i).In, .int .i64 (ix c_.Tenants s63.i).Out, .int .i64 (ix c_.Tenants s63.i).Burst, .int .i64 (ix c_.Tenants s63.i).Rate, .int .i64 (ix c_.Tenants s63.i).Disk, .int .i64 (ix c_.Tenants s63.i).Sync, .int .i64 (ix c_.Tenants s63.i).Limits.Args, .int .i64 (ix c_.Tenants s63.i).Limits.Bulk, .int .i64 (ix c_.Tenants s63.i).Limits.Line]) rfl rfl rfl (pu_indexAddrM rfl underlying76 sizeOf53 (AEv.tmp rfl) (AEv.tmp rfl) c67 rfl) ?_
      refine ap (.vptr [.str (ix c_.Tenants s63.i).Token, .int .i64 (ix c_.Tenants s63.i).Memory, .int .i64 (ix c_.Tenants s63.i).Policy, .int .i64 (ix c_.Tenants s63.i).Conns, .int .i64 (ix c_.Tenants s63.i).In, .int .i64 (ix c_.Tenants s63.i).Out, .int .i64 (ix c_.Tenants s63.i).Burst, .int .i64 (ix c_.Tenants s63.i).Rate, .int .i64 (ix c_.Tenants s63.i).Disk, .int .i64 (ix c_.Tenants s63.i).Sync, .int .i64 (ix c_.Tenants s63.i).Limits.Args, .int .i64 (ix c_.Tenants s63.i).Limits.Bulk, .int .i64 (ix c_.Tenants s63.i).Limits.Line]) rfl rfl rfl (pu_fieldAddr rfl underlying53 rfl sizeOf9 (by decide) (AEv.tmp rfl) rfl) ?_
      refine ac rfl rfl rfl (op_loadV1 rfl isAgg9 (AEv.tmp rfl) rfl ?_)
      refine ap (.str token) rfl rfl rfl (pu_move rfl (AEv.tmp rfl)) ?_
      refine ap (.bool (decide ((ix c_.Tenants s63.i).Token = token))) rfl rfl rfl (pu_str (v := .bool (decide ((ix c_.Tenants s63.i).Token = token))) rfl rfl (AEv.tmp rfl) (AEv.tmp rfl) rfl) ?_
      refine aops_nil ?_
      refine aw_cond (b := decide ((ix c_.Tenants s63.i).Token = token)) (AEv.tmp rfl) (fun hb68 => ?_) (fun hb68 => ?_)
      · replace h := ite_t (dec_t hb68) h
        refine aw_seq ?_
        refine aw_region ?_
        refine ap (.int .i64 s63.i) rfl rfl rfl (pu_move rfl (AEv.tmp rfl)) ?_
        refine ap (.int .i64 s63.i) rfl rfl rfl (pu_assign rfl (AEv.tmp rfl)) ?_
        refine aops_nil ?_
        refine aw_ret ?_
        obtain rfl := some_of h
        have h := congrArg some (hx64 _ rfl)
        obtain rfl := some_of h
        have h := onSum_inr h53
        obtain rfl := some_of h
        exact ⟨[.int .i64 s63.i], _, [], ⟨(AEv.tmp rfl), trivial⟩, (AV.Le.refl _), Weak.mkL [] (by decide) trivial trivial, ⟨rfl, rfl⟩⟩
      · replace h := ite_f (dec_f hb68) h
        refine aw_skip ?_
        refine aw_region ?_
        refine ap (.int .i64 s63.i) rfl rfl rfl (pu_move rfl (AEv.tmp rfl)) ?_
        refine ap (.int .i64 (IntKind.wrap .i64 (s63.i + 1))) rfl rfl rfl (pu_int (v := .int .i64 (IntKind.wrap .i64 (s63.i + 1))) rfl rfl (AEv.tmp rfl) (AEv.int _ _) rfl) ?_
        refine ap (.int .i64 (IntKind.wrap .i64 (s63.i + 1))) rfl rfl rfl (pu_assign rfl (AEv.tmp rfl)) ?_
        refine aops_nil ?_
        obtain rfl := some_of h
        exact ⟨_, (), rfl, Weak.mkL [0] (by decide) ⟨⟨_, rfl, (CellsLe.refl _), rfl⟩, trivial⟩ ⟨AEv.tmp rfl, AEv.tmp rfl, (AEv.le (AEv.tmp rfl) (AV.Le.refl _)), trivial⟩⟩
    · replace h := ite_f (dec_f hb69) h
      refine aw_exit ?_
      obtain rfl := some_of h
      have h := congrArg some (hx64 _ rfl)
      exact ⟨(), (), (some_of h).symm, Weak.mkL [] (by decide) trivial trivial⟩

theorem mewslaw42.AuthRight.ok {c_ : api.Config} {token : List UInt8} {r : Bool} (h : mewslaw42.AuthRight c_ token = some r) : Go.Lift.Spec prog 10 [.agg [.sl .no 14 (c_.Tenants.map api.Tenant.av), .int .i64 c_.Quantum, .int .i64 c_.Deadline], .str token] [] (fun v H => v = .bool r ∧ H = []) := by
  unfold mewslaw42.AuthRight at h
  refine Go.Lift.Spec.of_body (rs := [.tmp 4]) func10 rfl rfl (Nat.le_of_ble_eq_true rfl) rfl ?_
  refine aw_seq ?_
  refine aw_region ?_
  refine ac rfl rfl rfl (op_box (cs := [.sl .no 14 (c_.Tenants.map api.Tenant.av), .int .i64 c_.Quantum, .int .i64 c_.Deadline]) (v := .agg [.sl .no 14 (c_.Tenants.map api.Tenant.av), .int .i64 c_.Quantum, .int .i64 c_.Deadline]) rfl (AEv.tmp rfl) rfl rfl ?_)
  intro p22
  refine ap (.bool false) rfl rfl rfl (pu_assign rfl (AEv.bool _)) ?_
  refine aops_nil ?_
  refine aw_seq ?_
  refine aw_seq ?_
  refine aw_region ?_
  refine ac rfl rfl rfl (op_loadN (i := 0) rfl isAgg78 sizeOf78 (AEv.tmp rfl) rfl (Nat.le_of_ble_eq_true rfl) rfl ?_)
  refine ap (.str token) rfl rfl rfl (pu_move rfl (AEv.tmp rfl)) ?_
  refine ac rfl rfl rfl (op_buildSlice (xs := ([token] : List (List UInt8)).map AV.str) (aparts := [(0, .str token)]) rfl underlying26 sizeOf9 zeroValue9 (by decide) (by decide) ⟨rfl, (AEv.tmp rfl), trivial⟩ rfl rfl rfl ?_)
  obtain ⟨r23, r23e, h⟩ := bind_some h
  refine ac rfl rfl rfl (op_call (vs := [.agg [.sl .no 14 (c_.Tenants.map api.Tenant.av), .int .i64 c_.Quantum, .int .i64 c_.Deadline], .sl .no 1 ([token].map AV.str)]) (H := []) rfl call41 ⟨(AEv.tmp rfl), (AEv.le (AEv.tmp rfl) (AV.Le.forget _ _ _)), trivial⟩ (List.Perm.refl _) (mewslaw42.far.ok r23e) ?_)
  rintro _ _ ⟨rfl, rfl⟩
  refine aops_nil ?_
  refine aw_cond (b := r23) (AEv.tmp rfl) (fun hb42 => ?_) (fun hb42 => ?_)
  · replace h := ite_t hb42 h
    refine aw_seq ?_
    refine aw_region ?_
    obtain ⟨r24, r24e, h⟩ := bind_some h
    refine ac rfl rfl rfl (op_call (vs := []) (H := []) rfl call42 trivial (List.Perm.refl _) (mewslaw42.alive.ok r24e) ?_)
    rintro _ _ ⟨rfl, rfl⟩
    refine ap (.bool r24) rfl rfl rfl (pu_assign rfl (AEv.tmp rfl)) ?_
    refine aops_nil ?_
    refine aw_ret ?_
    obtain rfl := some_of h
    exact ⟨[.bool r24], _, [], ⟨(AEv.tmp rfl), trivial⟩, (AV.Le.refl _), Weak.mkL [] (by decide) trivial trivial, ⟨rfl, rfl⟩⟩
  · replace h := ite_fb hb42 h
    refine aw_skip ?_
    obtain ⟨s32, s32e, h33⟩ := bind_some h
    refine aw_meet (ν := Unit) (fun v => [(4, .bool s32)]) (fun v => []) ?_ ?_
    · have h := s32e
      obtain ⟨r35, r35e, h⟩ := bind_some h
      obtain ⟨r36, r36e, h⟩ := bind_some h
      rcases Bool.eq_false_or_eq_true (decide (r35 = r36)) with hb37 | hb37
      · replace h := ite_t (dec_t hb37) h
        obtain ⟨r38, r38e, h⟩ := bind_some h
        obtain ⟨r39, r39e, h⟩ := bind_some h
        rcases Bool.eq_false_or_eq_true (decide (r38 = r39)) with hb40 | hb40
        · replace h := ite_t (dec_t hb40) h
          obtain ⟨r41, r41e, h⟩ := bind_some h
          refine aw_plan (by decide +kernel) [([], some 10, [2]), ([0], some 11, [10]), ([], some 12, [2]), ([2, 1], some 13, [12]), ([1, 3], some 14, [11, 13]), ([4, 3], some 15, [14]), ([5], some 16, [2, 15]), ([5], some 17, [1, 15]), ([6, 7, 5, 5], some 18, [16, 17, 15]), ([5], some 19, [2, 15]), ([5], some 20, [1, 15]), ([9, 10, 8, 5], some 21, [19, 20, 15]), ([8, 11, 5], some 22, [18, 21, 15]), ([5, 12], some 23, [15, 22]), ([13, 11], some 24, [23]), ([14, 14], some 25, [24]), ([14, 15], some 26, [24, 25]), ([16, 15, 0, 1, 2, 3, 4, 5, 6, 7, 8, 9, 10, 11, 12, 13, 14, 15, 16], some 4, [26])] rfl [[], [0], [], [0, 1, 2], [0, 1, 2, 3], [0, 1, 2, 3, 4], [0, 1, 2, 3, 4, 5], [0, 1, 2, 3, 4, 5], [0, 1, 2, 3, 4, 5, 6, 7], [0, 1, 2, 3, 4, 5], [0, 1, 2, 3, 4, 5], [0, 1, 2, 3, 4, 5, 6, 7, 8, 9, 10], [0, 1, 2, 3, 4, 5, 6, 7, 8, 9, 10, 11], [0, 1, 2, 3, 4, 5, 6, 7, 8, 9, 10, 11, 12], [0, 1, 2, 3, 4, 5, 6, 7, 8, 9, 10, 11, 12, 13], [0, 1, 2, 3, 4, 5, 6, 7, 8, 9, 10, 11, 12, 13, 14], [0, 1, 2, 3, 4, 5, 6, 7, 8, 9, 10, 11, 12, 13, 14, 15], [0, 1, 2, 3, 4, 5, 6, 7, 8, 9, 10, 11, 12, 13, 14, 15, 16]] [[(0, 0, false)], [], [(0, 0, false)], [], [], [], [(0, 0, false)], [], [], [(0, 0, false)], [], [], [], [], [], [], [], []] [[]] [[[(p22, .cells [.sl .no 14 (c_.Tenants.map api.Tenant.av), .int .i64 c_.Quantum, .int .i64 c_.Deadline])]]] [.agg [.sl .no 14 (c_.Tenants.map api.Tenant.av), .int .i64 c_.Quantum, .int .i64 c_.Deadline], .int .i64 r35, .agg [.sl .no 14 (c_.Tenants.map api.Tenant.av), .int .i64 c_.Quantum, .int .i64 c_.Deadline], .int .i64 r36, .bool (decide (r35 = r36)), .bool true, .agg [.sl .no 14 (c_.Tenants.map api.Tenant.av), .int .i64 c_.Quantum, .int .i64 c_.Deadline], .str token, .int .i64 r38, .agg [.sl .no 14 (c_.Tenants.map api.Tenant.av), .int .i64 c_.Quantum, .int .i64 c_.Deadline], .str token, .int .i64 r39, .bool (decide (r38 = r39)), .bool (decide (r38 = r39)), .bool true, .bool r41, .bool r41, .bool r41] (by decide +kernel) rfl rfl ?_ ?_
          · refine ⟨⟨[2], rfl, stepg_plain rfl (op_loadN (i := 0) rfl isAgg78 sizeOf78 (AEv.tmp rfl) rfl (Nat.le_of_ble_eq_true rfl) rfl ⟨rfl, rfl⟩)⟩, ?_⟩
            refine ⟨⟨[10], rfl, stepg_plain rfl (op_call (vs := [.agg [.sl .no 14 (c_.Tenants.map api.Tenant.av), .int .i64 c_.Quantum, .int .i64 c_.Deadline]]) (H := []) rfl call43 ⟨(AEv.tmp rfl), trivial⟩ (R := []) (List.Perm.refl _) (auth.Right.ok r35e) (by rintro _ _ ⟨rfl, rfl⟩; exact ⟨rfl, rfl⟩))⟩, ?_⟩
            refine ⟨⟨[2], rfl, stepg_plain rfl (op_loadN (i := 0) rfl isAgg78 sizeOf78 (AEv.tmp rfl) rfl (Nat.le_of_ble_eq_true rfl) rfl ⟨rfl, rfl⟩)⟩, ?_⟩
            refine ⟨⟨[12], rfl, stepg_plain rfl (op_call (vs := [.agg [.sl .no 14 (c_.Tenants.map api.Tenant.av), .int .i64 c_.Quantum, .int .i64 c_.Deadline]]) (H := []) rfl call44 ⟨(AEv.tmp rfl), trivial⟩ (R := []) (List.Perm.refl _) (mewsref42.Right.ok r36e) (by rintro _ _ ⟨rfl, rfl⟩; exact ⟨rfl, rfl⟩))⟩, ?_⟩
            refine ⟨⟨[11, 13], rfl, stepg_pure rfl (pu_int (v := .bool (decide (r35 = r36))) rfl rfl (AEv.tmp rfl) (AEv.tmp rfl) rfl)⟩, ?_⟩
            refine ⟨⟨[14], rfl, (stepg_pure rfl (pu_move rfl (AEv.tmp rfl))).cast (congrArg AV.bool hb37)⟩, ?_⟩
            refine ⟨⟨[2, 15], rfl, stepg_guard rfl rfl rfl (by decide) rfl (op_loadN (i := 0) rfl isAgg78 sizeOf78 (AEv.tmp rfl) rfl (Nat.le_of_ble_eq_true rfl) rfl ⟨rfl, rfl⟩)⟩, ?_⟩
            refine ⟨⟨[1, 15], rfl, stepg_guardP rfl rfl rfl (by decide) rfl (pu_move rfl (AEv.tmp rfl))⟩, ?_⟩
            refine ⟨⟨[15, 16, 17], rfl, stepg_guard rfl rfl rfl (by decide) rfl (op_call (vs := [.agg [.sl .no 14 (c_.Tenants.map api.Tenant.av), .int .i64 c_.Quantum, .int .i64 c_.Deadline], .str token]) (H := []) rfl call45 ⟨(AEv.tmp rfl), (AEv.tmp rfl), trivial⟩ (R := []) (List.Perm.refl _) (auth.Find.ok r38e) (by rintro _ _ ⟨rfl, rfl⟩; exact ⟨rfl, rfl⟩))⟩, ?_⟩
            refine ⟨⟨[2, 15], rfl, stepg_guard rfl rfl rfl (by decide) rfl (op_loadN (i := 0) rfl isAgg78 sizeOf78 (AEv.tmp rfl) rfl (Nat.le_of_ble_eq_true rfl) rfl ⟨rfl, rfl⟩)⟩, ?_⟩
            refine ⟨⟨[1, 15], rfl, stepg_guardP rfl rfl rfl (by decide) rfl (pu_move rfl (AEv.tmp rfl))⟩, ?_⟩
            refine ⟨⟨[15, 19, 20], rfl, stepg_guard rfl rfl rfl (by decide) rfl (op_call (vs := [.agg [.sl .no 14 (c_.Tenants.map api.Tenant.av), .int .i64 c_.Quantum, .int .i64 c_.Deadline], .str token]) (H := []) rfl call46 ⟨(AEv.tmp rfl), (AEv.tmp rfl), trivial⟩ (R := []) (List.Perm.refl _) (mewsref42.Find.ok r39e) (by rintro _ _ ⟨rfl, rfl⟩; exact ⟨rfl, rfl⟩))⟩, ?_⟩
            refine ⟨⟨[15, 18, 21], rfl, stepg_guardP rfl rfl rfl (by decide) rfl (pu_int (v := .bool (decide (r38 = r39))) rfl rfl (AEv.tmp rfl) (AEv.tmp rfl) rfl)⟩, ?_⟩
            refine ⟨⟨[15, 22], rfl, stepg_pure rfl (pu_pick (b := true) rfl (AEv.tmp rfl) (fun _ => (AEv.tmp rfl)) (fun h => nomatch h))⟩, ?_⟩
            refine ⟨⟨[23], rfl, (stepg_pure rfl (pu_move rfl (AEv.tmp rfl))).cast (congrArg AV.bool hb40)⟩, ?_⟩
            refine ⟨⟨[24], rfl, stepg_guard rfl rfl rfl (by decide) rfl (op_call (vs := []) (H := []) rfl call42 trivial (R := []) (List.Perm.refl _) (mewslaw42.alive.ok r41e) (by rintro _ _ ⟨rfl, rfl⟩; exact ⟨rfl, rfl⟩))⟩, ?_⟩
            refine ⟨⟨[24, 25], rfl, stepg_pure rfl (pu_pick (b := true) rfl (AEv.tmp rfl) (fun _ => (AEv.tmp rfl)) (fun h => nomatch h))⟩, ?_⟩
            refine ⟨⟨[26], rfl, stepg_pure rfl (pu_assign rfl (AEv.tmp rfl))⟩, ?_⟩
            trivial
          obtain rfl := some_of h
          exact ⟨(), Weak.mkL [] (by decide) trivial ⟨AEv.tmp rfl, trivial⟩⟩
        · replace h := ite_f (dec_f hb40) h
          refine aw_plan (by decide +kernel) [([], some 10, [2]), ([0], some 11, [10]), ([], some 12, [2]), ([2, 1], some 13, [12]), ([1, 3], some 14, [11, 13]), ([4, 3], some 15, [14]), ([5], some 16, [2, 15]), ([5], some 17, [1, 15]), ([6, 7, 5, 5], some 18, [16, 17, 15]), ([5], some 19, [2, 15]), ([5], some 20, [1, 15]), ([9, 10, 8, 5], some 21, [19, 20, 15]), ([8, 11, 5], some 22, [18, 21, 15]), ([5, 12], some 23, [15, 22]), ([13, 11], some 24, [23]), ([14, 14], some 25, [24]), ([14, 15], some 26, [24, 25]), ([16, 15, 0, 1, 2, 3, 4, 5, 6, 7, 8, 9, 10, 11, 12, 13, 14, 15, 16], some 4, [26])] rfl [[], [0], [], [0, 1, 2], [0, 1, 2, 3], [0, 1, 2, 3, 4], [0, 1, 2, 3, 4, 5], [0, 1, 2, 3, 4, 5], [0, 1, 2, 3, 4, 5, 6, 7], [0, 1, 2, 3, 4, 5], [0, 1, 2, 3, 4, 5], [0, 1, 2, 3, 4, 5, 6, 7, 8, 9, 10], [0, 1, 2, 3, 4, 5, 6, 7, 8, 9, 10, 11], [0, 1, 2, 3, 4, 5, 6, 7, 8, 9, 10, 11, 12], [0, 1, 2, 3, 4, 5, 6, 7, 8, 9, 10, 11, 12, 13], [0, 1, 2, 3, 4, 5, 6, 7, 8, 9, 10, 11, 12, 13, 14], [0, 1, 2, 3, 4, 5, 6, 7, 8, 9, 10, 11, 12, 13, 14, 15], [0, 1, 2, 3, 4, 5, 6, 7, 8, 9, 10, 11, 12, 13, 14, 15, 16]] [[(0, 0, false)], [], [(0, 0, false)], [], [], [], [(0, 0, false)], [], [], [(0, 0, false)], [], [], [], [], [], [], [], []] [[]] [[[(p22, .cells [.sl .no 14 (c_.Tenants.map api.Tenant.av), .int .i64 c_.Quantum, .int .i64 c_.Deadline])]]] [.agg [.sl .no 14 (c_.Tenants.map api.Tenant.av), .int .i64 c_.Quantum, .int .i64 c_.Deadline], .int .i64 r35, .agg [.sl .no 14 (c_.Tenants.map api.Tenant.av), .int .i64 c_.Quantum, .int .i64 c_.Deadline], .int .i64 r36, .bool (decide (r35 = r36)), .bool true, .agg [.sl .no 14 (c_.Tenants.map api.Tenant.av), .int .i64 c_.Quantum, .int .i64 c_.Deadline], .str token, .int .i64 r38, .agg [.sl .no 14 (c_.Tenants.map api.Tenant.av), .int .i64 c_.Quantum, .int .i64 c_.Deadline], .str token, .int .i64 r39, .bool (decide (r38 = r39)), .bool (decide (r38 = r39)), .bool false, .lit undef, .bool false, .bool false] (by decide +kernel) rfl rfl ?_ ?_
          · refine ⟨⟨[2], rfl, stepg_plain rfl (op_loadN (i := 0) rfl isAgg78 sizeOf78 (AEv.tmp rfl) rfl (Nat.le_of_ble_eq_true rfl) rfl ⟨rfl, rfl⟩)⟩, ?_⟩
            refine ⟨⟨[10], rfl, stepg_plain rfl (op_call (vs := [.agg [.sl .no 14 (c_.Tenants.map api.Tenant.av), .int .i64 c_.Quantum, .int .i64 c_.Deadline]]) (H := []) rfl call43 ⟨(AEv.tmp rfl), trivial⟩ (R := []) (List.Perm.refl _) (auth.Right.ok r35e) (by rintro _ _ ⟨rfl, rfl⟩; exact ⟨rfl, rfl⟩))⟩, ?_⟩
            refine ⟨⟨[2], rfl, stepg_plain rfl (op_loadN (i := 0) rfl isAgg78 sizeOf78 (AEv.tmp rfl) rfl (Nat.le_of_ble_eq_true rfl) rfl ⟨rfl, rfl⟩)⟩, ?_⟩
            refine ⟨⟨[12], rfl, stepg_plain rfl (op_call (vs := [.agg [.sl .no 14 (c_.Tenants.map api.Tenant.av), .int .i64 c_.Quantum, .int .i64 c_.Deadline]]) (H := []) rfl call44 ⟨(AEv.tmp rfl), trivial⟩ (R := []) (List.Perm.refl _) (mewsref42.Right.ok r36e) (by rintro _ _ ⟨rfl, rfl⟩; exact ⟨rfl, rfl⟩))⟩, ?_⟩
            refine ⟨⟨[11, 13], rfl, stepg_pure rfl (pu_int (v := .bool (decide (r35 = r36))) rfl rfl (AEv.tmp rfl) (AEv.tmp rfl) rfl)⟩, ?_⟩
            refine ⟨⟨[14], rfl, (stepg_pure rfl (pu_move rfl (AEv.tmp rfl))).cast (congrArg AV.bool hb37)⟩, ?_⟩
            refine ⟨⟨[2, 15], rfl, stepg_guard rfl rfl rfl (by decide) rfl (op_loadN (i := 0) rfl isAgg78 sizeOf78 (AEv.tmp rfl) rfl (Nat.le_of_ble_eq_true rfl) rfl ⟨rfl, rfl⟩)⟩, ?_⟩
            refine ⟨⟨[1, 15], rfl, stepg_guardP rfl rfl rfl (by decide) rfl (pu_move rfl (AEv.tmp rfl))⟩, ?_⟩
            refine ⟨⟨[15, 16, 17], rfl, stepg_guard rfl rfl rfl (by decide) rfl (op_call (vs := [.agg [.sl .no 14 (c_.Tenants.map api.Tenant.av), .int .i64 c_.Quantum, .int .i64 c_.Deadline], .str token]) (H := []) rfl call45 ⟨(AEv.tmp rfl), (AEv.tmp rfl), trivial⟩ (R := []) (List.Perm.refl _) (auth.Find.ok r38e) (by rintro _ _ ⟨rfl, rfl⟩; exact ⟨rfl, rfl⟩))⟩, ?_⟩
            refine ⟨⟨[2, 15], rfl, stepg_guard rfl rfl rfl (by decide) rfl (op_loadN (i := 0) rfl isAgg78 sizeOf78 (AEv.tmp rfl) rfl (Nat.le_of_ble_eq_true rfl) rfl ⟨rfl, rfl⟩)⟩, ?_⟩
            refine ⟨⟨[1, 15], rfl, stepg_guardP rfl rfl rfl (by decide) rfl (pu_move rfl (AEv.tmp rfl))⟩, ?_⟩
            refine ⟨⟨[15, 19, 20], rfl, stepg_guard rfl rfl rfl (by decide) rfl (op_call (vs := [.agg [.sl .no 14 (c_.Tenants.map api.Tenant.av), .int .i64 c_.Quantum, .int .i64 c_.Deadline], .str token]) (H := []) rfl call46 ⟨(AEv.tmp rfl), (AEv.tmp rfl), trivial⟩ (R := []) (List.Perm.refl _) (mewsref42.Find.ok r39e) (by rintro _ _ ⟨rfl, rfl⟩; exact ⟨rfl, rfl⟩))⟩, ?_⟩
            refine ⟨⟨[15, 18, 21], rfl, stepg_guardP rfl rfl rfl (by decide) rfl (pu_int (v := .bool (decide (r38 = r39))) rfl rfl (AEv.tmp rfl) (AEv.tmp rfl) rfl)⟩, ?_⟩
            refine ⟨⟨[15, 22], rfl, stepg_pure rfl (pu_pick (b := true) rfl (AEv.tmp rfl) (fun _ => (AEv.tmp rfl)) (fun h => nomatch h))⟩, ?_⟩
            refine ⟨⟨[23], rfl, (stepg_pure rfl (pu_move rfl (AEv.tmp rfl))).cast (congrArg AV.bool hb40)⟩, ?_⟩
            refine ⟨⟨[24], rfl, stepg_pass rfl rfl rfl (by decide) rfl (by decide)⟩, ?_⟩
            refine ⟨⟨[24, 25], rfl, stepg_pure rfl (pu_pick (b := false) rfl (AEv.tmp rfl) (fun h => nomatch h) (fun _ => (AEv.bool _)))⟩, ?_⟩
            refine ⟨⟨[26], rfl, stepg_pure rfl (pu_assign rfl (AEv.tmp rfl))⟩, ?_⟩
            trivial
          obtain rfl := some_of h
          exact ⟨(), Weak.mkL [] (by decide) trivial ⟨AEv.tmp rfl, trivial⟩⟩
      · replace h := ite_f (dec_f hb37) h
        refine aw_plan (by decide +kernel) [([], some 10, [2]), ([0], some 11, [10]), ([], some 12, [2]), ([2, 1], some 13, [12]), ([1, 3], some 14, [11, 13]), ([4, 3], some 15, [14]), ([5], some 16, [2, 15]), ([5], some 17, [1, 15]), ([6, 7, 5, 5], some 18, [16, 17, 15]), ([5], some 19, [2, 15]), ([5], some 20, [1, 15]), ([9, 10, 8, 5], some 21, [19, 20, 15]), ([8, 11, 5], some 22, [18, 21, 15]), ([5, 12], some 23, [15, 22]), ([13, 11], some 24, [23]), ([14, 14], some 25, [24]), ([14, 15], some 26, [24, 25]), ([16, 15, 0, 1, 2, 3, 4, 5, 6, 7, 8, 9, 10, 11, 12, 13, 14, 15, 16], some 4, [26])] rfl [[], [0], [], [0, 1, 2], [0, 1, 2, 3], [0, 1, 2, 3, 4], [0, 1, 2, 3, 4, 5], [0, 1, 2, 3, 4, 5], [0, 1, 2, 3, 4, 5, 6, 7], [0, 1, 2, 3, 4, 5], [0, 1, 2, 3, 4, 5], [0, 1, 2, 3, 4, 5, 6, 7, 8, 9, 10], [0, 1, 2, 3, 4, 5, 6, 7, 8, 9, 10, 11], [0, 1, 2, 3, 4, 5, 6, 7, 8, 9, 10, 11, 12], [0, 1, 2, 3, 4, 5, 6, 7, 8, 9, 10, 11, 12, 13], [0, 1, 2, 3, 4, 5, 6, 7, 8, 9, 10, 11, 12, 13, 14], [0, 1, 2, 3, 4, 5, 6, 7, 8, 9, 10, 11, 12, 13, 14, 15], [0, 1, 2, 3, 4, 5, 6, 7, 8, 9, 10, 11, 12, 13, 14, 15, 16]] [[(0, 0, false)], [], [(0, 0, false)], [], [], [], [], [], [], [], [], [], [], [], [], [], [], []] [[]] [[[(p22, .cells [.sl .no 14 (c_.Tenants.map api.Tenant.av), .int .i64 c_.Quantum, .int .i64 c_.Deadline])]]] [.agg [.sl .no 14 (c_.Tenants.map api.Tenant.av), .int .i64 c_.Quantum, .int .i64 c_.Deadline], .int .i64 r35, .agg [.sl .no 14 (c_.Tenants.map api.Tenant.av), .int .i64 c_.Quantum, .int .i64 c_.Deadline], .int .i64 r36, .bool (decide (r35 = r36)), .bool false, .lit undef, .lit undef, .lit undef, .lit undef, .lit undef, .lit undef, .lit undef, .bool false, .bool false, .lit undef, .bool false, .bool false] (by decide +kernel) rfl rfl ?_ ?_
        · refine ⟨⟨[2], rfl, stepg_plain rfl (op_loadN (i := 0) rfl isAgg78 sizeOf78 (AEv.tmp rfl) rfl (Nat.le_of_ble_eq_true rfl) rfl ⟨rfl, rfl⟩)⟩, ?_⟩
          refine ⟨⟨[10], rfl, stepg_plain rfl (op_call (vs := [.agg [.sl .no 14 (c_.Tenants.map api.Tenant.av), .int .i64 c_.Quantum, .int .i64 c_.Deadline]]) (H := []) rfl call43 ⟨(AEv.tmp rfl), trivial⟩ (R := []) (List.Perm.refl _) (auth.Right.ok r35e) (by rintro _ _ ⟨rfl, rfl⟩; exact ⟨rfl, rfl⟩))⟩, ?_⟩
          refine ⟨⟨[2], rfl, stepg_plain rfl (op_loadN (i := 0) rfl isAgg78 sizeOf78 (AEv.tmp rfl) rfl (Nat.le_of_ble_eq_true rfl) rfl ⟨rfl, rfl⟩)⟩, ?_⟩
          refine ⟨⟨[12], rfl, stepg_plain rfl (op_call (vs := [.agg [.sl .no 14 (c_.Tenants.map api.Tenant.av), .int .i64 c_.Quantum, .int .i64 c_.Deadline]]) (H := []) rfl call44 ⟨(AEv.tmp rfl), trivial⟩ (R := []) (List.Perm.refl _) (mewsref42.Right.ok r36e) (by rintro _ _ ⟨rfl, rfl⟩; exact ⟨rfl, rfl⟩))⟩, ?_⟩
          refine ⟨⟨[11, 13], rfl, stepg_pure rfl (pu_int (v := .bool (decide (r35 = r36))) rfl rfl (AEv.tmp rfl) (AEv.tmp rfl) rfl)⟩, ?_⟩
          refine ⟨⟨[14], rfl, (stepg_pure rfl (pu_move rfl (AEv.tmp rfl))).cast (congrArg AV.bool hb37)⟩, ?_⟩
          refine ⟨⟨[2, 15], rfl, stepg_pass rfl rfl rfl (by decide) rfl (by decide)⟩, ?_⟩
          refine ⟨⟨[1, 15], rfl, stepg_pass rfl rfl rfl (by decide) rfl (by decide)⟩, ?_⟩
          refine ⟨⟨[15, 16, 17], rfl, stepg_pass rfl rfl rfl (by decide) rfl (by decide)⟩, ?_⟩
          refine ⟨⟨[2, 15], rfl, stepg_pass rfl rfl rfl (by decide) rfl (by decide)⟩, ?_⟩
          refine ⟨⟨[1, 15], rfl, stepg_pass rfl rfl rfl (by decide) rfl (by decide)⟩, ?_⟩
          refine ⟨⟨[15, 19, 20], rfl, stepg_pass rfl rfl rfl (by decide) rfl (by decide)⟩, ?_⟩
          refine ⟨⟨[15, 18, 21], rfl, stepg_pass rfl rfl rfl (by decide) rfl (by decide)⟩, ?_⟩
          refine ⟨⟨[15, 22], rfl, stepg_pure rfl (pu_pick (b := false) rfl (AEv.tmp rfl) (fun h => nomatch h) (fun _ => (AEv.bool _)))⟩, ?_⟩
          refine ⟨⟨[23], rfl, stepg_pure rfl (pu_move rfl (AEv.tmp rfl))⟩, ?_⟩
          refine ⟨⟨[24], rfl, stepg_pass rfl rfl rfl (by decide) rfl (by decide)⟩, ?_⟩
          refine ⟨⟨[24, 25], rfl, stepg_pure rfl (pu_pick (b := false) rfl (AEv.tmp rfl) (fun h => nomatch h) (fun _ => (AEv.bool _)))⟩, ?_⟩
          refine ⟨⟨[26], rfl, stepg_pure rfl (pu_assign rfl (AEv.tmp rfl))⟩, ?_⟩
          trivial
        obtain rfl := some_of h
        exact ⟨(), Weak.mkL [] (by decide) trivial ⟨AEv.tmp rfl, trivial⟩⟩
    · intro _
      have h := h33
      refine aw_ret ?_
      obtain rfl := some_of h
      exact ⟨[.bool s32], _, [], ⟨(AEv.tmp rfl), trivial⟩, (AV.Le.refl _), Weak.mkL [] (by decide) trivial trivial, ⟨rfl, rfl⟩⟩

end Go.Pu
