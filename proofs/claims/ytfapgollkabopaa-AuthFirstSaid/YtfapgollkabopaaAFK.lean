/- Printed by lift.py: the functions come to them. -/
import Derived.Test.YtfapgollkabopaaLiftU
import Derived.Test.YtfapgollkabopaaAFK3
set_option maxRecDepth 100000
set_option maxHeartbeats 0
namespace Go.Pu
open Go.Lift Go.Proofs.Try Go.RowKit Go.Proofs

theorem mewslaw42.AuthFirst.ok {c_ : api.Config} {pieces : List (List UInt8)} {r : Bool} (h : mewslaw42.AuthFirst c_ pieces = some r) : Go.Lift.Spec prog 11 [.agg [.sl .no 14 (c_.Tenants.map api.Tenant.av), .int .i64 c_.Quantum, .int .i64 c_.Deadline], .sl .no 1 (pieces.map AV.str)] [] (fun v H => v = .bool r ∧ H = []) := by
 unfold mewslaw42.AuthFirst at h
 refine Go.Lift.Spec.of_body (rs := [.tmp 4]) func11 Z Z (Nat.le_of_ble_eq_true Z) Z (aw_seq (aw_region (ac Z Z Z (op_box (cs := [.sl .no 14 (c_.Tenants.map api.Tenant.av), .int .i64 c_.Quantum, .int .i64 c_.Deadline]) (v := .agg [.sl .no 14 (c_.Tenants.map api.Tenant.av), .int .i64 c_.Quantum, .int .i64 c_.Deadline]) Z (tm Z) Z Z ?_))))
 intro p385
 refine ap (.bool false) Z Z Z (pu_assign Z (AEv.bool _)) (aops_nil (aw_seq (aw_seq (aw_region (ac Z Z Z (op_loadN (i := 0) Z isAgg78 sizeOf78 (tm Z) Z (Nat.le_of_ble_eq_true Z) Z (ap (.sl .no 1 (pieces.map AV.str)) Z Z Z (pu_move Z (tm Z)) ?_)))))))
 obtain ⟨r386, r386e, h⟩ := bind_some h
 refine ac Z Z Z (op_call (vs := [.agg [.sl .no 14 (c_.Tenants.map api.Tenant.av), .int .i64 c_.Quantum, .int .i64 c_.Deadline], .sl .no 1 (pieces.map AV.str)]) (H := []) Z call41 ⟨(tm Z), (tm Z), trivial⟩ (List.Perm.refl _) (mewslaw42.far.ok r386e) ?_)
 rintro _ _ ⟨rfl, rfl⟩
 refine aops_nil (aw_cond (b := r386) (tm Z) (fun hb768 => ?_) (fun hb768 => ?_))
 ·replace h := ite_t hb768 h
  refine aw_seq (aw_region ?_)
  obtain ⟨r387, r387e, h⟩ := bind_some h
  refine ac Z Z Z (op_call (vs := []) (H := []) Z call42 trivial (List.Perm.refl _) (mewslaw42.alive.ok r387e) ?_)
  rintro _ _ ⟨rfl, rfl⟩
  refine ap (.bool r387) Z Z Z (pu_assign Z (tm Z)) (aops_nil (aw_ret ?_))
  obtain rfl := some_of h
  exact ⟨[.bool r387], _, [], ⟨(tm Z), trivial⟩, (AV.Le.refl _), Weak.mkL [] (by decide) trivial trivial, ⟨Z, Z⟩⟩
 ·replace h := ite_fb hb768 h
  refine aw_skip (aw_seq (aw_region (ap (.str ([] : List UInt8)) Z Z Z (pu_assign Z (AEv.const Z)) (aops_nil (aw_seq (aw_region (ap (.agg [.str ([] : List UInt8), .sl .full 1 (([] : List (List UInt8)).map AV.str), .int .i64 0, .int .i64 0, .bool false, .int .i64 0, .int .i64 0]) Z Z Z (pu_build (zs := [.str ([] : List UInt8), .sl .full 1 (([] : List (List UInt8)).map AV.str), .int .i64 0, .int .i64 0, .bool false, .int .i64 0, .int .i64 0]) (szs := [1, 1, 1, 1, 1, 1, 1]) (aparts := []) (cs := [.str ([] : List UInt8), .sl .full 1 (([] : List (List UInt8)).map AV.str), .int .i64 0, .int .i64 0, .bool false, .int .i64 0, .int .i64 0]) Z underlying29 zeroValue29 Z ⟨sizeOf9, sizeOf26, sizeOf3, sizeOf3, sizeOf4, sizeOf3, sizeOf27, trivial⟩ trivial Z) (ac Z Z Z (op_alloc (cs := [.str ([] : List UInt8), .sl .full 1 (([] : List (List UInt8)).map AV.str), .int .i64 0, .int .i64 0, .bool false, .int .i64 0, .int .i64 0]) (v := .agg [.str ([] : List UInt8), .sl .full 1 (([] : List (List UInt8)).map AV.str), .int .i64 0, .int .i64 0, .bool false, .int .i64 0, .int .i64 0]) Z zeroValue29 Z Z Z ?_)))))))))
  intro p388
  refine ac0 Z Z (op_store (i := 0) (cs' := [.str ([] : List UInt8), .sl .full 1 (([] : List (List UInt8)).map AV.str), .int .i64 0, .int .i64 0, .bool false, .int .i64 0, .int .i64 0]) Z sizeOf29 (tm Z) (v := .agg [.str ([] : List UInt8), .sl .full 1 (([] : List (List UInt8)).map AV.str), .int .i64 0, .int .i64 0, .bool false, .int .i64 0, .int .i64 0]) (tm Z) Z Z Z (Nat.le_of_ble_eq_true Z) Z (aops_nil ?_))
  obtain ⟨s767, s767e, h573⟩ := bind_some h
  refine aw_join (σ := Unit) (ν := Unit) (fun u v => [(1, .sl .no 1 (pieces.map AV.str)), (2, .ptr p385 0)]) (fun u v => [(p385, .cells [.sl .no 14 (c_.Tenants.map api.Tenant.av), .int .i64 c_.Quantum, .int .i64 c_.Deadline])]) (fun u => s767 = .inl u) ?_ ?_
  ·intro s572
   intro _
   rintro rfl
   have h := onSum_inl h573
   obtain ⟨s761, s761e, h762⟩ := bind_some h
   refine aw_meet (ν := Unit) (fun v => [(4, .bool s761)]) (fun v => []) ?_ ?_
   ·have h := s761e
    refine aw_region (ac Z Z Z (op_loadN (i := 0) Z isAgg78 sizeOf78 (tm Z) Z (Nat.le_of_ble_eq_true Z) Z (ap (.sl .no 1 (pieces.map AV.str)) Z Z Z (pu_move Z (tm Z)) ?_)))
    obtain ⟨r764, r764e, h⟩ := bind_some h
    refine ac Z Z Z (op_call (vs := [.agg [.sl .no 14 (c_.Tenants.map api.Tenant.av), .int .i64 c_.Quantum, .int .i64 c_.Deadline], .sl .no 1 (pieces.map AV.str)]) (H := []) Z call49 ⟨(tm Z), (tm Z), trivial⟩ (List.Perm.refl _) (auth.Label.ok r764e) ?_)
    rintro _ _ ⟨rfl, rfl⟩
    refine ap (.bool (decide (r764 = (-1)))) Z Z Z (pu_int (v := .bool (decide (r764 = (-1)))) Z Z (tm Z) (AEv.int _ _) Z) (ap (.bool (decide (r764 = (-1)))) Z Z Z (pu_move Z (tm Z)) ?_)
    rcases Bool.eq_false_or_eq_true (decide (r764 = (-1))) with hb765 | hb765
    ·replace h := ite_t (dec_t hb765) h
     refine aops_known 126 Z hb765 ?_
     obtain ⟨r766, r766e, h⟩ := bind_some h
     refine ag Z Z Z Z Z Z Z (op_call (vs := []) (H := []) Z call42 trivial (List.Perm.refl _) (mewslaw42.alive.ok r766e) ?_)
     rintro _ _ ⟨rfl, rfl⟩
     refine ap (.bool r766) Z Z Z (pu_pick (b := true) Z (tm Z) (fun _ => (tm Z)) (fun h => nomatch h)) (ap (.bool r766) Z Z Z (pu_assign Z (tm Z)) (aops_nil ?_))
     obtain rfl := some_of h
     exact ⟨(), Weak.mkL [] (by decide) trivial ⟨AEv.tmp Z, trivial⟩⟩
    ·replace h := ite_f (dec_f hb765) h
     refine aops_known 126 Z hb765 (an Z Z Z Z Z Z Z Z (ap (.bool false) Z Z Z (pu_pick (b := false) Z (tm Z) (fun h => nomatch h) (fun _ => (AEv.bool _))) (ap (.bool false) Z Z Z (pu_assign Z (tm Z)) (aops_nil ?_))))
     obtain rfl := some_of h
     exact ⟨(), Weak.mkL [] (by decide) trivial ⟨AEv.tmp Z, trivial⟩⟩
   ·intro _
    have h := h762
    refine aw_ret ?_
    obtain rfl := some_of h
    exact ⟨[.bool s761], _, [], ⟨(tm Z), trivial⟩, (AV.Le.refl _), Weak.mkL [] (by decide) trivial trivial, ⟨Z, Z⟩⟩
  ·have h := s767e
   refine aw_seq (aw_region (ap (.sl .no 1 (pieces.map AV.str)) Z Z Z (pu_move Z (tm Z)) (ap (.int .i64 (pieces.length : Int)) Z Z Z (pu_lenM Z underlying26 (tm Z)) (ap (.int .i64 0) Z Z Z (pu_move Z (AEv.int _ _)) (aops_nil (aw_block (aw_while (σ := mewslaw42.AuthFirst.S0) (ν := Unit) (mewslaw42.AuthFirst.body0 pieces c_) (fun s695 v => [(1, .sl .no 1 (pieces.map AV.str)), (2, .ptr p385 0), (5, .str s695.all_), (6, .ptr p388 0), (23, .sl .no 1 (pieces.map AV.str)), (24, .int .i64 (pieces.length : Int)), (25, .int .i64 s695.t25)]) (fun s695 v => [(p385, .cells [.sl .no 14 (c_.Tenants.map api.Tenant.av), .int .i64 c_.Quantum, .int .i64 c_.Deadline]), (p388, .cells [.str s695.c, .sl .no 1 (s695.c2.map AV.str), .int .i64 s695.c3, .int .i64 s695.c4, .bool s695.c5, .int .i64 s695.c6, .int .i64 s695.c7])]) ⟨([] : List UInt8), 0, ([] : List UInt8), ([] : List (List UInt8)), 0, 0, false, 0, 0⟩ () _ h (Weak.mkL [1, 0] (by decide) ⟨⟨_, Z, (CellsLe.refl _), Z⟩, ⟨_, Z, ⟨(AV.Le.refl _), (AV.Le.forget _ _ _), (AV.Le.refl _), (AV.Le.refl _), (AV.Le.refl _), (AV.Le.refl _), (AV.Le.refl _), trivial⟩, Z⟩, trivial⟩ ⟨AEv.tmp Z, AEv.tmp Z, AEv.tmp Z, AEv.tmp Z, AEv.tmp Z, AEv.tmp Z, AEv.tmp Z, trivial⟩) ?_)))))))
   rintro s695 _ x697 h hx696
   unfold mewslaw42.AuthFirst.body0 at h
   refine aw_seq (aw_region (ap (.bool (decide (s695.t25 < (pieces.length : Int)))) Z Z Z (pu_int (v := .bool (decide (s695.t25 < (pieces.length : Int)))) Z Z (tm Z) (tm Z) Z) (aops_nil (aw_seq (aw_cond (b := decide (s695.t25 < (pieces.length : Int))) (tm Z) (fun hb757 => ?_) (fun hb757 => ?_))))))
   ·replace h := ite_t (dec_t hb757) h
    refine aw_skip (aw_seq (aw_block (aw_seq (aw_region (ap (.int .i64 s695.t25) Z Z Z (pu_move Z (tm Z)) ?_)))))
    obtain ⟨c699, h⟩ := need_of h
    refine ap (.vptr [.str (ix pieces s695.t25)]) Z Z Z (pu_indexAddrM Z underlying26 sizeOf9 (tm Z) (tm Z) c699 Z) (ac Z Z Z (op_loadV1 Z isAgg9 (tm Z) Z (ap (.int .i64 s695.t25) Z Z Z (pu_assign Z (tm Z)) (ap (.str (ix pieces s695.t25)) Z Z Z (pu_assign Z (tm Z)) (aops_nil (aw_seq (aw_region (ac Z Z Z (op_loadN (i := 0) Z isAgg78 sizeOf78 (tm Z) Z (Nat.le_of_ble_eq_true Z) Z (ac Z Z Z (op_loadN (i := 1) Z isAgg29 sizeOf29 (tm Z) Z (Nat.le_of_ble_eq_true Z) Z (ap (.str (ix pieces s695.t25)) Z Z Z (pu_move Z (tm Z)) ?_))))))))))))
    obtain ⟨r700, r700e, h⟩ := bind_some h
    refine ac Z Z Z (op_call (vs := [.agg [.sl .no 14 (c_.Tenants.map api.Tenant.av), .int .i64 c_.Quantum, .int .i64 c_.Deadline], .agg [.str s695.c, .sl .no 1 (s695.c2.map AV.str), .int .i64 s695.c3, .int .i64 s695.c4, .bool s695.c5, .int .i64 s695.c6, .int .i64 s695.c7], .str (ix pieces s695.t25)]) (H := []) Z call47 ⟨(tm Z), (tm Z), (tm Z), trivial⟩ (List.Perm.refl _) (auth.First.ok r700e) ?_)
    rintro _ _ ⟨rfl, rfl⟩
    refine ap (.tup [.agg (api.Input.ct .no r700.1), .str r700.2.1, .int .i64 r700.2.2.1, .int .i64 r700.2.2.2]) Z Z Z (pu_move Z (tm Z)) (ap (.agg (api.Input.ct .no r700.1)) Z Z Z (pu_extract Z (tm Z) (Nat.le_of_ble_eq_true Z) Z) (ap (.str r700.2.1) Z Z Z (pu_extract Z (tm Z) (Nat.le_of_ble_eq_true Z) Z) (ap (.int .i64 r700.2.2.1) Z Z Z (pu_extract Z (tm Z) (Nat.le_of_ble_eq_true Z) Z) (ap (.int .i64 r700.2.2.2) Z Z Z (pu_extract Z (tm Z) (Nat.le_of_ble_eq_true Z) Z) (ac Z Z Z (op_alloc (cs := [.str ([] : List UInt8), .sl .full 1 (([] : List (List UInt8)).map AV.str), .int .i64 0, .int .i64 0, .bool false, .int .i64 0, .int .i64 0]) (v := .agg [.str ([] : List UInt8), .sl .full 1 (([] : List (List UInt8)).map AV.str), .int .i64 0, .int .i64 0, .bool false, .int .i64 0, .int .i64 0]) Z zeroValue29 Z Z Z ?_))))))
    intro p701
    refine ac0 Z Z (op_store (i := 0) (cs' := (api.Input.ct .no r700.1)) Z sizeOf29 (tm Z) (v := .agg (api.Input.ct .no r700.1)) (tm Z) Z Z Z (Nat.le_of_ble_eq_true Z) Z (ap (.str r700.2.1) Z Z Z (pu_assign Z (tm Z)) (ap (.int .i64 r700.2.2.1) Z Z Z (pu_assign Z (tm Z)) (ap (.int .i64 r700.2.2.2) Z Z Z (pu_assign Z (tm Z)) (aops_nil (aw_seq (aw_region (ac Z Z Z (op_loadN (i := 1) Z isAgg78 sizeOf78 (tm Z) Z (Nat.le_of_ble_eq_true Z) Z (ap (.str s695.all_) Z Z Z (pu_move Z (tm Z)) (ap (.str (ix pieces s695.t25)) Z Z Z (pu_move Z (tm Z)) ?_)))))))))))
    obtain ⟨c702, h⟩ := need_of h
    refine ap (.str (s695.all_ ++ (ix pieces s695.t25))) Z Z Z (pu_strAdd Z (tm Z) (tm Z) c702) ?_
    obtain ⟨r703, r703e, h⟩ := bind_some h
    refine ac Z Z Z (op_call (vs := [.agg [.sl .no 14 (c_.Tenants.map api.Tenant.av), .int .i64 c_.Quantum, .int .i64 c_.Deadline], .str (s695.all_ ++ (ix pieces s695.t25))]) (H := []) Z call48 ⟨(tm Z), (tm Z), trivial⟩ (List.Perm.refl _) (mewsref42.Told.ok r703e) ?_)
    rintro _ _ ⟨rfl, rfl⟩
    refine ap (.tup [.int .i64 r703.1, .int .i64 r703.2.1, .int .i64 r703.2.2]) Z Z Z (pu_move Z (tm Z)) (ap (.int .i64 r703.1) Z Z Z (pu_extract Z (tm Z) (Nat.le_of_ble_eq_true Z) Z) (ap (.int .i64 r703.2.1) Z Z Z (pu_extract Z (tm Z) (Nat.le_of_ble_eq_true Z) Z) (ap (.int .i64 r703.2.2) Z Z Z (pu_extract Z (tm Z) (Nat.le_of_ble_eq_true Z) Z) (ap (.int .i64 r703.1) Z Z Z (pu_assign Z (tm Z)) (ap (.int .i64 r703.2.1) Z Z Z (pu_assign Z (tm Z)) (ap (.int .i64 r703.2.2) Z Z Z (pu_assign Z (tm Z)) (aops_nil (aw_seq ?_))))))))
    obtain ⟨s717, s717e, h718⟩ := bind_some h
    refine aw_meet (ν := Unit) (fun v => [(1, .sl .no 1 (pieces.map AV.str)), (2, .ptr p385 0), (5, .str s695.all_), (6, .ptr p388 0), (7, .int .i64 s695.t25), (8, .str (ix pieces s695.t25)), (9, .ptr p701 0), (11, .int .i64 r700.2.2.1), (12, .int .i64 r700.2.2.2), (23, .sl .no 1 (pieces.map AV.str)), (24, .int .i64 (pieces.length : Int)), (25, .int .i64 s695.t25), (84, .bool s717)]) (fun v => [(p385, .cells [.sl .no 14 (c_.Tenants.map api.Tenant.av), .int .i64 c_.Quantum, .int .i64 c_.Deadline]), (p388, .cells [.str s695.c, .sl .no 1 (s695.c2.map AV.str), .int .i64 s695.c3, .int .i64 s695.c4, .bool s695.c5, .int .i64 s695.c6, .int .i64 s695.c7]), (p701, .cells (api.Input.ct .no r700.1))]) ?_ ?_
    ·have h := s717e
     refine aw_region (ap (.int .i64 r700.2.2.1) Z Z Z (pu_move Z (tm Z)) (ap (.int .i64 r703.2.1) Z Z Z (pu_move Z (tm Z)) (ap (.bool (!decide (r700.2.2.1 = r703.2.1))) Z Z Z (pu_int (v := .bool (!decide (r700.2.2.1 = r703.2.1))) Z Z (tm Z) (tm Z) Z) (ap (.bool (!decide (r700.2.2.1 = r703.2.1))) Z Z Z (pu_move Z (tm Z)) ?_))))
     rcases Bool.eq_false_or_eq_true (!decide (r700.2.2.1 = r703.2.1)) with hb720 | hb720
     ·replace h := ite_f (ndec_t hb720) h
      refine aops_known 51 Z hb720 (an Z Z Z Z Z Z Z Z (an Z Z Z Z Z Z Z Z (an Z Z Z Z Z Z Z Z (ap (.bool true) Z Z Z (pu_pick (b := true) Z (tm Z) (fun _ => (AEv.bool _)) (fun h => nomatch h)) (ap (.bool true) Z Z Z (pu_move Z (tm Z)) (an Z Z Z Z Z Z Z Z (an Z Z Z Z Z Z Z Z (an Z Z Z Z Z Z Z Z (an2 Z Z Z Z Z Z Z ?_)))))))))
      refine an2 Z Z Z Z Z Z Z (an Z Z Z Z Z Z Z Z (an Z Z Z Z Z Z Z Z (an2 Z Z Z Z Z Z Z (an2 Z Z Z Z Z Z Z (an2 Z Z Z Z Z Z Z (an2 Z Z Z Z Z Z Z (an2 Z Z Z Z Z Z Z (an2 Z Z Z Z Z Z Z (an2 Z Z Z Z Z Z Z ?_)))))))))
      refine an Z Z Z Z Z Z Z Z (ap (.bool true) Z Z Z (pu_pick (b := true) Z (tm Z) (fun _ => (AEv.bool _)) (fun h => nomatch h)) (ap (.bool true) Z Z Z (pu_move Z (tm Z)) (an Z Z Z Z Z Z Z Z (an Z Z Z Z Z Z Z Z (an Z Z Z Z Z Z Z Z (an2 Z Z Z Z Z Z Z (an2 Z Z Z Z Z Z Z (an Z Z Z Z Z Z Z Z (an Z Z Z Z Z Z Z Z ?_)))))))))
      refine an2 Z Z Z Z Z Z Z (an2 Z Z Z Z Z Z Z (an Z Z Z Z Z Z Z Z (ap (.bool true) Z Z Z (pu_pick (b := true) Z (tm Z) (fun _ => (AEv.bool _)) (fun h => nomatch h)) (aops_nil ?_))))
      obtain rfl := some_of h
      exact ⟨(), Weak.mkL [1, 2, 0] (by decide) ⟨⟨_, Z, (CellsLe.refl _), Z⟩, ⟨_, Z, (CellsLe.refl _), Z⟩, ⟨_, Z, (CellsLe.refl _), Z⟩, trivial⟩ ⟨AEv.tmp Z, AEv.tmp Z, AEv.tmp Z, AEv.tmp Z, AEv.tmp Z, AEv.tmp Z, AEv.tmp Z, AEv.tmp Z, AEv.tmp Z, AEv.tmp Z, AEv.tmp Z, AEv.tmp Z, AEv.tmp Z, trivial⟩⟩
     ·replace h := ite_t (ndec_f hb720) h
      refine aops_known 51 Z hb720 (agp (.int .i64 r700.2.2.2) Z Z Z Z Z Z Z (pu_move Z (tm Z)) (agp (.int .i64 r703.2.2) Z Z Z Z Z Z Z (pu_move Z (tm Z)) (agp (.bool (!decide (r700.2.2.2 = r703.2.2))) Z Z Z Z Z Z Z (pu_int (v := .bool (!decide (r700.2.2.2 = r703.2.2))) Z Z (tm Z) (tm Z) Z) (ap (.bool (!decide (r700.2.2.2 = r703.2.2))) Z Z Z (pu_pick (b := false) Z (tm Z) (fun h => nomatch h) (fun _ => (tm Z))) (ap (.bool (!decide (r700.2.2.2 = r703.2.2))) Z Z Z (pu_move Z (tm Z)) ?_)))))
      rcases Bool.eq_false_or_eq_true (!decide (r700.2.2.2 = r703.2.2)) with hb721 | hb721
      ·replace h := ite_f (ndec_t hb721) h
       refine aops_known 56 Z hb721 (an Z Z Z Z Z Z Z Z (an Z Z Z Z Z Z Z Z (an Z Z Z Z Z Z Z Z (an2 Z Z Z Z Z Z Z (an2 Z Z Z Z Z Z Z (an Z Z Z Z Z Z Z Z (an Z Z Z Z Z Z Z Z (an2 Z Z Z Z Z Z Z (an2 Z Z Z Z Z Z Z ?_)))))))))
       refine an2 Z Z Z Z Z Z Z (an2 Z Z Z Z Z Z Z (an2 Z Z Z Z Z Z Z (an2 Z Z Z Z Z Z Z (an2 Z Z Z Z Z Z Z (an Z Z Z Z Z Z Z Z (ap (.bool true) Z Z Z (pu_pick (b := true) Z (tm Z) (fun _ => (AEv.bool _)) (fun h => nomatch h)) (ap (.bool true) Z Z Z (pu_move Z (tm Z)) (an Z Z Z Z Z Z Z Z (an Z Z Z Z Z Z Z Z ?_)))))))))
       refine an Z Z Z Z Z Z Z Z (an2 Z Z Z Z Z Z Z (an2 Z Z Z Z Z Z Z (an Z Z Z Z Z Z Z Z (an Z Z Z Z Z Z Z Z (an2 Z Z Z Z Z Z Z (an2 Z Z Z Z Z Z Z (an Z Z Z Z Z Z Z Z (ap (.bool true) Z Z Z (pu_pick (b := true) Z (tm Z) (fun _ => (AEv.bool _)) (fun h => nomatch h)) (aops_nil ?_)))))))))
       obtain rfl := some_of h
       exact ⟨(), Weak.mkL [1, 2, 0] (by decide) ⟨⟨_, Z, (CellsLe.refl _), Z⟩, ⟨_, Z, (CellsLe.refl _), Z⟩, ⟨_, Z, (CellsLe.refl _), Z⟩, trivial⟩ ⟨AEv.tmp Z, AEv.tmp Z, AEv.tmp Z, AEv.tmp Z, AEv.tmp Z, AEv.tmp Z, AEv.tmp Z, AEv.tmp Z, AEv.tmp Z, AEv.tmp Z, AEv.tmp Z, AEv.tmp Z, AEv.tmp Z, trivial⟩⟩
      ·replace h := ite_t (ndec_f hb721) h
       refine aops_known 56 Z hb721 (agp (.int .i64 r700.2.2.2) Z Z Z Z Z Z Z (pu_move Z (tm Z)) (agp (.bool (!decide (r700.2.2.2 = 0))) Z Z Z Z Z Z Z (pu_int (v := .bool (!decide (r700.2.2.2 = 0))) Z Z (tm Z) (AEv.int _ _) Z) (agp (.bool (!decide (r700.2.2.2 = 0))) Z Z Z Z Z Z Z (pu_move Z (tm Z)) ?_)))
       rcases Bool.eq_false_or_eq_true (!decide (r700.2.2.2 = 0)) with hb722 | hb722
       ·replace h := ite_f (ndec_t hb722) h
        refine aops_known 59 Z hb722 (agp (.int .i64 r700.2.2.2) Z Z Z Z Z Z Z (pu_move Z (tm Z)) (agp (.bool (!decide (r700.2.2.2 = 4))) Z Z Z Z Z Z Z (pu_int (v := .bool (!decide (r700.2.2.2 = 4))) Z Z (tm Z) (AEv.int _ _) Z) (agp (.bool (!decide (r700.2.2.2 = 4))) Z Z Z Z Z Z Z (pu_pick (b := true) Z (tm Z) (fun _ => (tm Z)) (fun h => nomatch h)) (agp (.bool (!decide (r700.2.2.2 = 4))) Z Z Z Z Z Z Z (pu_move Z (tm Z)) ?_))))
        rcases Bool.eq_false_or_eq_true (!decide (r700.2.2.2 = 4)) with hb723 | hb723
        ·replace h := ite_f (ndec_t hb723) h
         refine aops_known 63 Z hb723 (agp (.str r700.2.1) Z Z Z Z Z Z Z (pu_move Z (tm Z)) (agp (.str s695.all_) Z Z Z Z Z Z Z (pu_move Z (tm Z)) (agp (.str (ix pieces s695.t25)) Z Z Z Z Z Z Z (pu_move Z (tm Z)) ?_)))
         obtain ⟨c724, h⟩ := need_of h
         refine agp (.str (s695.all_ ++ (ix pieces s695.t25))) Z Z Z Z Z Z Z (pu_strAdd Z (tm Z) (tm Z) c724) (agp (.int .i64 r703.1) Z Z Z Z Z Z Z (pu_move Z (tm Z)) ?_)
         obtain ⟨c725, h⟩ := need_of h
         refine agp (.str (sub (s695.all_ ++ (ix pieces s695.t25)) r703.1 ((s695.all_ ++ (ix pieces s695.t25)).length : Int))) Z Z Z Z Z Z Z (pu_strSliceM Z underlying9 (tm Z) ⟨_, (tm Z)⟩ Z c725) (agp (.bool (!decide (r700.2.1 = (sub (s695.all_ ++ (ix pieces s695.t25)) r703.1 ((s695.all_ ++ (ix pieces s695.t25)).length : Int))))) Z Z Z Z Z Z Z (pu_str (v := .bool (!decide (r700.2.1 = (sub (s695.all_ ++ (ix pieces s695.t25)) r703.1 ((s695.all_ ++ (ix pieces s695.t25)).length : Int))))) Z Z (tm Z) (tm Z) Z) (agp (.bool (!decide (r700.2.1 = (sub (s695.all_ ++ (ix pieces s695.t25)) r703.1 ((s695.all_ ++ (ix pieces s695.t25)).length : Int))))) Z Z Z Z Z Z Z (pu_pick (b := true) Z (tm Z) (fun _ => (tm Z)) (fun h => nomatch h)) (ap (.bool (!decide (r700.2.1 = (sub (s695.all_ ++ (ix pieces s695.t25)) r703.1 ((s695.all_ ++ (ix pieces s695.t25)).length : Int))))) Z Z Z (pu_pick (b := false) Z (tm Z) (fun h => nomatch h) (fun _ => (tm Z))) (ap (.bool (!decide (r700.2.1 = (sub (s695.all_ ++ (ix pieces s695.t25)) r703.1 ((s695.all_ ++ (ix pieces s695.t25)).length : Int))))) Z Z Z (pu_move Z (tm Z)) ?_))))
         rcases Bool.eq_false_or_eq_true (!decide (r700.2.1 = (sub (s695.all_ ++ (ix pieces s695.t25)) r703.1 ((s695.all_ ++ (ix pieces s695.t25)).length : Int)))) with hb726 | hb726
         ·replace h := ite_f (ndec_t hb726) h
          refine aops_known 73 Z hb726 (an Z Z Z Z Z Z Z Z (an Z Z Z Z Z Z Z Z (an Z Z Z Z Z Z Z Z (an2 Z Z Z Z Z Z Z (an2 Z Z Z Z Z Z Z (an Z Z Z Z Z Z Z Z (an Z Z Z Z Z Z Z Z (an2 Z Z Z Z Z Z Z (an2 Z Z Z Z Z Z Z ?_)))))))))
          refine an Z Z Z Z Z Z Z Z (ap (.bool true) Z Z Z (pu_pick (b := true) Z (tm Z) (fun _ => (AEv.bool _)) (fun h => nomatch h)) (aops_nil ?_))
          obtain rfl := some_of h
          exact ⟨(), Weak.mkL [1, 2, 0] (by decide) ⟨⟨_, Z, (CellsLe.refl _), Z⟩, ⟨_, Z, (CellsLe.refl _), Z⟩, ⟨_, Z, (CellsLe.refl _), Z⟩, trivial⟩ ⟨AEv.tmp Z, AEv.tmp Z, AEv.tmp Z, AEv.tmp Z, AEv.tmp Z, AEv.tmp Z, AEv.tmp Z, AEv.tmp Z, AEv.tmp Z, AEv.tmp Z, AEv.tmp Z, AEv.tmp Z, AEv.tmp Z, trivial⟩⟩
         ·replace h := ite_t (ndec_f hb726) h
          refine aops_known 73 Z hb726 (agp (.int .i64 r700.2.2.2) Z Z Z Z Z Z Z (pu_move Z (tm Z)) (agp (.bool (decide (r700.2.2.2 = 0))) Z Z Z Z Z Z Z (pu_int (v := .bool (decide (r700.2.2.2 = 0))) Z Z (tm Z) (AEv.int _ _) Z) (agp (.bool (decide (r700.2.2.2 = 0))) Z Z Z Z Z Z Z (pu_move Z (tm Z)) ?_)))
          rcases Bool.eq_false_or_eq_true (decide (r700.2.2.2 = 0)) with hb727 | hb727
          ·replace h := ite_t (dec_t hb727) h
           refine aops_known 76 Z hb727 (an Z Z Z Z Z Z Z Z (an Z Z Z Z Z Z Z Z (agp (.bool true) Z Z Z Z Z Z Z (pu_pick (b := true) Z (tm Z) (fun _ => (AEv.bool _)) (fun h => nomatch h)) (agp (.bool true) Z Z Z Z Z Z Z (pu_move Z (tm Z)) (agp (.str r700.2.1) Z Z Z Z Z Z Z (pu_move Z (tm Z)) (agp (.bool (!decide (r700.2.1 = ([] : List UInt8)))) Z Z Z Z Z Z Z (pu_str (v := .bool (!decide (r700.2.1 = ([] : List UInt8)))) Z Z (tm Z) (AEv.const Z) Z) (agp (.bool (!decide (r700.2.1 = ([] : List UInt8)))) Z Z Z Z Z Z Z (pu_pick (b := true) Z (tm Z) (fun _ => (tm Z)) (fun h => nomatch h)) (ap (.bool (!decide (r700.2.1 = ([] : List UInt8)))) Z Z Z (pu_pick (b := false) Z (tm Z) (fun h => nomatch h) (fun _ => (tm Z))) (aops_nil ?_)))))))))
           obtain rfl := some_of h
           exact ⟨(), Weak.mkL [1, 2, 0] (by decide) ⟨⟨_, Z, (CellsLe.refl _), Z⟩, ⟨_, Z, (CellsLe.refl _), Z⟩, ⟨_, Z, (CellsLe.refl _), Z⟩, trivial⟩ ⟨AEv.tmp Z, AEv.tmp Z, AEv.tmp Z, AEv.tmp Z, AEv.tmp Z, AEv.tmp Z, AEv.tmp Z, AEv.tmp Z, AEv.tmp Z, AEv.tmp Z, AEv.tmp Z, AEv.tmp Z, AEv.tmp Z, trivial⟩⟩
          ·replace h := ite_f (dec_f hb727) h
           refine aops_known 76 Z hb727 (agp (.int .i64 r700.2.2.2) Z Z Z Z Z Z Z (pu_move Z (tm Z)) (agp (.bool (decide (r700.2.2.2 = 4))) Z Z Z Z Z Z Z (pu_int (v := .bool (decide (r700.2.2.2 = 4))) Z Z (tm Z) (AEv.int _ _) Z) (agp (.bool (decide (r700.2.2.2 = 4))) Z Z Z Z Z Z Z (pu_pick (b := false) Z (tm Z) (fun h => nomatch h) (fun _ => (tm Z))) (agp (.bool (decide (r700.2.2.2 = 4))) Z Z Z Z Z Z Z (pu_move Z (tm Z)) ?_))))
           rcases Bool.eq_false_or_eq_true (decide (r700.2.2.2 = 4)) with hb728 | hb728
           ·replace h := ite_t (dec_t hb728) h
            refine aops_known 80 Z hb728 (agp (.str r700.2.1) Z Z Z Z Z Z Z (pu_move Z (tm Z)) (agp (.bool (!decide (r700.2.1 = ([] : List UInt8)))) Z Z Z Z Z Z Z (pu_str (v := .bool (!decide (r700.2.1 = ([] : List UInt8)))) Z Z (tm Z) (AEv.const Z) Z) (agp (.bool (!decide (r700.2.1 = ([] : List UInt8)))) Z Z Z Z Z Z Z (pu_pick (b := true) Z (tm Z) (fun _ => (tm Z)) (fun h => nomatch h)) (ap (.bool (!decide (r700.2.1 = ([] : List UInt8)))) Z Z Z (pu_pick (b := false) Z (tm Z) (fun h => nomatch h) (fun _ => (tm Z))) (aops_nil ?_)))))
            obtain rfl := some_of h
            exact ⟨(), Weak.mkL [1, 2, 0] (by decide) ⟨⟨_, Z, (CellsLe.refl _), Z⟩, ⟨_, Z, (CellsLe.refl _), Z⟩, ⟨_, Z, (CellsLe.refl _), Z⟩, trivial⟩ ⟨AEv.tmp Z, AEv.tmp Z, AEv.tmp Z, AEv.tmp Z, AEv.tmp Z, AEv.tmp Z, AEv.tmp Z, AEv.tmp Z, AEv.tmp Z, AEv.tmp Z, AEv.tmp Z, AEv.tmp Z, AEv.tmp Z, trivial⟩⟩
           ·replace h := ite_f (dec_f hb728) h
            refine aops_known 80 Z hb728 (an Z Z Z Z Z Z Z Z (an Z Z Z Z Z Z Z Z (agp (.bool false) Z Z Z Z Z Z Z (pu_pick (b := false) Z (tm Z) (fun h => nomatch h) (fun _ => (AEv.bool _))) (ap (.bool false) Z Z Z (pu_pick (b := false) Z (tm Z) (fun h => nomatch h) (fun _ => (tm Z))) (aops_nil ?_)))))
            obtain rfl := some_of h
            exact ⟨(), Weak.mkL [1, 2, 0] (by decide) ⟨⟨_, Z, (CellsLe.refl _), Z⟩, ⟨_, Z, (CellsLe.refl _), Z⟩, ⟨_, Z, (CellsLe.refl _), Z⟩, trivial⟩ ⟨AEv.tmp Z, AEv.tmp Z, AEv.tmp Z, AEv.tmp Z, AEv.tmp Z, AEv.tmp Z, AEv.tmp Z, AEv.tmp Z, AEv.tmp Z, AEv.tmp Z, AEv.tmp Z, AEv.tmp Z, AEv.tmp Z, trivial⟩⟩
        ·replace h := ite_t (ndec_f hb723) h
         refine aops_known 63 Z hb723 (an Z Z Z Z Z Z Z Z (an Z Z Z Z Z Z Z Z (an Z Z Z Z Z Z Z Z (an Z Z Z Z Z Z Z Z (an Z Z Z Z Z Z Z Z (an Z Z Z Z Z Z Z Z (an Z Z Z Z Z Z Z Z (agp (.bool false) Z Z Z Z Z Z Z (pu_pick (b := false) Z (tm Z) (fun h => nomatch h) (fun _ => (AEv.bool _))) (ap (.bool false) Z Z Z (pu_pick (b := false) Z (tm Z) (fun h => nomatch h) (fun _ => (tm Z))) ?_)))))))))
         refine ap (.bool false) Z Z Z (pu_move Z (tm Z)) (agp (.int .i64 r700.2.2.2) Z Z Z Z Z Z Z (pu_move Z (tm Z)) (agp (.bool (decide (r700.2.2.2 = 0))) Z Z Z Z Z Z Z (pu_int (v := .bool (decide (r700.2.2.2 = 0))) Z Z (tm Z) (AEv.int _ _) Z) (agp (.bool (decide (r700.2.2.2 = 0))) Z Z Z Z Z Z Z (pu_move Z (tm Z)) ?_)))
         rcases Bool.eq_false_or_eq_true (decide (r700.2.2.2 = 0)) with hb729 | hb729
         ·replace h := ite_t (dec_t hb729) h
          refine aops_known 76 Z hb729 (an Z Z Z Z Z Z Z Z (an Z Z Z Z Z Z Z Z (agp (.bool true) Z Z Z Z Z Z Z (pu_pick (b := true) Z (tm Z) (fun _ => (AEv.bool _)) (fun h => nomatch h)) (agp (.bool true) Z Z Z Z Z Z Z (pu_move Z (tm Z)) (agp (.str r700.2.1) Z Z Z Z Z Z Z (pu_move Z (tm Z)) (agp (.bool (!decide (r700.2.1 = ([] : List UInt8)))) Z Z Z Z Z Z Z (pu_str (v := .bool (!decide (r700.2.1 = ([] : List UInt8)))) Z Z (tm Z) (AEv.const Z) Z) (agp (.bool (!decide (r700.2.1 = ([] : List UInt8)))) Z Z Z Z Z Z Z (pu_pick (b := true) Z (tm Z) (fun _ => (tm Z)) (fun h => nomatch h)) (ap (.bool (!decide (r700.2.1 = ([] : List UInt8)))) Z Z Z (pu_pick (b := false) Z (tm Z) (fun h => nomatch h) (fun _ => (tm Z))) (aops_nil ?_)))))))))
          obtain rfl := some_of h
          exact ⟨(), Weak.mkL [1, 2, 0] (by decide) ⟨⟨_, Z, (CellsLe.refl _), Z⟩, ⟨_, Z, (CellsLe.refl _), Z⟩, ⟨_, Z, (CellsLe.refl _), Z⟩, trivial⟩ ⟨AEv.tmp Z, AEv.tmp Z, AEv.tmp Z, AEv.tmp Z, AEv.tmp Z, AEv.tmp Z, AEv.tmp Z, AEv.tmp Z, AEv.tmp Z, AEv.tmp Z, AEv.tmp Z, AEv.tmp Z, AEv.tmp Z, trivial⟩⟩
         ·replace h := ite_f (dec_f hb729) h
          refine aops_known 76 Z hb729 (agp (.int .i64 r700.2.2.2) Z Z Z Z Z Z Z (pu_move Z (tm Z)) (agp (.bool (decide (r700.2.2.2 = 4))) Z Z Z Z Z Z Z (pu_int (v := .bool (decide (r700.2.2.2 = 4))) Z Z (tm Z) (AEv.int _ _) Z) (agp (.bool (decide (r700.2.2.2 = 4))) Z Z Z Z Z Z Z (pu_pick (b := false) Z (tm Z) (fun h => nomatch h) (fun _ => (tm Z))) (agp (.bool (decide (r700.2.2.2 = 4))) Z Z Z Z Z Z Z (pu_move Z (tm Z)) ?_))))
          rcases Bool.eq_false_or_eq_true (decide (r700.2.2.2 = 4)) with hb730 | hb730
          ·replace h := ite_t (dec_t hb730) h
           refine aops_known 80 Z hb730 (agp (.str r700.2.1) Z Z Z Z Z Z Z (pu_move Z (tm Z)) (agp (.bool (!decide (r700.2.1 = ([] : List UInt8)))) Z Z Z Z Z Z Z (pu_str (v := .bool (!decide (r700.2.1 = ([] : List UInt8)))) Z Z (tm Z) (AEv.const Z) Z) (agp (.bool (!decide (r700.2.1 = ([] : List UInt8)))) Z Z Z Z Z Z Z (pu_pick (b := true) Z (tm Z) (fun _ => (tm Z)) (fun h => nomatch h)) (ap (.bool (!decide (r700.2.1 = ([] : List UInt8)))) Z Z Z (pu_pick (b := false) Z (tm Z) (fun h => nomatch h) (fun _ => (tm Z))) (aops_nil ?_)))))
           obtain rfl := some_of h
           exact ⟨(), Weak.mkL [1, 2, 0] (by decide) ⟨⟨_, Z, (CellsLe.refl _), Z⟩, ⟨_, Z, (CellsLe.refl _), Z⟩, ⟨_, Z, (CellsLe.refl _), Z⟩, trivial⟩ ⟨AEv.tmp Z, AEv.tmp Z, AEv.tmp Z, AEv.tmp Z, AEv.tmp Z, AEv.tmp Z, AEv.tmp Z, AEv.tmp Z, AEv.tmp Z, AEv.tmp Z, AEv.tmp Z, AEv.tmp Z, AEv.tmp Z, trivial⟩⟩
          ·replace h := ite_f (dec_f hb730) h
           refine aops_known 80 Z hb730 (an Z Z Z Z Z Z Z Z (an Z Z Z Z Z Z Z Z (agp (.bool false) Z Z Z Z Z Z Z (pu_pick (b := false) Z (tm Z) (fun h => nomatch h) (fun _ => (AEv.bool _))) (ap (.bool false) Z Z Z (pu_pick (b := false) Z (tm Z) (fun h => nomatch h) (fun _ => (tm Z))) (aops_nil ?_)))))
           obtain rfl := some_of h
           exact ⟨(), Weak.mkL [1, 2, 0] (by decide) ⟨⟨_, Z, (CellsLe.refl _), Z⟩, ⟨_, Z, (CellsLe.refl _), Z⟩, ⟨_, Z, (CellsLe.refl _), Z⟩, trivial⟩ ⟨AEv.tmp Z, AEv.tmp Z, AEv.tmp Z, AEv.tmp Z, AEv.tmp Z, AEv.tmp Z, AEv.tmp Z, AEv.tmp Z, AEv.tmp Z, AEv.tmp Z, AEv.tmp Z, AEv.tmp Z, AEv.tmp Z, trivial⟩⟩
       ·replace h := ite_t (ndec_f hb722) h
        refine aops_known 59 Z hb722 (an Z Z Z Z Z Z Z Z (an Z Z Z Z Z Z Z Z (agp (.bool false) Z Z Z Z Z Z Z (pu_pick (b := false) Z (tm Z) (fun h => nomatch h) (fun _ => (AEv.bool _))) (agp (.bool false) Z Z Z Z Z Z Z (pu_move Z (tm Z)) (an Z Z Z Z Z Z Z Z (an Z Z Z Z Z Z Z Z (an Z Z Z Z Z Z Z Z (an Z Z Z Z Z Z Z Z (an Z Z Z Z Z Z Z Z ?_)))))))))
        refine an Z Z Z Z Z Z Z Z (an Z Z Z Z Z Z Z Z (agp (.bool false) Z Z Z Z Z Z Z (pu_pick (b := false) Z (tm Z) (fun h => nomatch h) (fun _ => (AEv.bool _))) (ap (.bool false) Z Z Z (pu_pick (b := false) Z (tm Z) (fun h => nomatch h) (fun _ => (tm Z))) (ap (.bool false) Z Z Z (pu_move Z (tm Z)) (agp (.int .i64 r700.2.2.2) Z Z Z Z Z Z Z (pu_move Z (tm Z)) (agp (.bool (decide (r700.2.2.2 = 0))) Z Z Z Z Z Z Z (pu_int (v := .bool (decide (r700.2.2.2 = 0))) Z Z (tm Z) (AEv.int _ _) Z) (agp (.bool (decide (r700.2.2.2 = 0))) Z Z Z Z Z Z Z (pu_move Z (tm Z)) ?_)))))))
        rcases Bool.eq_false_or_eq_true (decide (r700.2.2.2 = 0)) with hb731 | hb731
        ·replace h := ite_t (dec_t hb731) h
         refine aops_known 76 Z hb731 (an Z Z Z Z Z Z Z Z (an Z Z Z Z Z Z Z Z (agp (.bool true) Z Z Z Z Z Z Z (pu_pick (b := true) Z (tm Z) (fun _ => (AEv.bool _)) (fun h => nomatch h)) (agp (.bool true) Z Z Z Z Z Z Z (pu_move Z (tm Z)) (agp (.str r700.2.1) Z Z Z Z Z Z Z (pu_move Z (tm Z)) (agp (.bool (!decide (r700.2.1 = ([] : List UInt8)))) Z Z Z Z Z Z Z (pu_str (v := .bool (!decide (r700.2.1 = ([] : List UInt8)))) Z Z (tm Z) (AEv.const Z) Z) (agp (.bool (!decide (r700.2.1 = ([] : List UInt8)))) Z Z Z Z Z Z Z (pu_pick (b := true) Z (tm Z) (fun _ => (tm Z)) (fun h => nomatch h)) (ap (.bool (!decide (r700.2.1 = ([] : List UInt8)))) Z Z Z (pu_pick (b := false) Z (tm Z) (fun h => nomatch h) (fun _ => (tm Z))) (aops_nil ?_)))))))))
         obtain rfl := some_of h
         exact ⟨(), Weak.mkL [1, 2, 0] (by decide) ⟨⟨_, Z, (CellsLe.refl _), Z⟩, ⟨_, Z, (CellsLe.refl _), Z⟩, ⟨_, Z, (CellsLe.refl _), Z⟩, trivial⟩ ⟨AEv.tmp Z, AEv.tmp Z, AEv.tmp Z, AEv.tmp Z, AEv.tmp Z, AEv.tmp Z, AEv.tmp Z, AEv.tmp Z, AEv.tmp Z, AEv.tmp Z, AEv.tmp Z, AEv.tmp Z, AEv.tmp Z, trivial⟩⟩
        ·replace h := ite_f (dec_f hb731) h
         refine aops_known 76 Z hb731 (agp (.int .i64 r700.2.2.2) Z Z Z Z Z Z Z (pu_move Z (tm Z)) (agp (.bool (decide (r700.2.2.2 = 4))) Z Z Z Z Z Z Z (pu_int (v := .bool (decide (r700.2.2.2 = 4))) Z Z (tm Z) (AEv.int _ _) Z) (agp (.bool (decide (r700.2.2.2 = 4))) Z Z Z Z Z Z Z (pu_pick (b := false) Z (tm Z) (fun h => nomatch h) (fun _ => (tm Z))) (agp (.bool (decide (r700.2.2.2 = 4))) Z Z Z Z Z Z Z (pu_move Z (tm Z)) ?_))))
         rcases Bool.eq_false_or_eq_true (decide (r700.2.2.2 = 4)) with hb732 | hb732
         ·replace h := ite_t (dec_t hb732) h
          refine aops_known 80 Z hb732 (agp (.str r700.2.1) Z Z Z Z Z Z Z (pu_move Z (tm Z)) (agp (.bool (!decide (r700.2.1 = ([] : List UInt8)))) Z Z Z Z Z Z Z (pu_str (v := .bool (!decide (r700.2.1 = ([] : List UInt8)))) Z Z (tm Z) (AEv.const Z) Z) (agp (.bool (!decide (r700.2.1 = ([] : List UInt8)))) Z Z Z Z Z Z Z (pu_pick (b := true) Z (tm Z) (fun _ => (tm Z)) (fun h => nomatch h)) (ap (.bool (!decide (r700.2.1 = ([] : List UInt8)))) Z Z Z (pu_pick (b := false) Z (tm Z) (fun h => nomatch h) (fun _ => (tm Z))) (aops_nil ?_)))))
          obtain rfl := some_of h
          exact ⟨(), Weak.mkL [1, 2, 0] (by decide) ⟨⟨_, Z, (CellsLe.refl _), Z⟩, ⟨_, Z, (CellsLe.refl _), Z⟩, ⟨_, Z, (CellsLe.refl _), Z⟩, trivial⟩ ⟨AEv.tmp Z, AEv.tmp Z, AEv.tmp Z, AEv.tmp Z, AEv.tmp Z, AEv.tmp Z, AEv.tmp Z, AEv.tmp Z, AEv.tmp Z, AEv.tmp Z, AEv.tmp Z, AEv.tmp Z, AEv.tmp Z, trivial⟩⟩
         ·replace h := ite_f (dec_f hb732) h
          refine aops_known 80 Z hb732 (an Z Z Z Z Z Z Z Z (an Z Z Z Z Z Z Z Z (agp (.bool false) Z Z Z Z Z Z Z (pu_pick (b := false) Z (tm Z) (fun h => nomatch h) (fun _ => (AEv.bool _))) (ap (.bool false) Z Z Z (pu_pick (b := false) Z (tm Z) (fun h => nomatch h) (fun _ => (tm Z))) (aops_nil ?_)))))
          obtain rfl := some_of h
          exact ⟨(), Weak.mkL [1, 2, 0] (by decide) ⟨⟨_, Z, (CellsLe.refl _), Z⟩, ⟨_, Z, (CellsLe.refl _), Z⟩, ⟨_, Z, (CellsLe.refl _), Z⟩, trivial⟩ ⟨AEv.tmp Z, AEv.tmp Z, AEv.tmp Z, AEv.tmp Z, AEv.tmp Z, AEv.tmp Z, AEv.tmp Z, AEv.tmp Z, AEv.tmp Z, AEv.tmp Z, AEv.tmp Z, AEv.tmp Z, AEv.tmp Z, trivial⟩⟩
    ·intro _
     have h := h718
     refine aw_cond (b := s717) (tm Z) (fun hb756 => ?_) (fun hb756 => ?_)
     ·replace h := ite_t hb756 h
      refine aw_seq (aw_region (ap (.bool false) Z Z Z (pu_assign Z (AEv.bool _)) (aops_nil (aw_ret ?_))))
      obtain rfl := some_of h
      have h := congrArg some (hx696 _ rfl)
      obtain rfl := some_of h
      have h := onSum_inr h573
      obtain rfl := some_of h
      exact ⟨[.bool false], _, [], ⟨(tm Z), trivial⟩, (AV.Le.refl _), Weak.mkL [] (by decide) trivial trivial, ⟨Z, Z⟩⟩
     ·replace h := ite_fb hb756 h
      refine aw_skip (aw_seq (aw_seq (aw_region (ap (.int .i64 r700.2.2.2) Z Z Z (pu_move Z (tm Z)) (ap (.bool (!decide (r700.2.2.2 = 0))) Z Z Z (pu_int (v := .bool (!decide (r700.2.2.2 = 0))) Z Z (tm Z) (AEv.int _ _) Z) (aops_nil (aw_cond (b := (!decide (r700.2.2.2 = 0))) (tm Z) (fun hb755 => ?_) (fun hb755 => ?_))))))))
      ·replace h := ite_f (ndec_t hb755) h
       obtain ⟨s739, s739e, h740⟩ := bind_some h
       refine aw_meet (ν := Unit) (fun v => [(4, .bool s739)]) (fun v => []) ?_ ?_
       ·have h := s739e
        obtain ⟨r742, r742e, h⟩ := bind_some h
        rcases Bool.eq_false_or_eq_true (decide (r742 = r700.2.2.1)) with hb743 | hb743
        ·replace h := ite_t (dec_t hb743) h
         obtain ⟨c744, h⟩ := need_of h
         obtain ⟨r745, r745e, h⟩ := bind_some h
         rcases Bool.eq_false_or_eq_true (decide (r745 = r700.2.2.1)) with hb746 | hb746
         ·replace h := ite_t (dec_t hb746) h
          obtain ⟨r747, r747e, h⟩ := bind_some h
          refine aw_plan (by decide +kernel) [([], some 87, [2]), ([], some 88, [1]), ([0, 1], some 89, [87, 88]), ([], some 90, [11]), ([2, 3], some 91, [89, 90]), ([4, 2], some 92, [91]), ([5], some 93, [2, 92]), ([5], some 94, [1, 92]), ([5], some 95, [7, 92]), ([8, 5], some 96, [95, 92]), ([7, 9, 5], some 97, [94, 96, 92]), ([6, 10, 5, 5], some 98, [93, 97, 92]), ([5], some 99, [11, 92]), ([11, 12, 5], some 100, [98, 99, 92]), ([5, 13], some 101, [92, 100]), ([14, 11], some 102, [101]), ([15, 15], some 103, [102]), ([15, 16], some 104, [102, 103]), ([17, 16, 0, 1, 2, 3, 4, 5, 6, 7, 8, 9, 10, 11, 12, 13, 14, 15, 16, 17], some 4, [104])] Z [[], [], [0, 1], [], [0, 1, 2, 3], [0, 1, 2, 3, 4], [0, 1, 2, 3, 4, 5], [0, 1, 2, 3, 4, 5], [0, 1, 2, 3, 4, 5], [0, 1, 2, 3, 4, 5, 8], [0, 1, 2, 3, 4, 5, 7, 8, 9], [0, 1, 2, 3, 4, 5, 6, 7, 8, 9, 10], [0, 1, 2, 3, 4, 5], [0, 1, 2, 3, 4, 5, 6, 7, 8, 9, 10, 11, 12], [0, 1, 2, 3, 4, 5, 6, 7, 8, 9, 10, 11, 12, 13], [0, 1, 2, 3, 4, 5, 6, 7, 8, 9, 10, 11, 12, 13, 14], [0, 1, 2, 3, 4, 5, 6, 7, 8, 9, 10, 11, 12, 13, 14, 15], [0, 1, 2, 3, 4, 5, 6, 7, 8, 9, 10, 11, 12, 13, 14, 15, 16], [0, 1, 2, 3, 4, 5, 6, 7, 8, 9, 10, 11, 12, 13, 14, 15, 16, 17]] [[(0, 0, false)], [], [], [], [], [], [(0, 0, false)], [], [], [], [], [], [], [], [], [], [], [], []] [[], [], []] [[[(p385, .cells [.sl .no 14 (c_.Tenants.map api.Tenant.av), .int .i64 c_.Quantum, .int .i64 c_.Deadline])]], [[(p388, .cells [.str s695.c, .sl .no 1 (s695.c2.map AV.str), .int .i64 s695.c3, .int .i64 s695.c4, .bool s695.c5, .int .i64 s695.c6, .int .i64 s695.c7])]], [[(p701, .cells (api.Input.ct .no r700.1))]]] [.agg [.sl .no 14 (c_.Tenants.map api.Tenant.av), .int .i64 c_.Quantum, .int .i64 c_.Deadline], .sl .no 1 (pieces.map AV.str), .int .i64 r742, .int .i64 r700.2.2.1, .bool (decide (r742 = r700.2.2.1)), .bool true, .agg [.sl .no 14 (c_.Tenants.map api.Tenant.av), .int .i64 c_.Quantum, .int .i64 c_.Deadline], .sl .no 1 (pieces.map AV.str), .int .i64 s695.t25, .int .i64 (IntKind.wrap .i64 (s695.t25 + 1)), .sl .no 1 ((sub pieces 0 (IntKind.wrap .i64 (s695.t25 + 1))).map AV.str), .int .i64 r745, .int .i64 r700.2.2.1, .bool (decide (r745 = r700.2.2.1)), .bool (decide (r745 = r700.2.2.1)), .bool true, .bool r747, .bool r747, .bool r747] (by decide +kernel) Z Z ?_ ?_
          ·refine ⟨⟨[2], Z, stepg_plain Z (op_loadN (i := 0) Z isAgg78 sizeOf78 (tm Z) Z (Nat.le_of_ble_eq_true Z) Z ⟨Z, Z⟩)⟩, ?_⟩
           refine ⟨⟨[1], Z, stepg_pure Z (pu_move Z (tm Z))⟩, ?_⟩
           refine ⟨⟨[87, 88], Z, stepg_plain Z (op_call (vs := [.agg [.sl .no 14 (c_.Tenants.map api.Tenant.av), .int .i64 c_.Quantum, .int .i64 c_.Deadline], .sl .no 1 (pieces.map AV.str)]) (H := []) Z call49 ⟨(tm Z), (tm Z), trivial⟩ (R := []) (List.Perm.refl _) (auth.Label.ok r742e) (by rintro _ _ ⟨rfl, rfl⟩; exact ⟨Z, Z⟩))⟩, ?_⟩
           refine ⟨⟨[11], Z, stepg_pure Z (pu_move Z (tm Z))⟩, ?_⟩
           refine ⟨⟨[89, 90], Z, stepg_pure Z (pu_int (v := .bool (decide (r742 = r700.2.2.1))) Z Z (tm Z) (tm Z) Z)⟩, ?_⟩
           refine ⟨⟨[91], Z, (stepg_pure Z (pu_move Z (tm Z))).cast (congrArg AV.bool hb743)⟩, ?_⟩
           refine ⟨⟨[2, 92], Z, stepg_guard Z Z Z (by decide) Z (op_loadN (i := 0) Z isAgg78 sizeOf78 (tm Z) Z (Nat.le_of_ble_eq_true Z) Z ⟨Z, Z⟩)⟩, ?_⟩
           refine ⟨⟨[1, 92], Z, stepg_guardP Z Z Z (by decide) Z (pu_move Z (tm Z))⟩, ?_⟩
           refine ⟨⟨[7, 92], Z, stepg_guardP Z Z Z (by decide) Z (pu_move Z (tm Z))⟩, ?_⟩
           refine ⟨⟨[92, 95], Z, stepg_guardP Z Z Z (by decide) Z (pu_int (v := .int .i64 (IntKind.wrap .i64 (s695.t25 + 1))) Z Z (tm Z) (AEv.int _ _) Z)⟩, ?_⟩
           refine ⟨⟨[92, 94, 96], Z, stepg_guardP Z Z Z (by decide) Z (pu_sliceM Z underlying26 sizeOf9 (tm Z) Z ⟨_, (tm Z)⟩ c744)⟩, ?_⟩
           refine ⟨⟨[92, 93, 97], Z, stepg_guard Z Z Z (by decide) Z (op_call (vs := [.agg [.sl .no 14 (c_.Tenants.map api.Tenant.av), .int .i64 c_.Quantum, .int .i64 c_.Deadline], .sl .no 1 ((sub pieces 0 (IntKind.wrap .i64 (s695.t25 + 1))).map AV.str)]) (H := []) Z call49 ⟨(tm Z), (tm Z), trivial⟩ (R := []) (List.Perm.refl _) (auth.Label.ok r745e) (by rintro _ _ ⟨rfl, rfl⟩; exact ⟨Z, Z⟩))⟩, ?_⟩
           refine ⟨⟨[11, 92], Z, stepg_guardP Z Z Z (by decide) Z (pu_move Z (tm Z))⟩, ?_⟩
           refine ⟨⟨[92, 98, 99], Z, stepg_guardP Z Z Z (by decide) Z (pu_int (v := .bool (decide (r745 = r700.2.2.1))) Z Z (tm Z) (tm Z) Z)⟩, ?_⟩
           refine ⟨⟨[92, 100], Z, stepg_pure Z (pu_pick (b := true) Z (tm Z) (fun _ => (tm Z)) (fun h => nomatch h))⟩, ?_⟩
           refine ⟨⟨[101], Z, (stepg_pure Z (pu_move Z (tm Z))).cast (congrArg AV.bool hb746)⟩, ?_⟩
           refine ⟨⟨[102], Z, stepg_guard Z Z Z (by decide) Z (op_call (vs := []) (H := []) Z call42 trivial (R := []) (List.Perm.refl _) (mewslaw42.alive.ok r747e) (by rintro _ _ ⟨rfl, rfl⟩; exact ⟨Z, Z⟩))⟩, ?_⟩
           refine ⟨⟨[102, 103], Z, stepg_pure Z (pu_pick (b := true) Z (tm Z) (fun _ => (tm Z)) (fun h => nomatch h))⟩, ?_⟩
           refine ⟨⟨[104], Z, stepg_pure Z (pu_assign Z (tm Z))⟩, ?_⟩
           trivial
          obtain rfl := some_of h
          exact ⟨(), Weak.mkL [] (by decide) trivial ⟨AEv.tmp Z, trivial⟩⟩
         ·replace h := ite_f (dec_f hb746) h
          refine aw_plan (by decide +kernel) [([], some 87, [2]), ([], some 88, [1]), ([0, 1], some 89, [87, 88]), ([], some 90, [11]), ([2, 3], some 91, [89, 90]), ([4, 2], some 92, [91]), ([5], some 93, [2, 92]), ([5], some 94, [1, 92]), ([5], some 95, [7, 92]), ([8, 5], some 96, [95, 92]), ([7, 9, 5], some 97, [94, 96, 92]), ([6, 10, 5, 5], some 98, [93, 97, 92]), ([5], some 99, [11, 92]), ([11, 12, 5], some 100, [98, 99, 92]), ([5, 13], some 101, [92, 100]), ([14, 11], some 102, [101]), ([15, 15], some 103, [102]), ([15, 16], some 104, [102, 103]), ([17, 16, 0, 1, 2, 3, 4, 5, 6, 7, 8, 9, 10, 11, 12, 13, 14, 15, 16, 17], some 4, [104])] Z [[], [], [0, 1], [], [0, 1, 2, 3], [0, 1, 2, 3, 4], [0, 1, 2, 3, 4, 5], [0, 1, 2, 3, 4, 5], [0, 1, 2, 3, 4, 5], [0, 1, 2, 3, 4, 5, 8], [0, 1, 2, 3, 4, 5, 7, 8, 9], [0, 1, 2, 3, 4, 5, 6, 7, 8, 9, 10], [0, 1, 2, 3, 4, 5], [0, 1, 2, 3, 4, 5, 6, 7, 8, 9, 10, 11, 12], [0, 1, 2, 3, 4, 5, 6, 7, 8, 9, 10, 11, 12, 13], [0, 1, 2, 3, 4, 5, 6, 7, 8, 9, 10, 11, 12, 13, 14], [0, 1, 2, 3, 4, 5, 6, 7, 8, 9, 10, 11, 12, 13, 14, 15], [0, 1, 2, 3, 4, 5, 6, 7, 8, 9, 10, 11, 12, 13, 14, 15, 16], [0, 1, 2, 3, 4, 5, 6, 7, 8, 9, 10, 11, 12, 13, 14, 15, 16, 17]] [[(0, 0, false)], [], [], [], [], [], [(0, 0, false)], [], [], [], [], [], [], [], [], [], [], [], []] [[], [], []] [[[(p385, .cells [.sl .no 14 (c_.Tenants.map api.Tenant.av), .int .i64 c_.Quantum, .int .i64 c_.Deadline])]], [[(p388, .cells [.str s695.c, .sl .no 1 (s695.c2.map AV.str), .int .i64 s695.c3, .int .i64 s695.c4, .bool s695.c5, .int .i64 s695.c6, .int .i64 s695.c7])]], [[(p701, .cells (api.Input.ct .no r700.1))]]] [.agg [.sl .no 14 (c_.Tenants.map api.Tenant.av), .int .i64 c_.Quantum, .int .i64 c_.Deadline], .sl .no 1 (pieces.map AV.str), .int .i64 r742, .int .i64 r700.2.2.1, .bool (decide (r742 = r700.2.2.1)), .bool true, .agg [.sl .no 14 (c_.Tenants.map api.Tenant.av), .int .i64 c_.Quantum, .int .i64 c_.Deadline], .sl .no 1 (pieces.map AV.str), .int .i64 s695.t25, .int .i64 (IntKind.wrap .i64 (s695.t25 + 1)), .sl .no 1 ((sub pieces 0 (IntKind.wrap .i64 (s695.t25 + 1))).map AV.str), .int .i64 r745, .int .i64 r700.2.2.1, .bool (decide (r745 = r700.2.2.1)), .bool (decide (r745 = r700.2.2.1)), .bool false, .lit undef, .bool false, .bool false] (by decide +kernel) Z Z ?_ ?_
          ·refine ⟨⟨[2], Z, stepg_plain Z (op_loadN (i := 0) Z isAgg78 sizeOf78 (tm Z) Z (Nat.le_of_ble_eq_true Z) Z ⟨Z, Z⟩)⟩, ?_⟩
           refine ⟨⟨[1], Z, stepg_pure Z (pu_move Z (tm Z))⟩, ?_⟩
           refine ⟨⟨[87, 88], Z, stepg_plain Z (op_call (vs := [.agg [.sl .no 14 (c_.Tenants.map api.Tenant.av), .int .i64 c_.Quantum, .int .i64 c_.Deadline], .sl .no 1 (pieces.map AV.str)]) (H := []) Z call49 ⟨(tm Z), (tm Z), trivial⟩ (R := []) (List.Perm.refl _) (auth.Label.ok r742e) (by rintro _ _ ⟨rfl, rfl⟩; exact ⟨Z, Z⟩))⟩, ?_⟩
           refine ⟨⟨[11], Z, stepg_pure Z (pu_move Z (tm Z))⟩, ?_⟩
           refine ⟨⟨[89, 90], Z, stepg_pure Z (pu_int (v := .bool (decide (r742 = r700.2.2.1))) Z Z (tm Z) (tm Z) Z)⟩, ?_⟩
           refine ⟨⟨[91], Z, (stepg_pure Z (pu_move Z (tm Z))).cast (congrArg AV.bool hb743)⟩, ?_⟩
           refine ⟨⟨[2, 92], Z, stepg_guard Z Z Z (by decide) Z (op_loadN (i := 0) Z isAgg78 sizeOf78 (tm Z) Z (Nat.le_of_ble_eq_true Z) Z ⟨Z, Z⟩)⟩, ?_⟩
           refine ⟨⟨[1, 92], Z, stepg_guardP Z Z Z (by decide) Z (pu_move Z (tm Z))⟩, ?_⟩
           refine ⟨⟨[7, 92], Z, stepg_guardP Z Z Z (by decide) Z (pu_move Z (tm Z))⟩, ?_⟩
           refine ⟨⟨[92, 95], Z, stepg_guardP Z Z Z (by decide) Z (pu_int (v := .int .i64 (IntKind.wrap .i64 (s695.t25 + 1))) Z Z (tm Z) (AEv.int _ _) Z)⟩, ?_⟩
           refine ⟨⟨[92, 94, 96], Z, stepg_guardP Z Z Z (by decide) Z (pu_sliceM Z underlying26 sizeOf9 (tm Z) Z ⟨_, (tm Z)⟩ c744)⟩, ?_⟩
           refine ⟨⟨[92, 93, 97], Z, stepg_guard Z Z Z (by decide) Z (op_call (vs := [.agg [.sl .no 14 (c_.Tenants.map api.Tenant.av), .int .i64 c_.Quantum, .int .i64 c_.Deadline], .sl .no 1 ((sub pieces 0 (IntKind.wrap .i64 (s695.t25 + 1))).map AV.str)]) (H := []) Z call49 ⟨(tm Z), (tm Z), trivial⟩ (R := []) (List.Perm.refl _) (auth.Label.ok r745e) (by rintro _ _ ⟨rfl, rfl⟩; exact ⟨Z, Z⟩))⟩, ?_⟩
           refine ⟨⟨[11, 92], Z, stepg_guardP Z Z Z (by decide) Z (pu_move Z (tm Z))⟩, ?_⟩
           refine ⟨⟨[92, 98, 99], Z, stepg_guardP Z Z Z (by decide) Z (pu_int (v := .bool (decide (r745 = r700.2.2.1))) Z Z (tm Z) (tm Z) Z)⟩, ?_⟩
           refine ⟨⟨[92, 100], Z, stepg_pure Z (pu_pick (b := true) Z (tm Z) (fun _ => (tm Z)) (fun h => nomatch h))⟩, ?_⟩
           refine ⟨⟨[101], Z, (stepg_pure Z (pu_move Z (tm Z))).cast (congrArg AV.bool hb746)⟩, ?_⟩
           refine ⟨⟨[102], Z, stepg_pass Z Z Z (by decide) Z (by decide)⟩, ?_⟩
           refine ⟨⟨[102, 103], Z, stepg_pure Z (pu_pick (b := false) Z (tm Z) (fun h => nomatch h) (fun _ => (AEv.bool _)))⟩, ?_⟩
           refine ⟨⟨[104], Z, stepg_pure Z (pu_assign Z (tm Z))⟩, ?_⟩
           trivial
          obtain rfl := some_of h
          exact ⟨(), Weak.mkL [] (by decide) trivial ⟨AEv.tmp Z, trivial⟩⟩
        ·replace h := ite_f (dec_f hb743) h
         refine aw_plan (by decide +kernel) [([], some 87, [2]), ([], some 88, [1]), ([0, 1], some 89, [87, 88]), ([], some 90, [11]), ([2, 3], some 91, [89, 90]), ([4, 2], some 92, [91]), ([5], some 93, [2, 92]), ([5], some 94, [1, 92]), ([5], some 95, [7, 92]), ([8, 5], some 96, [95, 92]), ([7, 9, 5], some 97, [94, 96, 92]), ([6, 10, 5, 5], some 98, [93, 97, 92]), ([5], some 99, [11, 92]), ([11, 12, 5], some 100, [98, 99, 92]), ([5, 13], some 101, [92, 100]), ([14, 11], some 102, [101]), ([15, 15], some 103, [102]), ([15, 16], some 104, [102, 103]), ([17, 16, 0, 1, 2, 3, 4, 5, 6, 7, 8, 9, 10, 11, 12, 13, 14, 15, 16, 17], some 4, [104])] Z [[], [], [0, 1], [], [0, 1, 2, 3], [0, 1, 2, 3, 4], [0, 1, 2, 3, 4, 5], [0, 1, 2, 3, 4, 5], [0, 1, 2, 3, 4, 5], [0, 1, 2, 3, 4, 5, 8], [0, 1, 2, 3, 4, 5, 7, 8, 9], [0, 1, 2, 3, 4, 5, 6, 7, 8, 9, 10], [0, 1, 2, 3, 4, 5], [0, 1, 2, 3, 4, 5, 6, 7, 8, 9, 10, 11, 12], [0, 1, 2, 3, 4, 5, 6, 7, 8, 9, 10, 11, 12, 13], [0, 1, 2, 3, 4, 5, 6, 7, 8, 9, 10, 11, 12, 13, 14], [0, 1, 2, 3, 4, 5, 6, 7, 8, 9, 10, 11, 12, 13, 14, 15], [0, 1, 2, 3, 4, 5, 6, 7, 8, 9, 10, 11, 12, 13, 14, 15, 16], [0, 1, 2, 3, 4, 5, 6, 7, 8, 9, 10, 11, 12, 13, 14, 15, 16, 17]] [[(0, 0, false)], [], [], [], [], [], [], [], [], [], [], [], [], [], [], [], [], [], []] [[], [], []] [[[(p385, .cells [.sl .no 14 (c_.Tenants.map api.Tenant.av), .int .i64 c_.Quantum, .int .i64 c_.Deadline])]], [[(p388, .cells [.str s695.c, .sl .no 1 (s695.c2.map AV.str), .int .i64 s695.c3, .int .i64 s695.c4, .bool s695.c5, .int .i64 s695.c6, .int .i64 s695.c7])]], [[(p701, .cells (api.Input.ct .no r700.1))]]] [.agg [.sl .no 14 (c_.Tenants.map api.Tenant.av), .int .i64 c_.Quantum, .int .i64 c_.Deadline], .sl .no 1 (pieces.map AV.str), .int .i64 r742, .int .i64 r700.2.2.1, .bool (decide (r742 = r700.2.2.1)), .bool false, .lit undef, .lit undef, .lit undef, .lit undef, .lit undef, .lit undef, .lit undef, .lit undef, .bool false, .bool false, .lit undef, .bool false, .bool false] (by decide +kernel) Z Z ?_ ?_
         ·refine ⟨⟨[2], Z, stepg_plain Z (op_loadN (i := 0) Z isAgg78 sizeOf78 (tm Z) Z (Nat.le_of_ble_eq_true Z) Z ⟨Z, Z⟩)⟩, ?_⟩
          refine ⟨⟨[1], Z, stepg_pure Z (pu_move Z (tm Z))⟩, ?_⟩
          refine ⟨⟨[87, 88], Z, stepg_plain Z (op_call (vs := [.agg [.sl .no 14 (c_.Tenants.map api.Tenant.av), .int .i64 c_.Quantum, .int .i64 c_.Deadline], .sl .no 1 (pieces.map AV.str)]) (H := []) Z call49 ⟨(tm Z), (tm Z), trivial⟩ (R := []) (List.Perm.refl _) (auth.Label.ok r742e) (by rintro _ _ ⟨rfl, rfl⟩; exact ⟨Z, Z⟩))⟩, ?_⟩
          refine ⟨⟨[11], Z, stepg_pure Z (pu_move Z (tm Z))⟩, ?_⟩
          refine ⟨⟨[89, 90], Z, stepg_pure Z (pu_int (v := .bool (decide (r742 = r700.2.2.1))) Z Z (tm Z) (tm Z) Z)⟩, ?_⟩
          refine ⟨⟨[91], Z, (stepg_pure Z (pu_move Z (tm Z))).cast (congrArg AV.bool hb743)⟩, ?_⟩
          refine ⟨⟨[2, 92], Z, stepg_pass Z Z Z (by decide) Z (by decide)⟩, ?_⟩
          refine ⟨⟨[1, 92], Z, stepg_pass Z Z Z (by decide) Z (by decide)⟩, ?_⟩
          refine ⟨⟨[7, 92], Z, stepg_pass Z Z Z (by decide) Z (by decide)⟩, ?_⟩
          refine ⟨⟨[92, 95], Z, stepg_pass Z Z Z (by decide) Z (by decide)⟩, ?_⟩
          refine ⟨⟨[92, 94, 96], Z, stepg_pass Z Z Z (by decide) Z (by decide)⟩, ?_⟩
          refine ⟨⟨[92, 93, 97], Z, stepg_pass Z Z Z (by decide) Z (by decide)⟩, ?_⟩
          refine ⟨⟨[11, 92], Z, stepg_pass Z Z Z (by decide) Z (by decide)⟩, ?_⟩
          refine ⟨⟨[92, 98, 99], Z, stepg_pass Z Z Z (by decide) Z (by decide)⟩, ?_⟩
          refine ⟨⟨[92, 100], Z, stepg_pure Z (pu_pick (b := false) Z (tm Z) (fun h => nomatch h) (fun _ => (AEv.bool _)))⟩, ?_⟩
          refine ⟨⟨[101], Z, stepg_pure Z (pu_move Z (tm Z))⟩, ?_⟩
          refine ⟨⟨[102], Z, stepg_pass Z Z Z (by decide) Z (by decide)⟩, ?_⟩
          refine ⟨⟨[102, 103], Z, stepg_pure Z (pu_pick (b := false) Z (tm Z) (fun h => nomatch h) (fun _ => (AEv.bool _)))⟩, ?_⟩
          refine ⟨⟨[104], Z, stepg_pure Z (pu_assign Z (tm Z))⟩, ?_⟩
          trivial
         obtain rfl := some_of h
         exact ⟨(), Weak.mkL [] (by decide) trivial ⟨AEv.tmp Z, trivial⟩⟩
       ·intro _
        have h := h740
        refine aw_ret ?_
        obtain rfl := some_of h
        have h := congrArg some (hx696 _ rfl)
        obtain rfl := some_of h
        have h := onSum_inr h573
        obtain rfl := some_of h
        exact ⟨[.bool s739], _, [], ⟨(tm Z), trivial⟩, (AV.Le.refl _), Weak.mkL [] (by decide) trivial trivial, ⟨Z, Z⟩⟩
      ·replace h := ite_t (ndec_f hb755) h
       refine aw_skip (aw_seq (aw_region (ap (.str s695.all_) Z Z Z (pu_move Z (tm Z)) (ap (.str (ix pieces s695.t25)) Z Z Z (pu_move Z (tm Z)) ?_))))
       obtain ⟨c748, h⟩ := need_of h
       refine ap (.str (s695.all_ ++ (ix pieces s695.t25))) Z Z Z (pu_strAdd Z (tm Z) (tm Z) c748) (ap (.agg [.int .i64 16, .int .i64 1024, .int .i64 2048]) Z Z Z (pu_build (zs := [.int .i64 0, .int .i64 0, .int .i64 0]) (szs := [1, 1, 1]) (aparts := [(0, .int .i64 16), (1, .int .i64 1024), (2, .int .i64 2048)]) (cs := [.int .i64 16, .int .i64 1024, .int .i64 2048]) Z underlying23 zeroValue23 Z ⟨sizeOf3, sizeOf3, sizeOf3, trivial⟩ ⟨Z, (AEv.int _ _), ⟨Z, (AEv.int _ _), ⟨Z, (AEv.int _ _), trivial⟩⟩⟩ Z) ?_)
       obtain ⟨r749, r749e, h⟩ := bind_some h
       refine ac Z Z Z (op_call (vs := [.str (s695.all_ ++ (ix pieces s695.t25)), .agg [.int .i64 16, .int .i64 1024, .int .i64 2048]]) (H := []) Z call16 ⟨(tm Z), (tm Z), trivial⟩ (List.Perm.refl _) (mewsref05.All.ok r749e) ?_)
       rintro _ _ ⟨t750, rfl, rfl⟩
       refine ap (.tup [.agg (api.Input.ct .no r749.1), .sl (.own t750) 2 (r749.2.map api.Request.av)]) Z Z Z (pu_move Z (tm Z)) (ap (.agg (api.Input.ct .no r749.1)) Z Z Z (pu_extract Z (tm Z) (Nat.le_of_ble_eq_true Z) Z) (ap (.sl (.own t750) 2 (r749.2.map api.Request.av)) Z Z Z (pu_extract Z (tm Z) (Nat.le_of_ble_eq_true Z) Z) (ac Z Z Z (op_alloc (cs := [.str ([] : List UInt8), .sl .full 1 (([] : List (List UInt8)).map AV.str), .int .i64 0, .int .i64 0, .bool false, .int .i64 0, .int .i64 0]) (v := .agg [.str ([] : List UInt8), .sl .full 1 (([] : List (List UInt8)).map AV.str), .int .i64 0, .int .i64 0, .bool false, .int .i64 0, .int .i64 0]) Z zeroValue29 Z Z Z ?_))))
       intro p751
       refine ac0 Z Z (op_store (i := 0) (cs' := (api.Input.ct .no r749.1)) Z sizeOf29 (tm Z) (v := .agg (api.Input.ct .no r749.1)) (tm Z) Z Z Z (Nat.le_of_ble_eq_true Z) Z (ap (.sl (.own t750) 2 (r749.2.map api.Request.av)) Z Z Z (pu_assign Z (tm Z)) (aops_nil (aw_seq (aw_seq (aw_region (ac Z Z Z (op_loadN (i := 4) Z isAgg29 sizeOf29 (tm Z) Z (Nat.le_of_ble_eq_true Z) Z (ac Z Z Z (op_loadN (i := 0) Z isAgg29 sizeOf29 (tm Z) Z (Nat.le_of_ble_eq_true Z) Z ?_))))))))))
       obtain ⟨r752, r752e, h⟩ := bind_some h
       refine ac Z Z Z (op_call (vs := [.agg (api.Input.ct .no r700.1), .agg (api.Input.ct .no r749.1)]) (H := []) Z call17 ⟨(tm Z), (tm Z), trivial⟩ (List.Perm.refl _) (mewsref05.SameInput.ok r752e) ?_)
       rintro _ _ ⟨rfl, rfl⟩
       refine ap (.bool (!r752)) Z Z Z (pu_not Z (tm Z)) (aops_nil (aw_cond (b := (!r752)) (tm Z) (fun hb754 => ?_) (fun hb754 => ?_)))
       ·replace h := ite_t hb754 h
        refine aw_seq (aw_region (ap (.bool false) Z Z Z (pu_assign Z (AEv.bool _)) (aops_nil (aw_ret ?_))))
        obtain rfl := some_of h
        have h := congrArg some (hx696 _ rfl)
        obtain rfl := some_of h
        have h := onSum_inr h573
        obtain rfl := some_of h
        exact ⟨[.bool false], _, [], ⟨(tm Z), trivial⟩, (AV.Le.refl _), Weak.mkL [] (by decide) trivial trivial, ⟨Z, Z⟩⟩
       ·replace h := ite_fb hb754 h
        refine aw_skip (aw_seq (aw_region (ac Z Z Z (op_loadN (i := 4) Z isAgg29 sizeOf29 (tm Z) Z (Nat.le_of_ble_eq_true Z) Z (ac0 Z Z (op_store (i := 3) (cs' := (api.Input.ct .no r700.1)) Z sizeOf29 (tm Z) (v := .agg (api.Input.ct .no r700.1)) (tm Z) Z Z Z (Nat.le_of_ble_eq_true Z) Z (aops_nil (aw_region (ap (.str s695.all_) Z Z Z (pu_move Z (tm Z)) (ap (.str (ix pieces s695.t25)) Z Z Z (pu_move Z (tm Z)) ?_))))))))))
        obtain ⟨c753, h⟩ := need_of h
        refine ap (.str (s695.all_ ++ (ix pieces s695.t25))) Z Z Z (pu_strAdd Z (tm Z) (tm Z) c753) (ap (.str (s695.all_ ++ (ix pieces s695.t25))) Z Z Z (pu_assign Z (tm Z)) (aops_nil (aw_region (ap (.int .i64 (IntKind.wrap .i64 (s695.t25 + 1))) Z Z Z (pu_int (v := .int .i64 (IntKind.wrap .i64 (s695.t25 + 1))) Z Z (tm Z) (AEv.int _ _) Z) (ap (.int .i64 (IntKind.wrap .i64 (s695.t25 + 1))) Z Z Z (pu_move Z (tm Z)) (aops_nil ?_))))))
        obtain rfl := some_of h
        exact ⟨_, (), Z, Weak.mkL [2, 3] (by decide) ⟨⟨_, Z, (CellsLe.refl _), Z⟩, ⟨_, Z, (CellsLe.refl _), Z⟩, trivial⟩ ⟨AEv.tmp Z, AEv.tmp Z, (AEv.le (tm Z) (AV.Le.refl _)), AEv.tmp Z, AEv.tmp Z, AEv.tmp Z, (AEv.le (tm Z) (AV.Le.refl _)), trivial⟩⟩
   ·replace h := ite_f (dec_f hb757) h
    refine aw_exit ?_
    obtain rfl := some_of h
    have h := congrArg some (hx696 _ rfl)
    exact ⟨(), (), (some_of h).symm, Weak.mkL [0] (by decide) ⟨⟨_, Z, (CellsLe.refl _), Z⟩, trivial⟩ ⟨AEv.tmp Z, AEv.tmp Z, trivial⟩⟩

end Go.Pu
