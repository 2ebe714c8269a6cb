/- Printed by lift.py: the functions come to them. -/
import Derived.Test.YtfapgollkabopaaLiftU
import Derived.Test.YtfapgollkabopaaAFK2
set_option maxRecDepth 100000
set_option maxHeartbeats 0
namespace Go.Pu
open Go.Lift Go.Proofs.Try Go.RowKit Go.Proofs

theorem mewslaw42.some_.ok  {r : api.Config} (h : mewslaw42.some_ = some r) : Go.Lift.Spec prog 62 [] [] (fun v H => v = .agg [.sl .full 14 (r.Tenants.map api.Tenant.av), .int .i64 r.Quantum, .int .i64 r.Deadline] ∧ H = []) := by
 unfold mewslaw42.some_ at h
 refine Go.Lift.Spec.of_body (rs := [.cell 0 78]) func62 Z Z (Nat.le_of_ble_eq_true Z) Z (aw_seq (aw_region (ac Z Z Z (op_alloc (cs := [.sl .full 14 (([] : List api.Tenant).map api.Tenant.av), .int .i64 0, .int .i64 0]) (v := .agg [.sl .full 14 (([] : List api.Tenant).map api.Tenant.av), .int .i64 0, .int .i64 0]) Z zeroValue78 Z Z Z ?_))))
 intro p4
 refine aops_nil (aw_seq (aw_region (ap (.agg [.int .i64 9, .int .i64 99, .int .i64 99]) Z Z Z (pu_build (zs := [.int .i64 0, .int .i64 0, .int .i64 0]) (szs := [1, 1, 1]) (aparts := [(0, .int .i64 9), (1, .int .i64 99), (2, .int .i64 99)]) (cs := [.int .i64 9, .int .i64 99, .int .i64 99]) Z underlying23 zeroValue23 Z ⟨sizeOf3, sizeOf3, sizeOf3, trivial⟩ ⟨Z, (AEv.int _ _), ⟨Z, (AEv.int _ _), ⟨Z, (AEv.int _ _), trivial⟩⟩⟩ Z) (ap (.agg [.str [97], .str [115], .int .i64 1000, .int .i64 0, .int .i64 2, .int .i64 1000, .int .i64 1000, .int .i64 5, .int .i64 1, .int .i64 1000, .int .i64 1, .int .i64 9, .int .i64 99, .int .i64 99]) Z Z Z (pu_build (zs := [.str ([] : List UInt8), .str ([] : List UInt8), .int .i64 0, .int .i64 0, .int .i64 0, .int .i64 0, .int .i64 0, .int .i64 0, .int .i64 0, .int .i64 0, .int .i64 0, .int .i64 0, .int .i64 0, .int .i64 0]) (szs := [1, 1, 1, 1, 1, 1, 1, 1, 1, 1, 1, 3]) (aparts := [(0, .str [97]), (1, .str [115]), (2, .int .i64 1000), (4, .int .i64 2), (5, .int .i64 1000), (6, .int .i64 1000), (7, .int .i64 5), (8, .int .i64 1), (9, .int .i64 1000), (10, .int .i64 1), (11, .agg [.int .i64 9, .int .i64 99, .int .i64 99])]) (cs := [.str [97], .str [115], .int .i64 1000, .int .i64 0, .int .i64 2, .int .i64 1000, .int .i64 1000, .int .i64 5, .int .i64 1, .int .i64 1000, .int .i64 1, .int .i64 9, .int .i64 99, .int .i64 99]) Z underlying53 zeroValue53 Z ⟨sizeOf9, sizeOf9, sizeOf3, sizeOf3, sizeOf3, sizeOf3, sizeOf3, sizeOf3, sizeOf3, sizeOf3, sizeOf3, sizeOf23, trivial⟩ ⟨Z, (AEv.const Z), ⟨Z, (AEv.const Z), ⟨Z, (AEv.int _ _), ⟨Z, (AEv.int _ _), ⟨Z, (AEv.int _ _), ⟨Z, (AEv.int _ _), ⟨Z, (AEv.int _ _), ⟨Z, (AEv.int _ _), ⟨Z, (AEv.int _ _), ⟨Z, (AEv.int _ _), ⟨Z, (tm Z), trivial⟩⟩⟩⟩⟩⟩⟩⟩⟩⟩⟩ Z) (ac Z Z Z (op_alloc (cs := [.str ([] : List UInt8), .str ([] : List UInt8), .int .i64 0, .int .i64 0, .int .i64 0, .int .i64 0, .int .i64 0, .int .i64 0, .int .i64 0, .int .i64 0, .int .i64 0, .int .i64 0, .int .i64 0, .int .i64 0]) (v := .agg [.str ([] : List UInt8), .str ([] : List UInt8), .int .i64 0, .int .i64 0, .int .i64 0, .int .i64 0, .int .i64 0, .int .i64 0, .int .i64 0, .int .i64 0, .int .i64 0, .int .i64 0, .int .i64 0, .int .i64 0]) Z zeroValue53 Z Z Z ?_))))))
 intro p5
 refine ac0 Z Z (op_store (i := 0) (cs' := [.str [97], .str [115], .int .i64 1000, .int .i64 0, .int .i64 2, .int .i64 1000, .int .i64 1000, .int .i64 5, .int .i64 1, .int .i64 1000, .int .i64 1, .int .i64 9, .int .i64 99, .int .i64 99]) Z sizeOf53 (tm Z) (v := .agg [.str [97], .str [115], .int .i64 1000, .int .i64 0, .int .i64 2, .int .i64 1000, .int .i64 1000, .int .i64 5, .int .i64 1, .int .i64 1000, .int .i64 1, .int .i64 9, .int .i64 99, .int .i64 99]) (tm Z) Z Z Z (Nat.le_of_ble_eq_true Z) Z (aops_nil (aw_seq (aw_region (ac Z Z Z (op_loadN (i := 0) Z isAgg53 sizeOf53 (tm Z) Z (Nat.le_of_ble_eq_true Z) Z (ac Z Z Z (op_alloc (cs := [.str ([] : List UInt8), .str ([] : List UInt8), .int .i64 0, .int .i64 0, .int .i64 0, .int .i64 0, .int .i64 0, .int .i64 0, .int .i64 0, .int .i64 0, .int .i64 0, .int .i64 0, .int .i64 0, .int .i64 0]) (v := .agg [.str ([] : List UInt8), .str ([] : List UInt8), .int .i64 0, .int .i64 0, .int .i64 0, .int .i64 0, .int .i64 0, .int .i64 0, .int .i64 0, .int .i64 0, .int .i64 0, .int .i64 0, .int .i64 0, .int .i64 0]) Z zeroValue53 Z Z Z ?_))))))))
 intro p6
 refine ac0 Z Z (op_store (i := 0) (cs' := [.str [97], .str [115], .int .i64 1000, .int .i64 0, .int .i64 2, .int .i64 1000, .int .i64 1000, .int .i64 5, .int .i64 1, .int .i64 1000, .int .i64 1, .int .i64 9, .int .i64 99, .int .i64 99]) Z sizeOf53 (tm Z) (v := .agg [.str [97], .str [115], .int .i64 1000, .int .i64 0, .int .i64 2, .int .i64 1000, .int .i64 1000, .int .i64 5, .int .i64 1, .int .i64 1000, .int .i64 1, .int .i64 9, .int .i64 99, .int .i64 99]) (tm Z) Z Z Z (Nat.le_of_ble_eq_true Z) Z (aops_nil (aw_seq (aw_region (ap (.ptr p6 0) Z Z Z (pu_fieldAddr Z underlying53 Z sizeOf9 (by decide) (tm Z) Z) (ac0 Z Z (op_store (i := 0) (cs' := [.str [98], .str [115], .int .i64 1000, .int .i64 0, .int .i64 2, .int .i64 1000, .int .i64 1000, .int .i64 5, .int .i64 1, .int .i64 1000, .int .i64 1, .int .i64 9, .int .i64 99, .int .i64 99]) Z sizeOf9 (tm Z) (v := .str [98]) (AEv.const Z) Z Z Z (Nat.le_of_ble_eq_true Z) Z (aops_nil (aw_seq (aw_region (ap (.ptr p6 1) Z Z Z (pu_fieldAddr Z underlying53 Z sizeOf9 (by decide) (tm Z) Z) ?_)))))))))))
 refine ac0 Z Z (op_store (i := 0) (cs' := [.str [98], .str [116], .int .i64 1000, .int .i64 0, .int .i64 2, .int .i64 1000, .int .i64 1000, .int .i64 5, .int .i64 1, .int .i64 1000, .int .i64 1, .int .i64 9, .int .i64 99, .int .i64 99]) Z sizeOf9 (tm Z) (v := .str [116]) (AEv.const Z) Z Z Z (Nat.le_of_ble_eq_true Z) Z (aops_nil (aw_seq (aw_region (ac Z Z Z (op_loadN (i := 1) Z isAgg53 sizeOf53 (tm Z) Z (Nat.le_of_ble_eq_true Z) Z (ac Z Z Z (op_loadN (i := 0) Z isAgg53 sizeOf53 (tm Z) Z (Nat.le_of_ble_eq_true Z) Z (ac Z Z Z (op_buildSlice (xs := ([({ Name := [97], Token := [115], Memory := 1000, Policy := 0, Conns := 2, In := 1000, Out := 1000, Burst := 5, Rate := 1, Disk := 1000, Sync := 1, Limits := ({ Args := 9, Bulk := 99, Line := 99 } : api.Limits) } : api.Tenant), ({ Name := [98], Token := [116], Memory := 1000, Policy := 0, Conns := 2, In := 1000, Out := 1000, Burst := 5, Rate := 1, Disk := 1000, Sync := 1, Limits := ({ Args := 9, Bulk := 99, Line := 99 } : api.Limits) } : api.Tenant)] : List api.Tenant).map api.Tenant.av) (aparts := [(0, .agg [.str [97], .str [115], .int .i64 1000, .int .i64 0, .int .i64 2, .int .i64 1000, .int .i64 1000, .int .i64 5, .int .i64 1, .int .i64 1000, .int .i64 1, .int .i64 9, .int .i64 99, .int .i64 99]), (1, .agg [.str [98], .str [116], .int .i64 1000, .int .i64 0, .int .i64 2, .int .i64 1000, .int .i64 1000, .int .i64 5, .int .i64 1, .int .i64 1000, .int .i64 1, .int .i64 9, .int .i64 99, .int .i64 99])]) Z underlying76 sizeOf53 zeroValue53 (by decide) (by decide) ⟨Z, (tm Z), ⟨Z, (tm Z), trivial⟩⟩ Z Z Z (ap (.agg [.sl .full 14 ([({ Name := [97], Token := [115], Memory := 1000, Policy := 0, Conns := 2, In := 1000, Out := 1000, Burst := 5, Rate := 1, Disk := 1000, Sync := 1, Limits := ({ Args := 9, Bulk := 99, Line := 99 } : api.Limits) } : api.Tenant), ({ Name := [98], Token := [116], Memory := 1000, Policy := 0, Conns := 2, In := 1000, Out := 1000, Burst := 5, Rate := 1, Disk := 1000, Sync := 1, Limits := ({ Args := 9, Bulk := 99, Line := 99 } : api.Limits) } : api.Tenant)].map api.Tenant.av), .int .i64 3, .int .i64 100]) Z Z Z (pu_build (zs := [.sl .full 14 (([] : List api.Tenant).map api.Tenant.av), .int .i64 0, .int .i64 0]) (szs := [1, 1, 1]) (aparts := [(0, .sl .full 14 ([({ Name := [97], Token := [115], Memory := 1000, Policy := 0, Conns := 2, In := 1000, Out := 1000, Burst := 5, Rate := 1, Disk := 1000, Sync := 1, Limits := ({ Args := 9, Bulk := 99, Line := 99 } : api.Limits) } : api.Tenant), ({ Name := [98], Token := [116], Memory := 1000, Policy := 0, Conns := 2, In := 1000, Out := 1000, Burst := 5, Rate := 1, Disk := 1000, Sync := 1, Limits := ({ Args := 9, Bulk := 99, Line := 99 } : api.Limits) } : api.Tenant)].map api.Tenant.av)), (1, .int .i64 3), (2, .int .i64 100)]) (cs := [.sl .full 14 ([({ Name := [97], Token := [115], Memory := 1000, Policy := 0, Conns := 2, In := 1000, Out := 1000, Burst := 5, Rate := 1, Disk := 1000, Sync := 1, Limits := ({ Args := 9, Bulk := 99, Line := 99 } : api.Limits) } : api.Tenant), ({ Name := [98], Token := [116], Memory := 1000, Policy := 0, Conns := 2, In := 1000, Out := 1000, Burst := 5, Rate := 1, Disk := 1000, Sync := 1, Limits := ({ Args := 9, Bulk := 99, Line := 99 } : api.Limits) } : api.Tenant)].map api.Tenant.av), .int .i64 3, .int .i64 100]) Z underlying78 zeroValue78 Z ⟨sizeOf76, sizeOf3, sizeOf2, trivial⟩ ⟨Z, (tm Z), ⟨Z, (AEv.int _ _), ⟨Z, (AEv.int _ _), trivial⟩⟩⟩ Z) (ac0 Z Z (op_store (i := 2) (cs' := [.sl .full 14 ([({ Name := [97], Token := [115], Memory := 1000, Policy := 0, Conns := 2, In := 1000, Out := 1000, Burst := 5, Rate := 1, Disk := 1000, Sync := 1, Limits := ({ Args := 9, Bulk := 99, Line := 99 } : api.Limits) } : api.Tenant), ({ Name := [98], Token := [116], Memory := 1000, Policy := 0, Conns := 2, In := 1000, Out := 1000, Burst := 5, Rate := 1, Disk := 1000, Sync := 1, Limits := ({ Args := 9, Bulk := 99, Line := 99 } : api.Limits) } : api.Tenant)].map api.Tenant.av), .int .i64 3, .int .i64 100]) Z sizeOf78 (tm Z) (v := .agg [.sl .full 14 ([({ Name := [97], Token := [115], Memory := 1000, Policy := 0, Conns := 2, In := 1000, Out := 1000, Burst := 5, Rate := 1, Disk := 1000, Sync := 1, Limits := ({ Args := 9, Bulk := 99, Line := 99 } : api.Limits) } : api.Tenant), ({ Name := [98], Token := [116], Memory := 1000, Policy := 0, Conns := 2, In := 1000, Out := 1000, Burst := 5, Rate := 1, Disk := 1000, Sync := 1, Limits := ({ Args := 9, Bulk := 99, Line := 99 } : api.Limits) } : api.Tenant)].map api.Tenant.av), .int .i64 3, .int .i64 100]) (tm Z) Z Z Z (Nat.le_of_ble_eq_true Z) Z (aops_nil ?_))))))))))))))
 refine aw_ret ?_
 obtain rfl := some_of h
 exact ⟨[.agg [.sl .full 14 ([({ Name := [97], Token := [115], Memory := 1000, Policy := 0, Conns := 2, In := 1000, Out := 1000, Burst := 5, Rate := 1, Disk := 1000, Sync := 1, Limits := ({ Args := 9, Bulk := 99, Line := 99 } : api.Limits) } : api.Tenant), ({ Name := [98], Token := [116], Memory := 1000, Policy := 0, Conns := 2, In := 1000, Out := 1000, Burst := 5, Rate := 1, Disk := 1000, Sync := 1, Limits := ({ Args := 9, Bulk := 99, Line := 99 } : api.Limits) } : api.Tenant)].map api.Tenant.av), .int .i64 3, .int .i64 100]], _, [], ⟨(CellOk.agg 2 (tm Z) Z isAgg78 sizeOf78 (Nat.le_of_ble_eq_true Z) Z), trivial⟩, (AV.Le.refl _), Weak.mkL [] (by decide) trivial trivial, ⟨Z, Z⟩⟩

theorem auth.limits.ok  {r : api.Limits} (h : auth.limits = some r) : Go.Lift.Spec prog 70 [] [] (fun v H => v = .agg [.int .i64 r.Args, .int .i64 r.Bulk, .int .i64 r.Line] ∧ H = []) := by
 unfold auth.limits at h
 refine Go.Lift.Spec.of_body (rs := [.cell 0 23]) func70 Z Z (Nat.le_of_ble_eq_true Z) Z (aw_seq (aw_region (ac Z Z Z (op_alloc (cs := [.int .i64 0, .int .i64 0, .int .i64 0]) (v := .agg [.int .i64 0, .int .i64 0, .int .i64 0]) Z zeroValue23 Z Z Z ?_))))
 intro p2
 refine aops_nil (aw_seq (aw_region (ap (.agg [.int .i64 16, .int .i64 1024, .int .i64 2048]) Z Z Z (pu_build (zs := [.int .i64 0, .int .i64 0, .int .i64 0]) (szs := [1, 1, 1]) (aparts := [(0, .int .i64 16), (1, .int .i64 1024), (2, .int .i64 2048)]) (cs := [.int .i64 16, .int .i64 1024, .int .i64 2048]) Z underlying23 zeroValue23 Z ⟨sizeOf3, sizeOf3, sizeOf3, trivial⟩ ⟨Z, (AEv.int _ _), ⟨Z, (AEv.int _ _), ⟨Z, (AEv.int _ _), trivial⟩⟩⟩ Z) (ac0 Z Z (op_store (i := 0) (cs' := [.int .i64 16, .int .i64 1024, .int .i64 2048]) Z sizeOf23 (tm Z) (v := .agg [.int .i64 16, .int .i64 1024, .int .i64 2048]) (tm Z) Z Z Z (Nat.le_of_ble_eq_true Z) Z (aops_nil (aw_ret ?_)))))))
 obtain rfl := some_of h
 exact ⟨[.agg [.int .i64 16, .int .i64 1024, .int .i64 2048]], _, [], ⟨(CellOk.agg 0 (tm Z) Z isAgg23 sizeOf23 (Nat.le_of_ble_eq_true Z) Z), trivial⟩, (AV.Le.refl _), Weak.mkL [] (by decide) trivial trivial, ⟨Z, Z⟩⟩

theorem table.Upper.ok {name : List UInt8} {r : List UInt8} (h : table.Upper name = some r) : Go.Lift.Spec prog 84 [.str name] [] (fun v H => v = .str r ∧ H = []) := by
 unfold table.Upper at h
 refine Go.Lift.Spec.of_body (rs := [.tmp 2]) func84 Z Z (Nat.le_of_ble_eq_true Z) Z (aw_seq (aw_region (ap (.str ([] : List UInt8)) Z Z Z (pu_assign Z (AEv.const Z)) (aops_nil (aw_seq (aw_region (ap (.str name) Z Z Z (pu_move Z (tm Z)) ?_)))))))
 obtain ⟨c174, h⟩ := need_of h
 refine ac Z Z Z (op_strBytes Z underlying9 underlying102 underlying5 (tm Z) c174 ?_)
 intro p175
 refine ap (.vec p175) Z Z Z (pu_assign Z (tm Z)) (aops_nil ?_)
 obtain ⟨s260, s260e, h261⟩ := bind_some h
 refine aw_meet (ν := Unit) (fun v => [(3, .vec p175)]) (fun v => [(p175, .vec 1 (s260.map byteAV))]) ?_ ?_
 ·have h := s260e
  refine aw_seq (aw_region (ap (.vec p175) Z Z Z (pu_move Z (tm Z)) (ac Z Z Z (op_lenVecM (i := 0) Z underlying102 (tm Z) Z (ap (.int .i64 0) Z Z Z (pu_move Z (AEv.int _ _)) (aops_nil (aw_block (aw_while (σ := table.Upper.S0) (ν := Unit) (table.Upper.body0 name) (fun s317 v => [(3, .vec p175), (8, .vec p175), (9, .int .i64 (name.length : Int)), (10, .int .i64 s317.t10)]) (fun s317 v => [(p175, .vec 1 (s317.v.map byteAV))]) ⟨0, name⟩ () _ h (Weak.mkL [0] (by decide) ⟨⟨_, Z, Z⟩, trivial⟩ ⟨AEv.tmp Z, AEv.tmp Z, AEv.tmp Z, AEv.tmp Z, trivial⟩) ?_))))))))
  rintro s317 _ x319 h hx318
  unfold table.Upper.body0 at h
  refine aw_seq (aw_region (ap (.bool (decide (s317.t10 < (name.length : Int)))) Z Z Z (pu_int (v := .bool (decide (s317.t10 < (name.length : Int)))) Z Z (tm Z) (tm Z) Z) (aops_nil (aw_seq (aw_cond (b := decide (s317.t10 < (name.length : Int))) (tm Z) (fun hb346 => ?_) (fun hb346 => ?_))))))
  ·replace h := ite_t (dec_t hb346) h
   refine aw_skip ?_
   obtain ⟨s332, s332e, h333⟩ := bind_some h
   refine aw_meet (ν := Unit) (fun v => [(3, .vec p175), (8, .vec p175), (9, .int .i64 (name.length : Int)), (10, .int .i64 s317.t10)]) (fun v => [(p175, .vec 1 (s332.map byteAV))]) ?_ ?_
   ·have h := s332e
    refine aw_block (aw_seq (aw_region (ap (.int .i64 s317.t10) Z Z Z (pu_move Z (tm Z)) ?_)))
    obtain ⟨c335, h⟩ := need_of h
    refine ac Z Z Z (op_indexAddrVecM Z underlying102 sizeOf5 (tm Z) (j := 0) Z (tm Z) c335 ?_)
    obtain ⟨c336, h⟩ := need_of h
    refine ac Z Z Z (op_loadE1M (i := 0) (sz := 1) Z isAgg5 (tm Z) Z c336 (by decide) Z (ap (.int .i64 s317.t10) Z Z Z (pu_assign Z (tm Z)) (ap (.int .u8 ((ix s317.v s317.t10).toNat : Int)) Z Z Z (pu_assign Z (tm Z)) (aops_nil ?_))))
    obtain ⟨s338, s338e, h339⟩ := letO_of h
    refine aw_meet (ν := Unit) (fun v => [(3, .vec p175), (4, .int .i64 s317.t10), (5, .int .u8 ((ix s317.v s317.t10).toNat : Int)), (8, .vec p175), (9, .int .i64 (name.length : Int)), (10, .int .i64 s317.t10), (20, .bool s338)]) (fun v => [(p175, .vec 1 (s317.v.map byteAV))]) ?_ ?_
    ·have h := s338e.symm
     refine aw_region (ap (.int .u8 ((ix s317.v s317.t10).toNat : Int)) Z Z Z (pu_move Z (tm Z)) (ap (.bool (decide (97 ≤ ((ix s317.v s317.t10).toNat : Int)))) Z Z Z (pu_int (v := .bool (decide (97 ≤ ((ix s317.v s317.t10).toNat : Int)))) Z Z (tm Z) (AEv.int _ _) Z) (ap (.bool (decide (97 ≤ ((ix s317.v s317.t10).toNat : Int)))) Z Z Z (pu_move Z (tm Z)) ?_)))
     rcases Bool.eq_false_or_eq_true (decide (97 ≤ ((ix s317.v s317.t10).toNat : Int))) with hb341 | hb341
     ·replace h := ite_t (dec_t hb341) h
      refine aops_known 17 Z hb341 (agp (.int .u8 ((ix s317.v s317.t10).toNat : Int)) Z Z Z Z Z Z Z (pu_move Z (tm Z)) (agp (.bool (decide (((ix s317.v s317.t10).toNat : Int) ≤ 122))) Z Z Z Z Z Z Z (pu_int (v := .bool (decide (((ix s317.v s317.t10).toNat : Int) ≤ 122))) Z Z (tm Z) (AEv.int _ _) Z) (ap (.bool (decide (((ix s317.v s317.t10).toNat : Int) ≤ 122))) Z Z Z (pu_pick (b := true) Z (tm Z) (fun _ => (tm Z)) (fun h => nomatch h)) (aops_nil ?_))))
      subst h
      exact ⟨(), Weak.mkL [0] (by decide) ⟨⟨_, Z, Z⟩, trivial⟩ ⟨AEv.tmp Z, AEv.tmp Z, AEv.tmp Z, AEv.tmp Z, AEv.tmp Z, AEv.tmp Z, (AEv.le (tm Z) (AV.Le.refl _)), trivial⟩⟩
     ·replace h := ite_f (dec_f hb341) h
      refine aops_known 17 Z hb341 (an Z Z Z Z Z Z Z Z (an Z Z Z Z Z Z Z Z (ap (.bool false) Z Z Z (pu_pick (b := false) Z (tm Z) (fun h => nomatch h) (fun _ => (AEv.bool _))) (aops_nil ?_))))
      subst h
      exact ⟨(), Weak.mkL [0] (by decide) ⟨⟨_, Z, Z⟩, trivial⟩ ⟨AEv.tmp Z, AEv.tmp Z, AEv.tmp Z, AEv.tmp Z, AEv.tmp Z, AEv.tmp Z, AEv.tmp Z, trivial⟩⟩
    ·intro _
     have h := h339
     refine aw_cond (b := s338) (tm Z) (fun hb345 => ?_) (fun hb345 => ?_)
     ·replace h := ite_t hb345 h
      refine aw_region (ap (.vec p175) Z Z Z (pu_move Z (tm Z)) (ap (.int .i64 s317.t10) Z Z Z (pu_move Z (tm Z)) (ap (.int .u8 ((ix s317.v s317.t10).toNat : Int)) Z Z Z (pu_move Z (tm Z)) (ap (.int .u8 (IntKind.wrap .u8 (((ix s317.v s317.t10).toNat : Int) - 97))) Z Z Z (pu_int (v := .int .u8 (IntKind.wrap .u8 (((ix s317.v s317.t10).toNat : Int) - 97))) Z Z (tm Z) (AEv.int _ _) Z) (ap (.int .u8 (IntKind.wrap .u8 ((IntKind.wrap .u8 (((ix s317.v s317.t10).toNat : Int) - 97)) + 65))) Z Z Z (pu_int (v := .int .u8 (IntKind.wrap .u8 ((IntKind.wrap .u8 (((ix s317.v s317.t10).toNat : Int) - 97)) + 65))) Z Z (tm Z) (AEv.int _ _) Z) ?_)))))
      obtain ⟨c342, h⟩ := need_of h
      refine ac Z Z Z (op_indexAddrVecM Z underlying102 sizeOf5 (tm Z) (j := 0) Z (tm Z) c342 ?_)
      obtain ⟨c343, h⟩ := need_of h
      obtain ⟨c344, h⟩ := need_of h
      refine ac0 Z Z (op_storeEM (i := 0) (sz := 1) (y' := u8 (IntKind.wrap .u8 ((IntKind.wrap .u8 (((ix s317.v s317.t10).toNat : Int) - 97)) + 65))) Z sizeOf5 (tm Z) (v := .int .u8 (IntKind.wrap .u8 ((IntKind.wrap .u8 (((ix s317.v s317.t10).toNat : Int) - 97)) + 65))) (tm Z) Z c343 Z Z (by decide) (congrArg AV.cells (byteAV_u8 c344.1 c344.2)) (aops_nil ?_))
      obtain rfl := some_of h
      exact ⟨(), Weak.mkL [0] (by decide) ⟨⟨_, Z, Z⟩, trivial⟩ ⟨AEv.tmp Z, AEv.tmp Z, AEv.tmp Z, AEv.tmp Z, trivial⟩⟩
     ·replace h := ite_fb hb345 h
      refine aw_skip ?_
      obtain rfl := some_of h
      exact ⟨(), Weak.mkL [0] (by decide) ⟨⟨_, Z, Z⟩, trivial⟩ ⟨AEv.tmp Z, AEv.tmp Z, AEv.tmp Z, AEv.tmp Z, trivial⟩⟩
   ·intro _
    have h := h333
    refine aw_region (ap (.int .i64 (IntKind.wrap .i64 (s317.t10 + 1))) Z Z Z (pu_int (v := .int .i64 (IntKind.wrap .i64 (s317.t10 + 1))) Z Z (tm Z) (AEv.int _ _) Z) (ap (.int .i64 (IntKind.wrap .i64 (s317.t10 + 1))) Z Z Z (pu_move Z (tm Z)) (aops_nil ?_)))
    obtain rfl := some_of h
    exact ⟨_, (), Z, Weak.mkL [0] (by decide) ⟨⟨_, Z, Z⟩, trivial⟩ ⟨AEv.tmp Z, AEv.tmp Z, AEv.tmp Z, (AEv.le (tm Z) (AV.Le.refl _)), trivial⟩⟩
  ·replace h := ite_f (dec_f hb346) h
   refine aw_exit ?_
   obtain rfl := some_of h
   have h := congrArg some (hx318 _ rfl)
   obtain rfl := some_of h
   exact ⟨(), Weak.mkL [0] (by decide) ⟨⟨_, Z, Z⟩, trivial⟩ ⟨AEv.tmp Z, trivial⟩⟩
 ·intro _
  have h := h261
  refine aw_seq (aw_region (ap (.vec p175) Z Z Z (pu_move Z (tm Z)) (aops_publish 28 0 (tm Z) Z (ac Z Z Z (op_bytesStr Z underlying102 underlying5 underlying9 (tm Z) (ap (.str s260) Z Z Z (pu_assign Z (tm Z)) (aops_nil (aw_ret ?_))))))))
  obtain rfl := some_of h
  exact ⟨[.str s260], _, [], ⟨(tm Z), trivial⟩, (AV.Le.refl _), Weak.mkL [] (by decide) trivial trivial, ⟨Z, Z⟩⟩

theorem auth.Find_1.ok {t_ : api.Tenant} {a1_ : List UInt8} {r : Bool} (h : auth.Find_1 t_ a1_ = some r) (o0 : Nat) : Go.Lift.Spec prog 69 [.agg (api.Tenant.ct t_), .ptr o0 0] [(o0, .cells [.str a1_])] (fun v H => v = .bool r ∧ H = [(o0, .cells [.str a1_])]) := by
 unfold auth.Find_1 at h
 refine Go.Lift.Spec.of_body (rs := [.tmp 3]) func69 Z Z (Nat.le_of_ble_eq_true Z) Z (aw_seq (aw_region (ac Z Z Z (op_box (cs := (api.Tenant.ct t_)) (v := .agg (api.Tenant.ct t_)) Z (tm Z) Z Z ?_))))
 intro p2
 refine ap (.bool false) Z Z Z (pu_assign Z (AEv.bool _)) (aops_nil (aw_seq (aw_region (ap (.ptr p2 1) Z Z Z (pu_fieldAddr Z underlying53 Z sizeOf9 (by decide) (tm Z) Z) (ac Z Z Z (op_load1 (i := 0) Z isAgg9 (tm Z) Z Z (ac Z Z Z (op_load1 (i := 1) Z isAgg9 (tm Z) Z Z (ap (.bool (decide (t_.Token = a1_))) Z Z Z (pu_str (v := .bool (decide (t_.Token = a1_))) Z Z (tm Z) (tm Z) Z) (ap (.bool (decide (t_.Token = a1_))) Z Z Z (pu_assign Z (tm Z)) (aops_nil ?_)))))))))))
 refine aw_ret ?_
 obtain rfl := some_of h
 exact ⟨[.bool (decide (t_.Token = a1_))], _, [(o0, .cells [.str a1_])], ⟨(tm Z), trivial⟩, (AV.Le.refl _), Weak.mkL [1] (by decide) ⟨⟨_, Z, ⟨(AV.Le.refl _), trivial⟩, Z⟩, trivial⟩ trivial, ⟨Z, Z⟩⟩

theorem slices.IndexFunc_api_Tenant_auth_Find_1.ok {s_ : List api.Tenant} {b0_ : List UInt8} {r : Int} (h : slices.IndexFunc_api_Tenant_auth_Find_1 s_ b0_ = some r) (o0 : Nat) : Go.Lift.Spec prog 68 [.sl .no 14 (s_.map api.Tenant.av), .fn 69 [.ptr o0 0]] [(o0, .cells [.str b0_])] (fun v H => v = .int .i64 r ∧ H = [(o0, .cells [.str b0_])]) := by
 unfold slices.IndexFunc_api_Tenant_auth_Find_1 at h
 refine Go.Lift.Spec.of_body (rs := [.tmp 4]) func68 Z Z (Nat.le_of_ble_eq_true Z) Z (aw_seq (aw_region (ap (.int .i64 0) Z Z Z (pu_assign Z (AEv.int _ _)) (aops_nil ?_))))
 obtain ⟨s80, s80e, h60⟩ := bind_some h
 refine aw_join (σ := Unit) (ν := Unit) (fun u v => []) (fun u v => [(o0, .cells [.str b0_])]) (fun u => s80 = .inl u) ?_ ?_
 ·intro s59
  intro _
  rintro rfl
  have h := onSum_inl h60
  refine aw_seq (aw_region (ap (.int .i64 (-1)) Z Z Z (pu_assign Z (AEv.int _ _)) (aops_nil (aw_ret ?_))))
  obtain rfl := some_of h
  exact ⟨[.int .i64 (-1)], _, [(o0, .cells [.str b0_])], ⟨(tm Z), trivial⟩, (AV.Le.refl _), Weak.mkL [0] (by decide) ⟨⟨_, Z, ⟨(AV.Le.refl _), trivial⟩, Z⟩, trivial⟩ trivial, ⟨Z, Z⟩⟩
 ·have h := s80e
  refine aw_seq (aw_region (ap (.sl .no 14 (s_.map api.Tenant.av)) Z Z Z (pu_move Z (tm Z)) (ap (.int .i64 (s_.length : Int)) Z Z Z (pu_lenM Z underlying76 (tm Z)) (ap (.int .i64 0) Z Z Z (pu_move Z (AEv.int _ _)) (aops_nil (aw_block (aw_while (σ := slices.IndexFunc_api_Tenant_auth_Find_1.S0) (ν := Unit) (slices.IndexFunc_api_Tenant_auth_Find_1.body0 s_ b0_) (fun s72 v => [(0, .sl .no 14 (s_.map api.Tenant.av)), (1, .fn 69 [.ptr o0 0]), (7, .int .i64 (s_.length : Int)), (8, .int .i64 s72.t8)]) (fun s72 v => [(o0, .cells [.str b0_])]) ⟨0⟩ () _ h (Weak.mkL [0] (by decide) ⟨⟨_, Z, ⟨(AV.Le.refl _), trivial⟩, Z⟩, trivial⟩ ⟨AEv.tmp Z, AEv.tmp Z, AEv.tmp Z, AEv.tmp Z, trivial⟩) ?_)))))))
  rintro s72 _ x74 h hx73
  unfold slices.IndexFunc_api_Tenant_auth_Find_1.body0 at h
  refine aw_seq (aw_region (ap (.bool (decide (s72.t8 < (s_.length : Int)))) Z Z Z (pu_int (v := .bool (decide (s72.t8 < (s_.length : Int)))) Z Z (tm Z) (tm Z) Z) (aops_nil (aw_seq (aw_cond (b := decide (s72.t8 < (s_.length : Int))) (tm Z) (fun hb79 => ?_) (fun hb79 => ?_))))))
  ·replace h := ite_t (dec_t hb79) h
   refine aw_skip (aw_seq (aw_block (aw_seq (aw_region (ap (.int .i64 s72.t8) Z Z Z (pu_move Z (tm Z)) (ap (.int .i64 s72.t8) Z Z Z (pu_assign Z (tm Z)) (aops_nil (aw_seq (aw_region ?_)))))))))
   refine ap (.fn 69 [.ptr o0 0]) Z Z Z (pu_move Z (tm Z)) (ap (.sl .no 14 (s_.map api.Tenant.av)) Z Z Z (pu_move Z (tm Z)) (ap (.int .i64 s72.t8) Z Z Z (pu_move Z (tm Z)) ?_))
   obtain ⟨c76, h⟩ := need_of h
   refine ap (.vptr [.str (ix s_ s72.t8).Name, .str (ix s_ s72.t8).Token, .int .i64 (ix s_ s72.t8).Memory, .int .i64 (ix s_ s72.t8).Policy, .int .i64 (ix s_ s72.t8).Conns, .int .i64 (ix s_ s72.t8).In, .int .i64 (ix s_ s72.t8).Out, .int .i64 (ix s_ s72.t8).Burst, .int .i64 (ix s_ s72.t8).Rate, .int .i64 (ix s_ s72.t8).Disk, .int .i64 (ix s_ s72.t8).Sync, .int .i64 (ix s_ s72.t8).Limits.Args, .int .i64 (ix s_ s72.t8).Limits.Bulk, .int .i64 (ix s_ s72.t8).Limits.Line]) Z Z Z (pu_indexAddrM Z underlying76 sizeOf53 (tm Z) (tm Z) c76 Z) (ac Z Z Z (op_loadVN Z isAgg53 sizeOf53 (tm Z) (Nat.le_of_ble_eq_true Z) Z ?_))
   obtain ⟨r77, r77e, h⟩ := bind_some h
   refine ac Z Z Z (op_callV (vs := [.agg (api.Tenant.ct (ix s_ s72.t8))]) (H := [(o0, .cells [.str b0_])]) Z (tm Z) call69 ⟨(tm Z), trivial⟩ (List.Perm.refl _) (auth.Find_1.ok r77e o0) ?_)
   rintro _ _ ⟨rfl, rfl⟩
   refine aops_nil (aw_cond (b := r77) (tm Z) (fun hb78 => ?_) (fun hb78 => ?_))
   ·replace h := ite_t hb78 h
    refine aw_seq (aw_region (ap (.int .i64 s72.t8) Z Z Z (pu_move Z (tm Z)) (ap (.int .i64 s72.t8) Z Z Z (pu_assign Z (tm Z)) (aops_nil (aw_ret ?_)))))
    obtain rfl := some_of h
    have h := congrArg some (hx73 _ rfl)
    obtain rfl := some_of h
    have h := onSum_inr h60
    obtain rfl := some_of h
    exact ⟨[.int .i64 s72.t8], _, [(o0, .cells [.str b0_])], ⟨(tm Z), trivial⟩, (AV.Le.refl _), Weak.mkL [0] (by decide) ⟨⟨_, Z, ⟨(AV.Le.refl _), trivial⟩, Z⟩, trivial⟩ trivial, ⟨Z, Z⟩⟩
   ·replace h := ite_fb hb78 h
    refine aw_skip (aw_region (ap (.int .i64 (IntKind.wrap .i64 (s72.t8 + 1))) Z Z Z (pu_int (v := .int .i64 (IntKind.wrap .i64 (s72.t8 + 1))) Z Z (tm Z) (AEv.int _ _) Z) (ap (.int .i64 (IntKind.wrap .i64 (s72.t8 + 1))) Z Z Z (pu_move Z (tm Z)) (aops_nil ?_))))
    obtain rfl := some_of h
    exact ⟨_, (), Z, Weak.mkL [0] (by decide) ⟨⟨_, Z, ⟨(AV.Le.refl _), trivial⟩, Z⟩, trivial⟩ ⟨AEv.tmp Z, AEv.tmp Z, AEv.tmp Z, (AEv.le (tm Z) (AV.Le.refl _)), trivial⟩⟩
  ·replace h := ite_f (dec_f hb79) h
   refine aw_exit ?_
   obtain rfl := some_of h
   have h := congrArg some (hx73 _ rfl)
   exact ⟨(), (), (some_of h).symm, Weak.mkL [0] (by decide) ⟨⟨_, Z, ⟨(AV.Le.refl _), trivial⟩, Z⟩, trivial⟩ trivial⟩

theorem auth.Find.ok {c_ : api.Config} {token : List UInt8} {r : Int} (h : auth.Find c_ token = some r) : Go.Lift.Spec prog 45 [.agg [.sl .no 14 (c_.Tenants.map api.Tenant.av), .int .i64 c_.Quantum, .int .i64 c_.Deadline], .str token] [] (fun v H => v = .int .i64 r ∧ H = []) := by
 unfold auth.Find at h
 refine Go.Lift.Spec.of_body (rs := [.tmp 4]) func45 Z Z (Nat.le_of_ble_eq_true Z) Z (aw_seq (aw_region (ac Z Z Z (op_box (cs := [.sl .no 14 (c_.Tenants.map api.Tenant.av), .int .i64 c_.Quantum, .int .i64 c_.Deadline]) (v := .agg [.sl .no 14 (c_.Tenants.map api.Tenant.av), .int .i64 c_.Quantum, .int .i64 c_.Deadline]) Z (tm Z) Z Z ?_))))
 intro p4
 refine ac Z Z Z (op_box (cs := [.str token]) (v := .str token) Z (tm Z) Z Z ?_)
 intro p5
 refine ap (.int .i64 0) Z Z Z (pu_assign Z (AEv.int _ _)) (aops_nil (aw_seq (aw_region (ap (.ptr p4 0) Z Z Z (pu_fieldAddr Z underlying78 Z sizeOf76 (by decide) (tm Z) Z) (ac Z Z Z (op_load1 (i := 1) Z isAgg76 (tm Z) Z Z (ap (.fn 69 [.ptr p5 0]) Z Z Z (pu_makeFunc Z ⟨(tm Z), trivial⟩) ?_)))))))
 obtain ⟨r6, r6e, h⟩ := bind_some h
 refine ac Z Z Z (op_call (vs := [.sl .no 14 (c_.Tenants.map api.Tenant.av), .fn 69 [.ptr p5 0]]) (H := [(p5, .cells [.str token])]) Z call68 ⟨(tm Z), (tm Z), trivial⟩ (List.Perm.refl _) (slices.IndexFunc_api_Tenant_auth_Find_1.ok r6e p5) ?_)
 rintro _ _ ⟨rfl, rfl⟩
 refine ap (.int .i64 r6) Z Z Z (pu_assign Z (tm Z)) (aops_nil (aw_ret ?_))
 obtain rfl := some_of h
 exact ⟨[.int .i64 r6], _, [], ⟨(tm Z), trivial⟩, (AV.Le.refl _), Weak.mkL [] (by decide) trivial trivial, ⟨Z, Z⟩⟩

theorem auth.verdict.ok {c_ : api.Config} {call : List (List UInt8)} {r : Int × Int} (h : auth.verdict c_ call = some r) : Go.Lift.Spec prog 71 [.agg [.sl .no 14 (c_.Tenants.map api.Tenant.av), .int .i64 c_.Quantum, .int .i64 c_.Deadline], .sl .no 1 (call.map AV.str)] [] (fun v H => v = .tup [.int .i64 r.1, .int .i64 r.2] ∧ H = []) := by
 unfold auth.verdict at h
 refine Go.Lift.Spec.of_body (rs := [.tmp 4, .tmp 5]) func71 Z Z (Nat.le_of_ble_eq_true Z) Z (aw_seq (aw_region (ac Z Z Z (op_box (cs := [.sl .no 14 (c_.Tenants.map api.Tenant.av), .int .i64 c_.Quantum, .int .i64 c_.Deadline]) (v := .agg [.sl .no 14 (c_.Tenants.map api.Tenant.av), .int .i64 c_.Quantum, .int .i64 c_.Deadline]) Z (tm Z) Z Z ?_))))
 intro p15
 refine ap (.int .i64 0) Z Z Z (pu_assign Z (AEv.int _ _)) (ap (.int .i64 0) Z Z Z (pu_assign Z (AEv.int _ _)) (aops_nil (aw_seq ?_)))
 obtain ⟨s19, s19e, h20⟩ := bind_some h
 refine aw_meet (ν := Unit) (fun v => [(1, .sl .no 1 (call.map AV.str)), (2, .ptr p15 0), (16, .bool s19)]) (fun v => [(p15, .cells [.sl .no 14 (c_.Tenants.map api.Tenant.av), .int .i64 c_.Quantum, .int .i64 c_.Deadline])]) ?_ ?_
 ·have h := s19e
  refine aw_region (ap (.sl .no 1 (call.map AV.str)) Z Z Z (pu_move Z (tm Z)) ?_)
  obtain ⟨c22, h⟩ := need_of h
  refine ap (.vptr [.str (ix call 0)]) Z Z Z (pu_indexAddrM Z underlying26 sizeOf9 (tm Z) (AEv.int _ _) c22 Z) (ac Z Z Z (op_loadV1 Z isAgg9 (tm Z) Z ?_))
  obtain ⟨r23, r23e, h⟩ := bind_some h
  refine ac Z Z Z (op_call (vs := [.str (ix call 0)]) (H := []) Z call84 ⟨(tm Z), trivial⟩ (List.Perm.refl _) (table.Upper.ok r23e) ?_)
  rintro _ _ ⟨rfl, rfl⟩
  refine ap (.bool (!decide (r23 = [65, 85, 84, 72]))) Z Z Z (pu_str (v := .bool (!decide (r23 = [65, 85, 84, 72]))) Z Z (tm Z) (AEv.const Z) Z) (ap (.bool (!decide (r23 = [65, 85, 84, 72]))) Z Z Z (pu_move Z (tm Z)) ?_)
  rcases Bool.eq_false_or_eq_true (!decide (r23 = [65, 85, 84, 72])) with hb24 | hb24
  ·replace h := ite_f (ndec_t hb24) h
   refine aops_known 12 Z hb24 (an Z Z Z Z Z Z Z Z (an Z Z Z Z Z Z Z Z (an Z Z Z Z Z Z Z Z (ap (.bool true) Z Z Z (pu_pick (b := true) Z (tm Z) (fun _ => (AEv.bool _)) (fun h => nomatch h)) (aops_nil ?_)))))
   obtain rfl := some_of h
   exact ⟨(), Weak.mkL [0] (by decide) ⟨⟨_, Z, (CellsLe.refl _), Z⟩, trivial⟩ ⟨AEv.tmp Z, AEv.tmp Z, AEv.tmp Z, trivial⟩⟩
  ·replace h := ite_t (ndec_f hb24) h
   refine aops_known 12 Z hb24 (agp (.sl .no 1 (call.map AV.str)) Z Z Z Z Z Z Z (pu_move Z (tm Z)) (agp (.int .i64 (call.length : Int)) Z Z Z Z Z Z Z (pu_lenM Z underlying26 (tm Z)) (agp (.bool (!decide ((call.length : Int) = 2))) Z Z Z Z Z Z Z (pu_int (v := .bool (!decide ((call.length : Int) = 2))) Z Z (tm Z) (AEv.int _ _) Z) (ap (.bool (!decide ((call.length : Int) = 2))) Z Z Z (pu_pick (b := false) Z (tm Z) (fun h => nomatch h) (fun _ => (tm Z))) (aops_nil ?_)))))
   obtain rfl := some_of h
   exact ⟨(), Weak.mkL [0] (by decide) ⟨⟨_, Z, (CellsLe.refl _), Z⟩, trivial⟩ ⟨AEv.tmp Z, AEv.tmp Z, AEv.tmp Z, trivial⟩⟩
 ·intro _
  have h := h20
  refine aw_cond (b := s19) (tm Z) (fun hb28 => ?_) (fun hb28 => ?_)
  ·replace h := ite_t hb28 h
   refine aw_seq (aw_region (ap (.int .i64 (-1)) Z Z Z (pu_assign Z (AEv.int _ _)) (ap (.int .i64 2) Z Z Z (pu_assign Z (AEv.int _ _)) (aops_nil (aw_ret ?_)))))
   obtain rfl := some_of h
   exact ⟨[.int .i64 (-1), .int .i64 2], _, [], ⟨(tm Z), (tm Z), trivial⟩, (AV.Le.refl _), Weak.mkL [] (by decide) trivial trivial, ⟨Z, Z⟩⟩
  ·replace h := ite_fb hb28 h
   refine aw_skip (aw_seq ?_)
   obtain ⟨c25, h⟩ := need_of h
   obtain ⟨r26, r26e, h⟩ := bind_some h
   refine aw_plan (by decide +kernel) [([], some 17, [2]), ([], some 18, [1]), ([1], some 19, [18]), ([2], some 20, [19]), ([0, 3], some 21, [17, 20]), ([4, 4, 0, 1, 2, 3, 4], some 6, [21])] Z [[], [], [1], [1, 2], [0, 1, 2, 3], [0, 1, 2, 3, 4]] [[(0, 0, false)], [], [], [], [], []] [[]] [[[(p15, .cells [.sl .no 14 (c_.Tenants.map api.Tenant.av), .int .i64 c_.Quantum, .int .i64 c_.Deadline])]]] [.agg [.sl .no 14 (c_.Tenants.map api.Tenant.av), .int .i64 c_.Quantum, .int .i64 c_.Deadline], .sl .no 1 (call.map AV.str), .vptr [.str (ix call 1)], .str (ix call 1), .int .i64 r26, .int .i64 r26] (by decide +kernel) Z Z ?_ ?_
   ·refine ⟨⟨[2], Z, stepg_plain Z (op_loadN (i := 0) Z isAgg78 sizeOf78 (tm Z) Z (Nat.le_of_ble_eq_true Z) Z ⟨Z, Z⟩)⟩, ?_⟩
    refine ⟨⟨[1], Z, stepg_pure Z (pu_move Z (tm Z))⟩, ?_⟩
    refine ⟨⟨[18], Z, stepg_pure Z (pu_indexAddrM Z underlying26 sizeOf9 (tm Z) (AEv.int _ _) c25 Z)⟩, ?_⟩
    refine ⟨⟨[19], Z, stepg_plain Z (op_loadV1 Z isAgg9 (tm Z) Z ⟨Z, Z⟩)⟩, ?_⟩
    refine ⟨⟨[17, 20], Z, stepg_plain Z (op_call (vs := [.agg [.sl .no 14 (c_.Tenants.map api.Tenant.av), .int .i64 c_.Quantum, .int .i64 c_.Deadline], .str (ix call 1)]) (H := []) Z call45 ⟨(tm Z), (tm Z), trivial⟩ (R := []) (List.Perm.refl _) (auth.Find.ok r26e) (by rintro _ _ ⟨rfl, rfl⟩; exact ⟨Z, Z⟩))⟩, ?_⟩
    refine ⟨⟨[21], Z, stepg_pure Z (pu_assign Z (tm Z))⟩, ?_⟩
    trivial
   refine aw_seq (aw_seq (aw_region (ap (.int .i64 r26) Z Z Z (pu_move Z (tm Z)) (ap (.bool (decide (r26 < 0))) Z Z Z (pu_int (v := .bool (decide (r26 < 0))) Z Z (tm Z) (AEv.int _ _) Z) (aops_nil (aw_cond (b := decide (r26 < 0)) (tm Z) (fun hb27 => ?_) (fun hb27 => ?_)))))))
   ·replace h := ite_t (dec_t hb27) h
    refine aw_seq (aw_region (ap (.int .i64 (-1)) Z Z Z (pu_assign Z (AEv.int _ _)) (ap (.int .i64 3) Z Z Z (pu_assign Z (AEv.int _ _)) (aops_nil (aw_ret ?_)))))
    obtain rfl := some_of h
    exact ⟨[.int .i64 (-1), .int .i64 3], _, [], ⟨(tm Z), (tm Z), trivial⟩, (AV.Le.refl _), Weak.mkL [] (by decide) trivial trivial, ⟨Z, Z⟩⟩
   ·replace h := ite_f (dec_f hb27) h
    refine aw_skip (aw_seq (aw_region (ap (.int .i64 r26) Z Z Z (pu_move Z (tm Z)) (ap (.int .i64 r26) Z Z Z (pu_assign Z (tm Z)) (ap (.int .i64 1) Z Z Z (pu_assign Z (AEv.int _ _)) (aops_nil (aw_ret ?_)))))))
    obtain rfl := some_of h
    exact ⟨[.int .i64 r26, .int .i64 1], _, [], ⟨(tm Z), (tm Z), trivial⟩, (AV.Le.refl _), Weak.mkL [] (by decide) trivial trivial, ⟨Z, Z⟩⟩

theorem auth.First.ok {c_ : api.Config} {in_ : api.Input} {s_ : List UInt8} {r : api.Input × (List UInt8) × Int × Int} (h : auth.First c_ in_ s_ = some r) : Go.Lift.Spec prog 47 [.agg [.sl .no 14 (c_.Tenants.map api.Tenant.av), .int .i64 c_.Quantum, .int .i64 c_.Deadline], .agg (api.Input.ct .no in_), .str s_] [] (fun v H => v = .tup [.agg [.str r.1.Rest, .sl .no 1 (r.1.Args.map AV.str), .int .i64 r.1.Left, .int .i64 r.1.Size, .bool r.1.Body, .int .i64 r.1.Need, .int .i64 r.1.Dead], .str r.2.1, .int .i64 r.2.2.1, .int .i64 r.2.2.2] ∧ H = []) := by
 unfold auth.First at h
 refine Go.Lift.Spec.of_body (rs := [.cell 6 29, .tmp 7, .tmp 8, .tmp 9]) func47 Z Z (Nat.le_of_ble_eq_true Z) Z (aw_seq (aw_region (ac Z Z Z (op_box (cs := [.sl .no 14 (c_.Tenants.map api.Tenant.av), .int .i64 c_.Quantum, .int .i64 c_.Deadline]) (v := .agg [.sl .no 14 (c_.Tenants.map api.Tenant.av), .int .i64 c_.Quantum, .int .i64 c_.Deadline]) Z (tm Z) Z Z ?_))))
 intro p81
 refine ac Z Z Z (op_box (cs := (api.Input.ct .no in_)) (v := .agg (api.Input.ct .no in_)) Z (tm Z) Z Z ?_)
 intro p82
 refine ac Z Z Z (op_alloc (cs := [.str ([] : List UInt8), .sl .full 1 (([] : List (List UInt8)).map AV.str), .int .i64 0, .int .i64 0, .bool false, .int .i64 0, .int .i64 0]) (v := .agg [.str ([] : List UInt8), .sl .full 1 (([] : List (List UInt8)).map AV.str), .int .i64 0, .int .i64 0, .bool false, .int .i64 0, .int .i64 0]) Z zeroValue29 Z Z Z ?_)
 intro p83
 refine ap (.str ([] : List UInt8)) Z Z Z (pu_assign Z (AEv.const Z)) (ap (.int .i64 0) Z Z Z (pu_assign Z (AEv.int _ _)) (ap (.int .i64 0) Z Z Z (pu_assign Z (AEv.int _ _)) (aops_nil (aw_seq (aw_seq (aw_region (ap (.ptr p82 6) Z Z Z (pu_fieldAddr Z underlying29 Z sizeOf27 (by decide) (tm Z) Z) (ac Z Z Z (op_load1 (i := 1) Z isAgg27 (tm Z) Z Z (ap (.bool (!decide (in_.Dead = 0))) Z Z Z (pu_int (v := .bool (!decide (in_.Dead = 0))) Z Z (tm Z) (AEv.int _ _) Z) ?_))))))))))
 refine aops_nil (aw_cond (b := (!decide (in_.Dead = 0))) (tm Z) (fun hb160 => ?_) (fun hb160 => ?_))
 ·replace h := ite_f (ndec_t hb160) h
  refine aw_seq (aw_region (ac Z Z Z (op_loadN (i := 1) Z isAgg29 sizeOf29 (tm Z) Z (Nat.le_of_ble_eq_true Z) Z (ac0 Z Z (op_store (i := 0) (cs' := (api.Input.ct .no in_)) Z sizeOf29 (tm Z) (v := .agg (api.Input.ct .no in_)) (tm Z) Z Z Z (Nat.le_of_ble_eq_true Z) Z (ap (.str ([] : List UInt8)) Z Z Z (pu_assign Z (AEv.const Z)) (ap (.int .i64 (-1)) Z Z Z (pu_assign Z (AEv.int _ _)) (ap (.int .i64 4) Z Z Z (pu_assign Z (AEv.int _ _)) (aops_nil (aw_ret ?_))))))))))
  obtain rfl := some_of h
  exact ⟨[.agg (api.Input.ct .no in_), .str ([] : List UInt8), .int .i64 (-1), .int .i64 4], .tup [.agg (api.Input.ct .no in_), .str ([] : List UInt8), .int .i64 (-1), .int .i64 4], [], ⟨(CellOk.agg 0 (tm Z) Z isAgg29 sizeOf29 (Nat.le_of_ble_eq_true Z) Z), (tm Z), (tm Z), (tm Z), trivial⟩, (AV.Le.tup (CellsLe.refl _)), Weak.mkL [] (by decide) trivial trivial, ⟨Z, Z⟩⟩
 ·replace h := ite_t (ndec_f hb160) h
  refine aw_skip ?_
  obtain ⟨s159, s159e, h121⟩ := bind_some h
  refine aw_join (σ := (List UInt8) × (List (List UInt8)) × Int × Int × Bool × Int × Int) (ν := Unit) (fun u v => [(4, .ptr p82 0), (6, .ptr p83 0)]) (fun u v => [(p82, .cells [.str u.1, .sl .no 1 (u.2.1.map AV.str), .int .i64 u.2.2.1, .int .i64 u.2.2.2.1, .bool u.2.2.2.2.1, .int .i64 u.2.2.2.2.2.1, .int .i64 u.2.2.2.2.2.2]), (p83, .cells [.str ([] : List UInt8), .sl .full 1 (([] : List (List UInt8)).map AV.str), .int .i64 0, .int .i64 0, .bool false, .int .i64 0, .int .i64 0])]) (fun u => s159 = .inl u) ?_ ?_
  ·intro s120
   intro _
   rintro rfl
   have h := onSum_inl h121
   refine aw_seq (aw_region (ac Z Z Z (op_loadN (i := 0) Z isAgg29 sizeOf29 (tm Z) Z (Nat.le_of_ble_eq_true Z) Z (ac0 Z Z (op_store (i := 1) (cs' := [.str s120.1, .sl .no 1 (s120.2.1.map AV.str), .int .i64 s120.2.2.1, .int .i64 s120.2.2.2.1, .bool s120.2.2.2.2.1, .int .i64 s120.2.2.2.2.2.1, .int .i64 s120.2.2.2.2.2.2]) Z sizeOf29 (tm Z) (v := .agg [.str s120.1, .sl .no 1 (s120.2.1.map AV.str), .int .i64 s120.2.2.1, .int .i64 s120.2.2.2.1, .bool s120.2.2.2.2.1, .int .i64 s120.2.2.2.2.2.1, .int .i64 s120.2.2.2.2.2.2]) (tm Z) Z Z Z (Nat.le_of_ble_eq_true Z) Z (ap (.str ([] : List UInt8)) Z Z Z (pu_assign Z (AEv.const Z)) (ap (.int .i64 (-1)) Z Z Z (pu_assign Z (AEv.int _ _)) (ap (.int .i64 0) Z Z Z (pu_assign Z (AEv.int _ _)) (aops_nil (aw_ret ?_))))))))))
   obtain rfl := some_of h
   exact ⟨[.agg [.str s120.1, .sl .no 1 (s120.2.1.map AV.str), .int .i64 s120.2.2.1, .int .i64 s120.2.2.2.1, .bool s120.2.2.2.2.1, .int .i64 s120.2.2.2.2.2.1, .int .i64 s120.2.2.2.2.2.2], .str ([] : List UInt8), .int .i64 (-1), .int .i64 0], .tup [.agg [.str s120.1, .sl .no 1 (s120.2.1.map AV.str), .int .i64 s120.2.2.1, .int .i64 s120.2.2.2.1, .bool s120.2.2.2.2.1, .int .i64 s120.2.2.2.2.2.1, .int .i64 s120.2.2.2.2.2.2], .str ([] : List UInt8), .int .i64 (-1), .int .i64 0], [], ⟨(CellOk.agg 1 (tm Z) Z isAgg29 sizeOf29 (Nat.le_of_ble_eq_true Z) Z), (tm Z), (tm Z), (tm Z), trivial⟩, (AV.Le.tup (CellsLe.refl _)), Weak.mkL [] (by decide) trivial trivial, ⟨Z, Z⟩⟩
  ·have h := s159e
   refine aw_seq (aw_region (ap (.str s_) Z Z Z (pu_move Z (tm Z)) (ap (.int .i64 (s_.length : Int)) Z Z Z (pu_strLen Z underlying9 (tm Z)) (ap (.int .i64 0) Z Z Z (pu_move Z (AEv.int _ _)) (aops_nil (aw_block (aw_while (σ := auth.First.S0) (ν := Unit) (auth.First.body0 s_ c_) (fun s145 v => [(2, .str s_), (3, .ptr p81 0), (4, .ptr p82 0), (6, .ptr p83 0), (21, .int .i64 (s_.length : Int)), (22, .int .i64 s145.t22)]) (fun s145 v => [(p81, .cells [.sl .no 14 (c_.Tenants.map api.Tenant.av), .int .i64 c_.Quantum, .int .i64 c_.Deadline]), (p82, .cells [.str s145.c, .sl .no 1 (s145.c2.map AV.str), .int .i64 s145.c3, .int .i64 s145.c4, .bool s145.c5, .int .i64 s145.c6, .int .i64 s145.c7]), (p83, .cells [.str ([] : List UInt8), .sl .full 1 (([] : List (List UInt8)).map AV.str), .int .i64 0, .int .i64 0, .bool false, .int .i64 0, .int .i64 0])]) ⟨0, in_.Rest, in_.Args, in_.Left, in_.Size, in_.Body, in_.Need, in_.Dead⟩ () _ h (Weak.mkL [2, 1, 0] (by decide) ⟨⟨_, Z, (CellsLe.refl _), Z⟩, ⟨_, Z, (CellsLe.refl _), Z⟩, ⟨_, Z, (CellsLe.refl _), Z⟩, trivial⟩ ⟨AEv.tmp Z, AEv.tmp Z, AEv.tmp Z, AEv.tmp Z, AEv.tmp Z, AEv.tmp Z, trivial⟩) ?_)))))))
   rintro s145 _ x147 h hx146
   unfold auth.First.body0 at h
   refine aw_seq (aw_region (ap (.bool (decide (s145.t22 < (s_.length : Int)))) Z Z Z (pu_int (v := .bool (decide (s145.t22 < (s_.length : Int)))) Z Z (tm Z) (tm Z) Z) (aops_nil (aw_seq (aw_cond (b := decide (s145.t22 < (s_.length : Int))) (tm Z) (fun hb158 => ?_) (fun hb158 => ?_))))))
   ·replace h := ite_t (dec_t hb158) h
    refine aw_skip (aw_seq (aw_block (aw_seq (aw_region (ap (.int .i64 s145.t22) Z Z Z (pu_move Z (tm Z)) (ap (.int .i64 s145.t22) Z Z Z (pu_assign Z (tm Z)) (aops_nil (aw_seq ?_))))))))
    obtain ⟨c149, h⟩ := need_of h
    obtain ⟨r150, r150e, h⟩ := bind_some h
    obtain ⟨r151, r151e, h⟩ := bind_some h
    refine aw_reserve fun p152 => (aw_plan (by decide +kernel) [([], some 26, [4]), ([], some 27, [2]), ([], some 28, [10]), ([], some 29, [10]), ([3], some 30, [29]), ([1, 2, 4], some 31, [27, 28, 30]), ([], some 32, []), ([0, 5, 6, 6], some 33, [26, 31, 32]), ([7], some 25, [33]), ([8], some 34, [25]), ([8], some 35, [25]), ([8], some 36, [25]), ([], some 11, []), ([12, 9, 7, 0, 1, 2, 3, 4, 5, 6, 7, 8, 9, 12], none, [11, 34]), ([10, 13, 0, 1, 2, 3, 4, 5, 6, 7, 8, 9, 10, 12, 13], some 12, [35]), ([11, 14, 0, 1, 2, 3, 4, 5, 6, 7, 8, 9, 10, 11, 12, 13, 14], some 13, [36])] Z [[], [], [], [], [3], [1, 2, 3, 4], [], [0, 1, 2, 3, 4, 5, 6], [0, 1, 2, 3, 4, 5, 6, 7], [0, 1, 2, 3, 4, 5, 6, 7, 8], [0, 1, 2, 3, 4, 5, 6, 7, 8], [0, 1, 2, 3, 4, 5, 6, 7, 8], [], [0, 1, 2, 3, 4, 5, 6, 7, 8, 9, 12], [0, 1, 2, 3, 4, 5, 6, 7, 8, 9, 10, 12, 13], [0, 1, 2, 3, 4, 5, 6, 7, 8, 9, 10, 11, 12, 13, 14]] [[(2, 0, false)], [], [], [], [], [], [], [], [], [], [], [], [(0, 0, true)], [(0, 1, true)], [], []] [[12, 13], [], [], []] [[[(p152, .resv)], [(p152, .cells [.str ([] : List UInt8), .sl .full 1 (([] : List (List UInt8)).map AV.str), .int .i64 0, .int .i64 0, .bool false, .int .i64 0, .int .i64 0])], [(p152, .cells (api.Input.ct .no r151.1))]], [[(p81, .cells [.sl .no 14 (c_.Tenants.map api.Tenant.av), .int .i64 c_.Quantum, .int .i64 c_.Deadline])]], [[(p82, .cells [.str s145.c, .sl .no 1 (s145.c2.map AV.str), .int .i64 s145.c3, .int .i64 s145.c4, .bool s145.c5, .int .i64 s145.c6, .int .i64 s145.c7])]], [[(p83, .cells [.str ([] : List UInt8), .sl .full 1 (([] : List (List UInt8)).map AV.str), .int .i64 0, .int .i64 0, .bool false, .int .i64 0, .int .i64 0])]]] [.agg [.str s145.c, .sl .no 1 (s145.c2.map AV.str), .int .i64 s145.c3, .int .i64 s145.c4, .bool s145.c5, .int .i64 s145.c6, .int .i64 s145.c7], .str s_, .int .i64 s145.t22, .int .i64 s145.t22, .int .i64 (IntKind.wrap .i64 (s145.t22 + 1)), .str (sub s_ s145.t22 (IntKind.wrap .i64 (s145.t22 + 1))), .agg [.int .i64 r150.Args, .int .i64 r150.Bulk, .int .i64 r150.Line], .tup [.agg (api.Input.ct .no r151.1), .sl .no 2 (r151.2.1.map api.Request.av), .int .i64 r151.2.2], .tup [.agg (api.Input.ct .no r151.1), .sl .no 2 (r151.2.1.map api.Request.av), .int .i64 r151.2.2], .agg (api.Input.ct .no r151.1), .sl .no 2 (r151.2.1.map api.Request.av), .int .i64 r151.2.2, .ptr p152 0, .un, .sl .no 2 (r151.2.1.map api.Request.av), .int .i64 r151.2.2] (by decide +kernel) Z Z ?_ ?_)
    ·refine ⟨⟨[4], Z, stepg_plain Z (op_loadN (i := 0) Z isAgg29 sizeOf29 (tm Z) Z (Nat.le_of_ble_eq_true Z) Z ⟨Z, Z⟩)⟩, ?_⟩
     refine ⟨⟨[2], Z, stepg_pure Z (pu_move Z (tm Z))⟩, ?_⟩
     refine ⟨⟨[10], Z, stepg_pure Z (pu_move Z (tm Z))⟩, ?_⟩
     refine ⟨⟨[10], Z, stepg_pure Z (pu_move Z (tm Z))⟩, ?_⟩
     refine ⟨⟨[29], Z, stepg_pure Z (pu_int (v := .int .i64 (IntKind.wrap .i64 (s145.t22 + 1))) Z Z (tm Z) (AEv.int _ _) Z)⟩, ?_⟩
     refine ⟨⟨[27, 28, 30], Z, stepg_pure Z (pu_strSliceM Z underlying9 (tm Z) ⟨_, (tm Z)⟩ ⟨_, (tm Z)⟩ c149)⟩, ?_⟩
     refine ⟨⟨[], Z, stepg_plain Z (op_call (vs := []) (H := []) Z call70 trivial (R := []) (List.Perm.refl _) (auth.limits.ok r150e) (by rintro _ _ ⟨rfl, rfl⟩; exact ⟨Z, Z⟩))⟩, ?_⟩
     refine ⟨⟨[26, 31, 32], Z, stepg_plain Z (aop_forget (.tup [.agg (api.Input.ct .no r151.1), .sl .no 2 (r151.2.1.map api.Request.av), .int .i64 r151.2.2]) [] (op_call (vs := [.agg [.str s145.c, .sl .no 1 (s145.c2.map AV.str), .int .i64 s145.c3, .int .i64 s145.c4, .bool s145.c5, .int .i64 s145.c6, .int .i64 s145.c7], .str (sub s_ s145.t22 (IntKind.wrap .i64 (s145.t22 + 1))), .agg [.int .i64 r150.Args, .int .i64 r150.Bulk, .int .i64 r150.Line]]) (H := []) Z call15 ⟨(tm Z), (tm Z), (tm Z), trivial⟩ (R := []) (List.Perm.refl _) (parse.Feed.ok r151e) (by rintro _ _ ⟨_, rfl, rfl⟩; exact ⟨([] : List Nat), _, Z, Z, (AV.Le.tup ⟨(AV.Le.refl _), (AV.Le.forget _ _ _), (AV.Le.refl _), trivial⟩), List.nodup_nil, Z⟩)) ⟨Z, Z⟩)⟩, ?_⟩
     refine ⟨⟨[33], Z, stepg_pure Z (pu_move Z (tm Z))⟩, ?_⟩
     refine ⟨⟨[25], Z, stepg_pure Z (pu_extract Z (tm Z) (Nat.le_of_ble_eq_true Z) Z)⟩, ?_⟩
     refine ⟨⟨[25], Z, stepg_pure Z (pu_extract Z (tm Z) (Nat.le_of_ble_eq_true Z) Z)⟩, ?_⟩
     refine ⟨⟨[25], Z, stepg_pure Z (pu_extract Z (tm Z) (Nat.le_of_ble_eq_true Z) Z)⟩, ?_⟩
     refine ⟨⟨[], Z, stepg_plain Z (aop_settleP (op_alloc (cs := [.str ([] : List UInt8), .sl .full 1 (([] : List (List UInt8)).map AV.str), .int .i64 0, .int .i64 0, .bool false, .int .i64 0, .int .i64 0]) (v := .agg [.str ([] : List UInt8), .sl .full 1 (([] : List (List UInt8)).map AV.str), .int .i64 0, .int .i64 0, .bool false, .int .i64 0, .int .i64 0]) Z zeroValue29 Z Z Z fun t => ⟨t, Z, Z⟩) ⟨Z, Z⟩)⟩, ?_⟩
     refine ⟨⟨[11, 34], Z, stepg_plain Z (op_store (i := 0) (cs' := (api.Input.ct .no r151.1)) Z sizeOf29 (tm Z) (v := .agg (api.Input.ct .no r151.1)) (tm Z) Z Z Z (Nat.le_of_ble_eq_true Z) Z ⟨Z, Z⟩)⟩, ?_⟩
     refine ⟨⟨[35], Z, stepg_pure Z (pu_assign Z (tm Z))⟩, ?_⟩
     refine ⟨⟨[36], Z, stepg_pure Z (pu_assign Z (tm Z))⟩, ?_⟩
     trivial
    refine aw_seq (aw_seq (aw_region (ap (.int .i64 r151.2.2) Z Z Z (pu_move Z (tm Z)) (ap (.bool (!decide (r151.2.2 = 0))) Z Z Z (pu_int (v := .bool (!decide (r151.2.2 = 0))) Z Z (tm Z) (AEv.int _ _) Z) (aops_nil (aw_cond (b := (!decide (r151.2.2 = 0))) (tm Z) (fun hb157 => ?_) (fun hb157 => ?_)))))))
    ·replace h := ite_f (ndec_t hb157) h
     refine aw_seq (aw_region (ac Z Z Z (op_loadN (i := 0) Z isAgg29 sizeOf29 (tm Z) Z (Nat.le_of_ble_eq_true Z) Z (ac0 Z Z (op_store (i := 3) (cs' := (api.Input.ct .no r151.1)) Z sizeOf29 (tm Z) (v := .agg (api.Input.ct .no r151.1)) (tm Z) Z Z Z (Nat.le_of_ble_eq_true Z) Z (ap (.str ([] : List UInt8)) Z Z Z (pu_assign Z (AEv.const Z)) (ap (.int .i64 (-1)) Z Z Z (pu_assign Z (AEv.int _ _)) (ap (.int .i64 4) Z Z Z (pu_assign Z (AEv.int _ _)) (aops_nil (aw_ret ?_))))))))))
     obtain rfl := some_of h
     have h := congrArg some (hx146 _ rfl)
     obtain rfl := some_of h
     have h := onSum_inr h121
     obtain rfl := some_of h
     exact ⟨[.agg (api.Input.ct .no r151.1), .str ([] : List UInt8), .int .i64 (-1), .int .i64 4], .tup [.agg (api.Input.ct .no r151.1), .str ([] : List UInt8), .int .i64 (-1), .int .i64 4], [], ⟨(CellOk.agg 3 (tm Z) Z isAgg29 sizeOf29 (Nat.le_of_ble_eq_true Z) Z), (tm Z), (tm Z), (tm Z), trivial⟩, (AV.Le.tup (CellsLe.refl _)), Weak.mkL [] (by decide) trivial trivial, ⟨Z, Z⟩⟩
    ·replace h := ite_t (ndec_f hb157) h
     refine aw_skip (aw_seq (aw_seq (aw_region (ap (.sl .no 2 (r151.2.1.map api.Request.av)) Z Z Z (pu_move Z (tm Z)) (ap (.int .i64 (r151.2.1.length : Int)) Z Z Z (pu_lenM Z underlying30 (tm Z)) (ap (.bool (decide (0 < (r151.2.1.length : Int)))) Z Z Z (pu_int (v := .bool (decide (0 < (r151.2.1.length : Int)))) Z Z (tm Z) (AEv.int _ _) Z) (aops_nil (aw_cond (b := decide (0 < (r151.2.1.length : Int))) (tm Z) (fun hb156 => ?_) (fun hb156 => ?_)))))))))
     ·replace h := ite_t (dec_t hb156) h
      refine aw_seq ?_
      obtain ⟨c153, h⟩ := need_of h
      obtain ⟨r154, r154e, h⟩ := bind_some h
      refine aw_plan (by decide +kernel) [([], some 44, [3]), ([], some 45, [12]), ([1], some 46, [45]), ([2], some 47, [46]), ([3], some 48, [47]), ([0, 4], some 49, [44, 48]), ([5], some 43, [49]), ([6], some 50, [43]), ([6], some 51, [43]), ([7, 5, 0, 1, 2, 3, 4, 5, 6, 7], some 14, [50]), ([8, 9, 0, 1, 2, 3, 4, 5, 6, 7, 8, 9], some 15, [51])] Z [[], [], [1], [1, 2], [1, 2, 3], [0, 1, 2, 3, 4], [0, 1, 2, 3, 4, 5], [0, 1, 2, 3, 4, 5, 6], [0, 1, 2, 3, 4, 5, 6], [0, 1, 2, 3, 4, 5, 6, 7], [0, 1, 2, 3, 4, 5, 6, 7, 8, 9]] [[(1, 0, false)], [], [], [], [], [], [], [], [], [], []] [[], [], [], []] [[[(p152, .cells (api.Input.ct .no r151.1))]], [[(p81, .cells [.sl .no 14 (c_.Tenants.map api.Tenant.av), .int .i64 c_.Quantum, .int .i64 c_.Deadline])]], [[(p82, .cells [.str s145.c, .sl .no 1 (s145.c2.map AV.str), .int .i64 s145.c3, .int .i64 s145.c4, .bool s145.c5, .int .i64 s145.c6, .int .i64 s145.c7])]], [[(p83, .cells [.str ([] : List UInt8), .sl .full 1 (([] : List (List UInt8)).map AV.str), .int .i64 0, .int .i64 0, .bool false, .int .i64 0, .int .i64 0])]]] [.agg [.sl .no 14 (c_.Tenants.map api.Tenant.av), .int .i64 c_.Quantum, .int .i64 c_.Deadline], .sl .no 2 (r151.2.1.map api.Request.av), .vptr [.sl .no 1 ((ix r151.2.1 0).Args.map AV.str), .int .i64 (ix r151.2.1 0).Size], .vptr [.sl .no 1 ((ix r151.2.1 0).Args.map AV.str), .int .i64 (ix r151.2.1 0).Size], .sl .no 1 ((ix r151.2.1 0).Args.map AV.str), .tup [.int .i64 r154.1, .int .i64 r154.2], .tup [.int .i64 r154.1, .int .i64 r154.2], .int .i64 r154.1, .int .i64 r154.2, .int .i64 r154.1, .int .i64 r154.2] (by decide +kernel) Z Z ?_ ?_
      ·refine ⟨⟨[3], Z, stepg_plain Z (op_loadN (i := 0) Z isAgg78 sizeOf78 (tm Z) Z (Nat.le_of_ble_eq_true Z) Z ⟨Z, Z⟩)⟩, ?_⟩
       refine ⟨⟨[12], Z, stepg_pure Z (pu_move Z (tm Z))⟩, ?_⟩
       refine ⟨⟨[45], Z, stepg_pure Z (pu_indexAddrM Z underlying30 sizeOf44 (tm Z) (AEv.int _ _) c153 Z)⟩, ?_⟩
       refine ⟨⟨[46], Z, stepg_pure Z (pu_fieldAddr Z underlying44 Z sizeOf26 (by decide) (tm Z) Z)⟩, ?_⟩
       refine ⟨⟨[47], Z, stepg_plain Z (op_loadV1 Z isAgg26 (tm Z) Z ⟨Z, Z⟩)⟩, ?_⟩
       refine ⟨⟨[44, 48], Z, stepg_plain Z (op_call (vs := [.agg [.sl .no 14 (c_.Tenants.map api.Tenant.av), .int .i64 c_.Quantum, .int .i64 c_.Deadline], .sl .no 1 ((ix r151.2.1 0).Args.map AV.str)]) (H := []) Z call71 ⟨(tm Z), (tm Z), trivial⟩ (R := []) (List.Perm.refl _) (auth.verdict.ok r154e) (by rintro _ _ ⟨rfl, rfl⟩; exact ⟨Z, Z⟩))⟩, ?_⟩
       refine ⟨⟨[49], Z, stepg_pure Z (pu_move Z (tm Z))⟩, ?_⟩
       refine ⟨⟨[43], Z, stepg_pure Z (pu_extract Z (tm Z) (Nat.le_of_ble_eq_true Z) Z)⟩, ?_⟩
       refine ⟨⟨[43], Z, stepg_pure Z (pu_extract Z (tm Z) (Nat.le_of_ble_eq_true Z) Z)⟩, ?_⟩
       refine ⟨⟨[50], Z, stepg_pure Z (pu_assign Z (tm Z))⟩, ?_⟩
       refine ⟨⟨[51], Z, stepg_pure Z (pu_assign Z (tm Z))⟩, ?_⟩
       trivial
      refine aw_seq ?_
      obtain ⟨c155, h⟩ := need_of h
      refine aw_plan (by decide +kernel) [([], some 52, []), ([], some 53, [2]), ([], some 54, [10]), ([2], some 55, [54]), ([1, 3], some 56, [53, 55]), ([], some 57, [14]), ([], some 58, [15]), ([0, 0], none, [6, 52]), ([4, 7, 0, 1, 2, 3, 4, 7], some 7, [56]), ([5, 8, 0, 1, 2, 3, 4, 5, 7, 8], some 8, [57]), ([6, 9, 0, 1, 2, 3, 4, 5, 6, 7, 8, 9], some 9, [58])] Z [[], [], [], [2], [1, 2, 3], [], [], [0], [0, 1, 2, 3, 4, 7], [0, 1, 2, 3, 4, 5, 7, 8], [0, 1, 2, 3, 4, 5, 6, 7, 8, 9]] [[], [], [], [], [], [], [], [(3, 0, true)], [], [], []] [[], [], [], [7]] [[[(p152, .cells (api.Input.ct .no r151.1))]], [[(p81, .cells [.sl .no 14 (c_.Tenants.map api.Tenant.av), .int .i64 c_.Quantum, .int .i64 c_.Deadline])]], [[(p82, .cells [.str s145.c, .sl .no 1 (s145.c2.map AV.str), .int .i64 s145.c3, .int .i64 s145.c4, .bool s145.c5, .int .i64 s145.c6, .int .i64 s145.c7])]], [[(p83, .cells [.str ([] : List UInt8), .sl .full 1 (([] : List (List UInt8)).map AV.str), .int .i64 0, .int .i64 0, .bool false, .int .i64 0, .int .i64 0])], [(p83, .cells [.str ([] : List UInt8), .sl .full 1 (([] : List (List UInt8)).map AV.str), .int .i64 0, .int .i64 0, .bool false, .int .i64 0, .int .i64 0])]]] [.agg [.str ([] : List UInt8), .sl .full 1 (([] : List (List UInt8)).map AV.str), .int .i64 0, .int .i64 0, .bool false, .int .i64 0, .int .i64 0], .str s_, .int .i64 s145.t22, .int .i64 (IntKind.wrap .i64 (s145.t22 + 1)), .str (sub s_ (IntKind.wrap .i64 (s145.t22 + 1)) (s_.length : Int)), .int .i64 r154.1, .int .i64 r154.2, .un, .str (sub s_ (IntKind.wrap .i64 (s145.t22 + 1)) (s_.length : Int)), .int .i64 r154.1, .int .i64 r154.2] (by decide +kernel) Z Z ?_ ?_
      ·refine ⟨⟨[], Z, stepg_pure Z (pu_build (zs := [.str ([] : List UInt8), .sl .full 1 (([] : List (List UInt8)).map AV.str), .int .i64 0, .int .i64 0, .bool false, .int .i64 0, .int .i64 0]) (szs := [1, 1, 1, 1, 1, 1, 1]) (aparts := []) (cs := [.str ([] : List UInt8), .sl .full 1 (([] : List (List UInt8)).map AV.str), .int .i64 0, .int .i64 0, .bool false, .int .i64 0, .int .i64 0]) Z underlying29 zeroValue29 Z ⟨sizeOf9, sizeOf26, sizeOf3, sizeOf3, sizeOf4, sizeOf3, sizeOf27, trivial⟩ trivial Z)⟩, ?_⟩
       refine ⟨⟨[2], Z, stepg_pure Z (pu_move Z (tm Z))⟩, ?_⟩
       refine ⟨⟨[10], Z, stepg_pure Z (pu_move Z (tm Z))⟩, ?_⟩
       refine ⟨⟨[54], Z, stepg_pure Z (pu_int (v := .int .i64 (IntKind.wrap .i64 (s145.t22 + 1))) Z Z (tm Z) (AEv.int _ _) Z)⟩, ?_⟩
       refine ⟨⟨[53, 55], Z, stepg_pure Z (pu_strSliceM Z underlying9 (tm Z) ⟨_, (tm Z)⟩ Z c155)⟩, ?_⟩
       refine ⟨⟨[14], Z, stepg_pure Z (pu_move Z (tm Z))⟩, ?_⟩
       refine ⟨⟨[15], Z, stepg_pure Z (pu_move Z (tm Z))⟩, ?_⟩
       refine ⟨⟨[6, 52], Z, stepg_plain Z (op_store (i := 0) (cs' := [.str ([] : List UInt8), .sl .full 1 (([] : List (List UInt8)).map AV.str), .int .i64 0, .int .i64 0, .bool false, .int .i64 0, .int .i64 0]) Z sizeOf29 (tm Z) (v := .agg [.str ([] : List UInt8), .sl .full 1 (([] : List (List UInt8)).map AV.str), .int .i64 0, .int .i64 0, .bool false, .int .i64 0, .int .i64 0]) (tm Z) Z Z Z (Nat.le_of_ble_eq_true Z) Z ⟨Z, Z⟩)⟩, ?_⟩
       refine ⟨⟨[56], Z, stepg_pure Z (pu_assign Z (tm Z))⟩, ?_⟩
       refine ⟨⟨[57], Z, stepg_pure Z (pu_assign Z (tm Z))⟩, ?_⟩
       refine ⟨⟨[58], Z, stepg_pure Z (pu_assign Z (tm Z))⟩, ?_⟩
       trivial
      refine aw_ret ?_
      obtain rfl := some_of h
      have h := congrArg some (hx146 _ rfl)
      obtain rfl := some_of h
      have h := onSum_inr h121
      obtain rfl := some_of h
      exact ⟨[.agg [.str ([] : List UInt8), .sl .full 1 (([] : List (List UInt8)).map AV.str), .int .i64 0, .int .i64 0, .bool false, .int .i64 0, .int .i64 0], .str (sub s_ (IntKind.wrap .i64 (s145.t22 + 1)) (s_.length : Int)), .int .i64 r154.1, .int .i64 r154.2], .tup [.agg [.str ([] : List UInt8), .sl .no 1 (([] : List (List UInt8)).map AV.str), .int .i64 0, .int .i64 0, .bool false, .int .i64 0, .int .i64 0], .str (sub s_ (IntKind.wrap .i64 (s145.t22 + 1)) (s_.length : Int)), .int .i64 r154.1, .int .i64 r154.2], [], ⟨(CellOk.agg 3 (tm Z) Z isAgg29 sizeOf29 (Nat.le_of_ble_eq_true Z) Z), (tm Z), (tm Z), (tm Z), trivial⟩, (AV.Le.tup ⟨(AV.Le.agg ⟨(AV.Le.refl _), (AV.Le.forget _ _ _), (AV.Le.refl _), (AV.Le.refl _), (AV.Le.refl _), (AV.Le.refl _), (AV.Le.refl _), trivial⟩), (AV.Le.refl _), (AV.Le.refl _), (AV.Le.refl _), trivial⟩), Weak.mkL [] (by decide) trivial trivial, ⟨Z, Z⟩⟩
     ·replace h := ite_f (dec_f hb156) h
      refine aw_skip (aw_region (ac Z Z Z (op_loadN (i := 0) Z isAgg29 sizeOf29 (tm Z) Z (Nat.le_of_ble_eq_true Z) Z (ac0 Z Z (op_store (i := 2) (cs' := (api.Input.ct .no r151.1)) Z sizeOf29 (tm Z) (v := .agg (api.Input.ct .no r151.1)) (tm Z) Z Z Z (Nat.le_of_ble_eq_true Z) Z (aops_nil (aw_region (ap (.int .i64 (IntKind.wrap .i64 (s145.t22 + 1))) Z Z Z (pu_int (v := .int .i64 (IntKind.wrap .i64 (s145.t22 + 1))) Z Z (tm Z) (AEv.int _ _) Z) (ap (.int .i64 (IntKind.wrap .i64 (s145.t22 + 1))) Z Z Z (pu_move Z (tm Z)) (aops_nil ?_))))))))))
      obtain rfl := some_of h
      exact ⟨_, (), Z, Weak.mkL [1, 2, 3] (by decide) ⟨⟨_, Z, (CellsLe.refl _), Z⟩, ⟨_, Z, (CellsLe.refl _), Z⟩, ⟨_, Z, (CellsLe.refl _), Z⟩, trivial⟩ ⟨AEv.tmp Z, AEv.tmp Z, AEv.tmp Z, AEv.tmp Z, AEv.tmp Z, (AEv.le (tm Z) (AV.Le.refl _)), trivial⟩⟩
   ·replace h := ite_f (dec_f hb158) h
    refine aw_exit ?_
    obtain rfl := some_of h
    have h := congrArg some (hx146 _ rfl)
    exact ⟨(s145.c, s145.c2, s145.c3, s145.c4, s145.c5, s145.c6, s145.c7), (), (some_of h).symm, Weak.mkL [1, 2] (by decide) ⟨⟨_, Z, (CellsLe.refl _), Z⟩, ⟨_, Z, (CellsLe.refl _), Z⟩, trivial⟩ ⟨AEv.tmp Z, AEv.tmp Z, trivial⟩⟩

theorem auth.may_1.ok {n_ : Int} {low : Int} {high : Int} {a3_ : Bool} {r : Bool} (h : auth.may_1 n_ low high a3_ = some r) (o0 : Nat) : Go.Lift.Spec prog 83 [.int .i64 n_, .int .i64 low, .int .i64 high, .ptr o0 0] [(o0, .cells [.bool a3_])] (fun v H => v = .tup [] ∧ H = [(o0, .cells [.bool r])]) := by
 unfold auth.may_1 at h
 refine Go.Lift.Spec.of_body (rs := []) func83 Z Z (Nat.le_of_ble_eq_true Z) Z (aw_upd (aw_region (ac Z Z Z (op_load1 (i := 0) Z isAgg4 (tm Z) Z Z (ap (.bool a3_) Z Z Z (pu_move Z (tm Z)) ?_)))))
 rcases Bool.eq_false_or_eq_true a3_ with hb3 | hb3
 ·replace h := ite_t hb3 h
  refine aops_known 8 Z hb3 (agp (.int .i64 n_) Z Z Z Z Z Z Z (pu_move Z (tm Z)) (agp (.int .i64 low) Z Z Z Z Z Z Z (pu_move Z (tm Z)) (agp (.bool (decide (low ≤ n_))) Z Z Z Z Z Z Z (pu_int (v := .bool (decide (low ≤ n_))) Z Z (tm Z) (tm Z) Z) (ap (.bool (decide (low ≤ n_))) Z Z Z (pu_pick (b := true) Z (tm Z) (fun _ => (tm Z)) (fun h => nomatch h)) (ap (.bool (decide (low ≤ n_))) Z Z Z (pu_move Z (tm Z)) ?_)))))
  rcases Bool.eq_false_or_eq_true (decide (low ≤ n_)) with hb4 | hb4
  ·replace h := ite_t (dec_t hb4) h
   refine aops_known 13 Z hb4 (agp (.int .i64 n_) Z Z Z Z Z Z Z (pu_move Z (tm Z)) (agp (.int .i64 high) Z Z Z Z Z Z Z (pu_move Z (tm Z)) (agp (.bool (decide (n_ ≤ high))) Z Z Z Z Z Z Z (pu_int (v := .bool (decide (n_ ≤ high))) Z Z (tm Z) (tm Z) Z) (ap (.bool (decide (n_ ≤ high))) Z Z Z (pu_pick (b := true) Z (tm Z) (fun _ => (tm Z)) (fun h => nomatch h)) (ac0 Z Z (op_store (i := 0) (cs' := [.bool (decide (n_ ≤ high))]) Z sizeOf4 (tm Z) (v := .bool (decide (n_ ≤ high))) (tm Z) Z Z Z (Nat.le_of_ble_eq_true Z) Z (aops_nil (upd_done ?_))))))))
   obtain rfl := some_of h
   exact ⟨[], _, [(o0, .cells [.bool (decide (n_ ≤ high))])], trivial, (AV.Le.refl _), Weak.mkL [0] (by decide) ⟨⟨_, Z, ⟨(AV.Le.refl _), trivial⟩, Z⟩, trivial⟩ trivial, ⟨Z, Z⟩⟩
  ·replace h := ite_f (dec_f hb4) h
   refine aops_known 13 Z hb4 (an Z Z Z Z Z Z Z Z (an Z Z Z Z Z Z Z Z (an Z Z Z Z Z Z Z Z (ap (.bool false) Z Z Z (pu_pick (b := false) Z (tm Z) (fun h => nomatch h) (fun _ => (AEv.bool _))) (ac0 Z Z (op_store (i := 0) (cs' := [.bool false]) Z sizeOf4 (tm Z) (v := .bool false) (tm Z) Z Z Z (Nat.le_of_ble_eq_true Z) Z (aops_nil (upd_done ?_))))))))
   obtain rfl := some_of h
   exact ⟨[], _, [(o0, .cells [.bool false])], trivial, (AV.Le.refl _), Weak.mkL [0] (by decide) ⟨⟨_, Z, ⟨(AV.Le.refl _), trivial⟩, Z⟩, trivial⟩ trivial, ⟨Z, Z⟩⟩
 ·replace h := ite_fb hb3 h
  refine aops_known 8 Z hb3 (an Z Z Z Z Z Z Z Z (an Z Z Z Z Z Z Z Z (an Z Z Z Z Z Z Z Z (ap (.bool false) Z Z Z (pu_pick (b := false) Z (tm Z) (fun h => nomatch h) (fun _ => (AEv.bool _))) (ap (.bool false) Z Z Z (pu_move Z (tm Z)) (an Z Z Z Z Z Z Z Z (an Z Z Z Z Z Z Z Z (an Z Z Z Z Z Z Z Z (ap (.bool false) Z Z Z (pu_pick (b := false) Z (tm Z) (fun h => nomatch h) (fun _ => (AEv.bool _))) ?_)))))))))
  refine ac0 Z Z (op_store (i := 0) (cs' := [.bool false]) Z sizeOf4 (tm Z) (v := .bool false) (tm Z) Z Z Z (Nat.le_of_ble_eq_true Z) Z (aops_nil (upd_done ?_)))
  obtain rfl := some_of h
  exact ⟨[], _, [(o0, .cells [.bool false])], trivial, (AV.Le.refl _), Weak.mkL [0] (by decide) ⟨⟨_, Z, ⟨(AV.Le.refl _), trivial⟩, Z⟩, trivial⟩ trivial, ⟨Z, Z⟩⟩

theorem auth.may.ok {t_ : api.Tenant} {r : Bool} (h : auth.may t_ = some r) : Go.Lift.Spec prog 64 [.agg (api.Tenant.ct t_)] [] (fun v H => v = .bool r ∧ H = []) := by
 unfold auth.may at h
 refine Go.Lift.Spec.of_body (rs := [.tmp 2]) func64 Z Z (Nat.le_of_ble_eq_true Z) Z (aw_seq (aw_region (ac Z Z Z (op_box (cs := (api.Tenant.ct t_)) (v := .agg (api.Tenant.ct t_)) Z (tm Z) Z Z ?_))))
 intro p17
 refine ap (.bool false) Z Z Z (pu_assign Z (AEv.bool _)) (aops_nil (aw_seq (aw_region (ac Z Z Z (op_alloc (cs := [.bool false]) (v := .bool false) Z zeroValue4 Z Z Z ?_)))))
 intro p18
 refine ac0 Z Z (op_store (i := 0) (cs' := [.bool true]) Z sizeOf4 (tm Z) (v := .bool true) (AEv.bool _) Z Z Z (Nat.le_of_ble_eq_true Z) Z (aops_nil (aw_seq (aw_region (ap (.fn 83 [.ptr p18 0]) Z Z Z (pu_makeFunc Z ⟨(tm Z), trivial⟩) (ap (.fn 83 [.ptr p18 0]) Z Z Z (pu_assign Z (tm Z)) (aops_nil (aw_seq (aw_region (ap (.fn 83 [.ptr p18 0]) Z Z Z (pu_move Z (tm Z)) ?_))))))))))
 refine ap (.ptr p17 0) Z Z Z (pu_fieldAddr Z underlying53 Z sizeOf9 (by decide) (tm Z) Z) (ac Z Z Z (op_load1 (i := 1) Z isAgg9 (tm Z) Z Z (ap (.int .i64 (t_.Name.length : Int)) Z Z Z (pu_strLen Z underlying9 (tm Z)) ?_)))
 obtain ⟨r19, r19e, h⟩ := bind_some h
 refine ac Z Z Z (op_callV (vs := [.int .i64 (t_.Name.length : Int), .int .i64 1, .int .i64 64]) (H := [(p18, .cells [.bool true])]) Z (tm Z) call83 ⟨(tm Z), (AEv.int _ _), (AEv.int _ _), trivial⟩ (List.Perm.refl _) (auth.may_1.ok r19e p18) ?_)
 rintro _ _ ⟨rfl, rfl⟩
 refine aops_nil (aw_seq (aw_region (ap (.fn 83 [.ptr p18 0]) Z Z Z (pu_move Z (tm Z)) (ap (.ptr p17 1) Z Z Z (pu_fieldAddr Z underlying53 Z sizeOf9 (by decide) (tm Z) Z) (ac Z Z Z (op_load1 (i := 1) Z isAgg9 (tm Z) Z Z (ap (.int .i64 (t_.Token.length : Int)) Z Z Z (pu_strLen Z underlying9 (tm Z)) ?_)))))))
 obtain ⟨r20, r20e, h⟩ := bind_some h
 refine ac Z Z Z (op_callV (vs := [.int .i64 (t_.Token.length : Int), .int .i64 1, .int .i64 64]) (H := [(p18, .cells [.bool r19])]) Z (tm Z) call83 ⟨(tm Z), (AEv.int _ _), (AEv.int _ _), trivial⟩ (List.Perm.refl _) (auth.may_1.ok r20e p18) ?_)
 rintro _ _ ⟨rfl, rfl⟩
 refine aops_nil (aw_seq (aw_region (ap (.fn 83 [.ptr p18 0]) Z Z Z (pu_move Z (tm Z)) (ap (.ptr p17 2) Z Z Z (pu_fieldAddr Z underlying53 Z sizeOf3 (by decide) (tm Z) Z) (ac Z Z Z (op_load1 (i := 1) Z isAgg3 (tm Z) Z Z ?_))))))
 obtain ⟨r21, r21e, h⟩ := bind_some h
 refine ac Z Z Z (op_callV (vs := [.int .i64 t_.Memory, .int .i64 0, .int .i64 524288]) (H := [(p18, .cells [.bool r20])]) Z (tm Z) call83 ⟨(tm Z), (AEv.int _ _), (AEv.int _ _), trivial⟩ (List.Perm.refl _) (auth.may_1.ok r21e p18) ?_)
 rintro _ _ ⟨rfl, rfl⟩
 refine aops_nil (aw_seq (aw_region (ap (.fn 83 [.ptr p18 0]) Z Z Z (pu_move Z (tm Z)) (ap (.ptr p17 3) Z Z Z (pu_fieldAddr Z underlying53 Z sizeOf3 (by decide) (tm Z) Z) (ac Z Z Z (op_load1 (i := 1) Z isAgg3 (tm Z) Z Z ?_))))))
 obtain ⟨r22, r22e, h⟩ := bind_some h
 refine ac Z Z Z (op_callV (vs := [.int .i64 t_.Policy, .int .i64 0, .int .i64 5]) (H := [(p18, .cells [.bool r21])]) Z (tm Z) call83 ⟨(tm Z), (AEv.int _ _), (AEv.int _ _), trivial⟩ (List.Perm.refl _) (auth.may_1.ok r22e p18) ?_)
 rintro _ _ ⟨rfl, rfl⟩
 refine aops_nil (aw_seq (aw_region (ap (.fn 83 [.ptr p18 0]) Z Z Z (pu_move Z (tm Z)) (ap (.ptr p17 4) Z Z Z (pu_fieldAddr Z underlying53 Z sizeOf3 (by decide) (tm Z) Z) (ac Z Z Z (op_load1 (i := 1) Z isAgg3 (tm Z) Z Z ?_))))))
 obtain ⟨r23, r23e, h⟩ := bind_some h
 refine ac Z Z Z (op_callV (vs := [.int .i64 t_.Conns, .int .i64 1, .int .i64 64]) (H := [(p18, .cells [.bool r22])]) Z (tm Z) call83 ⟨(tm Z), (AEv.int _ _), (AEv.int _ _), trivial⟩ (List.Perm.refl _) (auth.may_1.ok r23e p18) ?_)
 rintro _ _ ⟨rfl, rfl⟩
 refine aops_nil (aw_seq (aw_region (ap (.fn 83 [.ptr p18 0]) Z Z Z (pu_move Z (tm Z)) (ap (.ptr p17 5) Z Z Z (pu_fieldAddr Z underlying53 Z sizeOf3 (by decide) (tm Z) Z) (ac Z Z Z (op_load1 (i := 1) Z isAgg3 (tm Z) Z Z ?_))))))
 obtain ⟨r24, r24e, h⟩ := bind_some h
 refine ac Z Z Z (op_callV (vs := [.int .i64 t_.In, .int .i64 64, .int .i64 1048576]) (H := [(p18, .cells [.bool r23])]) Z (tm Z) call83 ⟨(tm Z), (AEv.int _ _), (AEv.int _ _), trivial⟩ (List.Perm.refl _) (auth.may_1.ok r24e p18) ?_)
 rintro _ _ ⟨rfl, rfl⟩
 refine aops_nil (aw_seq (aw_region (ap (.fn 83 [.ptr p18 0]) Z Z Z (pu_move Z (tm Z)) (ap (.ptr p17 6) Z Z Z (pu_fieldAddr Z underlying53 Z sizeOf3 (by decide) (tm Z) Z) (ac Z Z Z (op_load1 (i := 1) Z isAgg3 (tm Z) Z Z ?_))))))
 obtain ⟨r25, r25e, h⟩ := bind_some h
 refine ac Z Z Z (op_callV (vs := [.int .i64 t_.Out, .int .i64 64, .int .i64 4194304]) (H := [(p18, .cells [.bool r24])]) Z (tm Z) call83 ⟨(tm Z), (AEv.int _ _), (AEv.int _ _), trivial⟩ (List.Perm.refl _) (auth.may_1.ok r25e p18) ?_)
 rintro _ _ ⟨rfl, rfl⟩
 refine aops_nil (aw_seq (aw_region (ap (.fn 83 [.ptr p18 0]) Z Z Z (pu_move Z (tm Z)) (ap (.ptr p17 7) Z Z Z (pu_fieldAddr Z underlying53 Z sizeOf3 (by decide) (tm Z) Z) (ac Z Z Z (op_load1 (i := 1) Z isAgg3 (tm Z) Z Z ?_))))))
 obtain ⟨r26, r26e, h⟩ := bind_some h
 refine ac Z Z Z (op_callV (vs := [.int .i64 t_.Burst, .int .i64 1, .int .i64 1073741824]) (H := [(p18, .cells [.bool r25])]) Z (tm Z) call83 ⟨(tm Z), (AEv.int _ _), (AEv.int _ _), trivial⟩ (List.Perm.refl _) (auth.may_1.ok r26e p18) ?_)
 rintro _ _ ⟨rfl, rfl⟩
 refine aops_nil (aw_seq (aw_region (ap (.fn 83 [.ptr p18 0]) Z Z Z (pu_move Z (tm Z)) (ap (.ptr p17 8) Z Z Z (pu_fieldAddr Z underlying53 Z sizeOf3 (by decide) (tm Z) Z) (ac Z Z Z (op_load1 (i := 1) Z isAgg3 (tm Z) Z Z ?_))))))
 obtain ⟨r27, r27e, h⟩ := bind_some h
 refine ac Z Z Z (op_callV (vs := [.int .i64 t_.Rate, .int .i64 0, .int .i64 1048576]) (H := [(p18, .cells [.bool r26])]) Z (tm Z) call83 ⟨(tm Z), (AEv.int _ _), (AEv.int _ _), trivial⟩ (List.Perm.refl _) (auth.may_1.ok r27e p18) ?_)
 rintro _ _ ⟨rfl, rfl⟩
 refine aops_nil (aw_seq (aw_region (ap (.fn 83 [.ptr p18 0]) Z Z Z (pu_move Z (tm Z)) (ap (.ptr p17 9) Z Z Z (pu_fieldAddr Z underlying53 Z sizeOf3 (by decide) (tm Z) Z) (ac Z Z Z (op_load1 (i := 1) Z isAgg3 (tm Z) Z Z ?_))))))
 obtain ⟨r28, r28e, h⟩ := bind_some h
 refine ac Z Z Z (op_callV (vs := [.int .i64 t_.Disk, .int .i64 0, .int .i64 67108864]) (H := [(p18, .cells [.bool r27])]) Z (tm Z) call83 ⟨(tm Z), (AEv.int _ _), (AEv.int _ _), trivial⟩ (List.Perm.refl _) (auth.may_1.ok r28e p18) ?_)
 rintro _ _ ⟨rfl, rfl⟩
 refine aops_nil (aw_seq (aw_region (ap (.fn 83 [.ptr p18 0]) Z Z Z (pu_move Z (tm Z)) (ap (.ptr p17 10) Z Z Z (pu_fieldAddr Z underlying53 Z sizeOf3 (by decide) (tm Z) Z) (ac Z Z Z (op_load1 (i := 1) Z isAgg3 (tm Z) Z Z ?_))))))
 obtain ⟨r29, r29e, h⟩ := bind_some h
 refine ac Z Z Z (op_callV (vs := [.int .i64 t_.Sync, .int .i64 1, .int .i64 3]) (H := [(p18, .cells [.bool r28])]) Z (tm Z) call83 ⟨(tm Z), (AEv.int _ _), (AEv.int _ _), trivial⟩ (List.Perm.refl _) (auth.may_1.ok r29e p18) ?_)
 rintro _ _ ⟨rfl, rfl⟩
 refine aops_nil (aw_seq (aw_region (ap (.fn 83 [.ptr p18 0]) Z Z Z (pu_move Z (tm Z)) (ap (.ptr p17 11) Z Z Z (pu_fieldAddr Z underlying53 Z sizeOf23 (by decide) (tm Z) Z) (ap (.ptr p17 11) Z Z Z (pu_fieldAddr Z underlying23 Z sizeOf3 (by decide) (tm Z) Z) (ac Z Z Z (op_load1 (i := 1) Z isAgg3 (tm Z) Z Z ?_)))))))
 obtain ⟨r30, r30e, h⟩ := bind_some h
 refine ac Z Z Z (op_callV (vs := [.int .i64 t_.Limits.Args, .int .i64 1, .int .i64 65536]) (H := [(p18, .cells [.bool r29])]) Z (tm Z) call83 ⟨(tm Z), (AEv.int _ _), (AEv.int _ _), trivial⟩ (List.Perm.refl _) (auth.may_1.ok r30e p18) ?_)
 rintro _ _ ⟨rfl, rfl⟩
 refine aops_nil (aw_seq (aw_region (ap (.fn 83 [.ptr p18 0]) Z Z Z (pu_move Z (tm Z)) (ap (.ptr p17 11) Z Z Z (pu_fieldAddr Z underlying53 Z sizeOf23 (by decide) (tm Z) Z) (ap (.ptr p17 12) Z Z Z (pu_fieldAddr Z underlying23 Z sizeOf3 (by decide) (tm Z) Z) (ac Z Z Z (op_load1 (i := 1) Z isAgg3 (tm Z) Z Z ?_)))))))
 obtain ⟨r31, r31e, h⟩ := bind_some h
 refine ac Z Z Z (op_callV (vs := [.int .i64 t_.Limits.Bulk, .int .i64 1, .int .i64 1048576]) (H := [(p18, .cells [.bool r30])]) Z (tm Z) call83 ⟨(tm Z), (AEv.int _ _), (AEv.int _ _), trivial⟩ (List.Perm.refl _) (auth.may_1.ok r31e p18) ?_)
 rintro _ _ ⟨rfl, rfl⟩
 refine aops_nil (aw_seq (aw_region (ap (.fn 83 [.ptr p18 0]) Z Z Z (pu_move Z (tm Z)) (ap (.ptr p17 11) Z Z Z (pu_fieldAddr Z underlying53 Z sizeOf23 (by decide) (tm Z) Z) (ap (.ptr p17 13) Z Z Z (pu_fieldAddr Z underlying23 Z sizeOf3 (by decide) (tm Z) Z) (ac Z Z Z (op_load1 (i := 1) Z isAgg3 (tm Z) Z Z ?_)))))))
 obtain ⟨r32, r32e, h⟩ := bind_some h
 refine ac Z Z Z (op_callV (vs := [.int .i64 t_.Limits.Line, .int .i64 1, .int .i64 65536]) (H := [(p18, .cells [.bool r31])]) Z (tm Z) call83 ⟨(tm Z), (AEv.int _ _), (AEv.int _ _), trivial⟩ (List.Perm.refl _) (auth.may_1.ok r32e p18) ?_)
 rintro _ _ ⟨rfl, rfl⟩
 refine aops_nil (aw_seq (aw_region (ac Z Z Z (op_load1 (i := 0) Z isAgg4 (tm Z) Z Z (ap (.bool r32) Z Z Z (pu_assign Z (tm Z)) (aops_nil (aw_ret ?_)))))))
 obtain rfl := some_of h
 exact ⟨[.bool r32], _, [], ⟨(tm Z), trivial⟩, (AV.Le.refl _), Weak.mkL [] (by decide) trivial trivial, ⟨Z, Z⟩⟩

theorem auth.Right_1.ok {t_ : api.Tenant} {r : Bool} (h : auth.Right_1 t_ = some r) : Go.Lift.Spec prog 63 [.agg (api.Tenant.ct t_)] [] (fun v H => v = .bool r ∧ H = []) := by
 unfold auth.Right_1 at h
 refine Go.Lift.Spec.of_body (rs := [.tmp 2]) func63 Z Z (Nat.le_of_ble_eq_true Z) Z (aw_seq (aw_region (ac Z Z Z (op_box (cs := (api.Tenant.ct t_)) (v := .agg (api.Tenant.ct t_)) Z (tm Z) Z Z ?_))))
 intro p3
 refine ap (.bool false) Z Z Z (pu_assign Z (AEv.bool _)) (aops_nil (aw_seq (aw_region (ac Z Z Z (op_loadN (i := 0) Z isAgg53 sizeOf53 (tm Z) Z (Nat.le_of_ble_eq_true Z) Z ?_)))))
 obtain ⟨r4, r4e, h⟩ := bind_some h
 refine ac Z Z Z (op_call (vs := [.agg (api.Tenant.ct t_)]) (H := []) Z call64 ⟨(tm Z), trivial⟩ (List.Perm.refl _) (auth.may.ok r4e) ?_)
 rintro _ _ ⟨rfl, rfl⟩
 refine ap (.bool (!r4)) Z Z Z (pu_not Z (tm Z)) (ap (.bool (!r4)) Z Z Z (pu_assign Z (tm Z)) (aops_nil (aw_ret ?_)))
 obtain rfl := some_of h
 exact ⟨[.bool (!r4)], _, [], ⟨(tm Z), trivial⟩, (AV.Le.refl _), Weak.mkL [] (by decide) trivial trivial, ⟨Z, Z⟩⟩

theorem slices.IndexFunc_api_Tenant_auth_Right_1.ok {s_ : List api.Tenant} {r : Int} (h : slices.IndexFunc_api_Tenant_auth_Right_1 s_ = some r) : Go.Lift.Spec prog 68 [.sl .no 14 (s_.map api.Tenant.av), .fn 63 []] [] (fun v H => v = .int .i64 r ∧ H = []) := by
 unfold slices.IndexFunc_api_Tenant_auth_Right_1 at h
 refine Go.Lift.Spec.of_body (rs := [.tmp 4]) func68 Z Z (Nat.le_of_ble_eq_true Z) Z (aw_seq (aw_region (ap (.int .i64 0) Z Z Z (pu_assign Z (AEv.int _ _)) (aops_nil ?_))))
 obtain ⟨s80, s80e, h60⟩ := bind_some h
 refine aw_join (σ := Unit) (ν := Unit) (fun u v => []) (fun u v => []) (fun u => s80 = .inl u) ?_ ?_
 ·intro s59
  intro _
  rintro rfl
  have h := onSum_inl h60
  refine aw_seq (aw_region (ap (.int .i64 (-1)) Z Z Z (pu_assign Z (AEv.int _ _)) (aops_nil (aw_ret ?_))))
  obtain rfl := some_of h
  exact ⟨[.int .i64 (-1)], _, [], ⟨(tm Z), trivial⟩, (AV.Le.refl _), Weak.mkL [] (by decide) trivial trivial, ⟨Z, Z⟩⟩
 ·have h := s80e
  refine aw_seq (aw_region (ap (.sl .no 14 (s_.map api.Tenant.av)) Z Z Z (pu_move Z (tm Z)) (ap (.int .i64 (s_.length : Int)) Z Z Z (pu_lenM Z underlying76 (tm Z)) (ap (.int .i64 0) Z Z Z (pu_move Z (AEv.int _ _)) (aops_nil (aw_block (aw_while (σ := slices.IndexFunc_api_Tenant_auth_Right_1.S0) (ν := Unit) (slices.IndexFunc_api_Tenant_auth_Right_1.body0 s_) (fun s72 v => [(0, .sl .no 14 (s_.map api.Tenant.av)), (1, .fn 63 []), (7, .int .i64 (s_.length : Int)), (8, .int .i64 s72.t8)]) (fun s72 v => []) ⟨0⟩ () _ h (Weak.mkL [] (by decide) trivial ⟨AEv.tmp Z, AEv.tmp Z, AEv.tmp Z, AEv.tmp Z, trivial⟩) ?_)))))))
  rintro s72 _ x74 h hx73
  unfold slices.IndexFunc_api_Tenant_auth_Right_1.body0 at h
  refine aw_seq (aw_region (ap (.bool (decide (s72.t8 < (s_.length : Int)))) Z Z Z (pu_int (v := .bool (decide (s72.t8 < (s_.length : Int)))) Z Z (tm Z) (tm Z) Z) (aops_nil (aw_seq (aw_cond (b := decide (s72.t8 < (s_.length : Int))) (tm Z) (fun hb79 => ?_) (fun hb79 => ?_))))))
  ·replace h := ite_t (dec_t hb79) h
   refine aw_skip (aw_seq (aw_block (aw_seq (aw_region (ap (.int .i64 s72.t8) Z Z Z (pu_move Z (tm Z)) (ap (.int .i64 s72.t8) Z Z Z (pu_assign Z (tm Z)) (aops_nil (aw_seq (aw_region ?_)))))))))
   refine ap (.fn 63 []) Z Z Z (pu_move Z (tm Z)) (ap (.sl .no 14 (s_.map api.Tenant.av)) Z Z Z (pu_move Z (tm Z)) (ap (.int .i64 s72.t8) Z Z Z (pu_move Z (tm Z)) ?_))
   obtain ⟨c76, h⟩ := need_of h
   refine ap (.vptr [.str (ix s_ s72.t8).Name, .str (ix s_ s72.t8).Token, .int .i64 (ix s_ s72.t8).Memory, .int .i64 (ix s_ s72.t8).Policy, .int .i64 (ix s_ s72.t8).Conns, .int .i64 (ix s_ s72.t8).In, .int .i64 (ix s_ s72.t8).Out, .int .i64 (ix s_ s72.t8).Burst, .int .i64 (ix s_ s72.t8).Rate, .int .i64 (ix s_ s72.t8).Disk, .int .i64 (ix s_ s72.t8).Sync, .int .i64 (ix s_ s72.t8).Limits.Args, .int .i64 (ix s_ s72.t8).Limits.Bulk, .int .i64 (ix s_ s72.t8).Limits.Line]) Z Z Z (pu_indexAddrM Z underlying76 sizeOf53 (tm Z) (tm Z) c76 Z) (ac Z Z Z (op_loadVN Z isAgg53 sizeOf53 (tm Z) (Nat.le_of_ble_eq_true Z) Z ?_))
   obtain ⟨r77, r77e, h⟩ := bind_some h
   refine ac Z Z Z (op_callV (vs := [.agg (api.Tenant.ct (ix s_ s72.t8))]) (H := []) Z (tm Z) call63 ⟨(tm Z), trivial⟩ (List.Perm.refl _) (auth.Right_1.ok r77e) ?_)
   rintro _ _ ⟨rfl, rfl⟩
   refine aops_nil (aw_cond (b := r77) (tm Z) (fun hb78 => ?_) (fun hb78 => ?_))
   ·replace h := ite_t hb78 h
    refine aw_seq (aw_region (ap (.int .i64 s72.t8) Z Z Z (pu_move Z (tm Z)) (ap (.int .i64 s72.t8) Z Z Z (pu_assign Z (tm Z)) (aops_nil (aw_ret ?_)))))
    obtain rfl := some_of h
    have h := congrArg some (hx73 _ rfl)
    obtain rfl := some_of h
    have h := onSum_inr h60
    obtain rfl := some_of h
    exact ⟨[.int .i64 s72.t8], _, [], ⟨(tm Z), trivial⟩, (AV.Le.refl _), Weak.mkL [] (by decide) trivial trivial, ⟨Z, Z⟩⟩
   ·replace h := ite_fb hb78 h
    refine aw_skip (aw_region (ap (.int .i64 (IntKind.wrap .i64 (s72.t8 + 1))) Z Z Z (pu_int (v := .int .i64 (IntKind.wrap .i64 (s72.t8 + 1))) Z Z (tm Z) (AEv.int _ _) Z) (ap (.int .i64 (IntKind.wrap .i64 (s72.t8 + 1))) Z Z Z (pu_move Z (tm Z)) (aops_nil ?_))))
    obtain rfl := some_of h
    exact ⟨_, (), Z, Weak.mkL [] (by decide) trivial ⟨AEv.tmp Z, AEv.tmp Z, AEv.tmp Z, (AEv.le (tm Z) (AV.Le.refl _)), trivial⟩⟩
  ·replace h := ite_f (dec_f hb79) h
   refine aw_exit ?_
   obtain rfl := some_of h
   have h := congrArg some (hx73 _ rfl)
   exact ⟨(), (), (some_of h).symm, Weak.mkL [] (by decide) trivial trivial⟩

theorem slices.ContainsFunc_api_Tenant_auth_Right_1.ok {s_ : List api.Tenant} {r : Bool} (h : slices.ContainsFunc_api_Tenant_auth_Right_1 s_ = some r) : Go.Lift.Spec prog 65 [.sl .no 14 (s_.map api.Tenant.av), .fn 63 []] [] (fun v H => v = .bool r ∧ H = []) := by
 unfold slices.ContainsFunc_api_Tenant_auth_Right_1 at h
 refine Go.Lift.Spec.of_body (rs := [.tmp 4]) func65 Z Z (Nat.le_of_ble_eq_true Z) Z (aw_seq (aw_region (ap (.bool false) Z Z Z (pu_assign Z (AEv.bool _)) (aops_nil (aw_seq (aw_region (ap (.sl .no 14 (s_.map api.Tenant.av)) Z Z Z (pu_move Z (tm Z)) (ap (.fn 63 []) Z Z Z (pu_move Z (tm Z)) ?_))))))))
 obtain ⟨r2, r2e, h⟩ := bind_some h
 refine ac Z Z Z (op_call (vs := [.sl .no 14 (s_.map api.Tenant.av), .fn 63 []]) (H := []) Z call68 ⟨(tm Z), (tm Z), trivial⟩ (List.Perm.refl _) (slices.IndexFunc_api_Tenant_auth_Right_1.ok r2e) ?_)
 rintro _ _ ⟨rfl, rfl⟩
 refine ap (.bool (decide (0 ≤ r2))) Z Z Z (pu_int (v := .bool (decide (0 ≤ r2))) Z Z (tm Z) (AEv.int _ _) Z) (ap (.bool (decide (0 ≤ r2))) Z Z Z (pu_assign Z (tm Z)) (aops_nil (aw_ret ?_)))
 obtain rfl := some_of h
 exact ⟨[.bool (decide (0 ≤ r2))], _, [], ⟨(tm Z), trivial⟩, (AV.Le.refl _), Weak.mkL [] (by decide) trivial trivial, ⟨Z, Z⟩⟩

theorem auth.Right.ok {c_ : api.Config} {r : Int} (h : auth.Right c_ = some r) : Go.Lift.Spec prog 43 [.agg [.sl .no 14 (c_.Tenants.map api.Tenant.av), .int .i64 c_.Quantum, .int .i64 c_.Deadline]] [] (fun v H => v = .int .i64 r ∧ H = []) := by
 unfold auth.Right at h
 refine Go.Lift.Spec.of_body (rs := [.tmp 2]) func43 Z Z (Nat.le_of_ble_eq_true Z) Z (aw_seq (aw_region (ac Z Z Z (op_box (cs := [.sl .no 14 (c_.Tenants.map api.Tenant.av), .int .i64 c_.Quantum, .int .i64 c_.Deadline]) (v := .agg [.sl .no 14 (c_.Tenants.map api.Tenant.av), .int .i64 c_.Quantum, .int .i64 c_.Deadline]) Z (tm Z) Z Z ?_))))
 intro p500
 refine ap (.int .i64 0) Z Z Z (pu_assign Z (AEv.int _ _)) (aops_nil (aw_seq ?_))
 obtain ⟨s502, s502e, h503⟩ := letO_of h
 refine aw_meet (ν := Unit) (fun v => [(1, .ptr p500 0), (17, .bool s502)]) (fun v => [(p500, .cells [.sl .no 14 (c_.Tenants.map api.Tenant.av), .int .i64 c_.Quantum, .int .i64 c_.Deadline])]) ?_ ?_
 ·have h := s502e.symm
  refine aw_region (ap (.ptr p500 0) Z Z Z (pu_fieldAddr Z underlying78 Z sizeOf76 (by decide) (tm Z) Z) (ac Z Z Z (op_load1 (i := 0) Z isAgg76 (tm Z) Z Z (ap (.int .i64 (c_.Tenants.length : Int)) Z Z Z (pu_lenM Z underlying76 (tm Z)) (ap (.bool (decide ((c_.Tenants.length : Int) < 1))) Z Z Z (pu_int (v := .bool (decide ((c_.Tenants.length : Int) < 1))) Z Z (tm Z) (AEv.int _ _) Z) (ap (.bool (decide ((c_.Tenants.length : Int) < 1))) Z Z Z (pu_move Z (tm Z)) ?_))))))
  rcases Bool.eq_false_or_eq_true (decide ((c_.Tenants.length : Int) < 1)) with hb505 | hb505
  ·replace h := ite_t (dec_t hb505) h
   refine aops_known 12 Z hb505 (an Z Z Z Z Z Z Z Z (an Z Z Z Z Z Z Z Z (an Z Z Z Z Z Z Z Z (an Z Z Z Z Z Z Z Z (ap (.bool true) Z Z Z (pu_pick (b := true) Z (tm Z) (fun _ => (AEv.bool _)) (fun h => nomatch h)) (aops_nil ?_))))))
   subst h
   exact ⟨(), Weak.mkL [0] (by decide) ⟨⟨_, Z, (CellsLe.refl _), Z⟩, trivial⟩ ⟨AEv.tmp Z, AEv.tmp Z, trivial⟩⟩
  ·replace h := ite_f (dec_f hb505) h
   refine aops_known 12 Z hb505 (agp (.ptr p500 0) Z Z Z Z Z Z Z (pu_fieldAddr Z underlying78 Z sizeOf76 (by decide) (tm Z) Z) (ag Z Z Z Z Z Z Z (op_load1 (i := 0) Z isAgg76 (tm Z) Z Z (agp (.int .i64 (c_.Tenants.length : Int)) Z Z Z Z Z Z Z (pu_lenM Z underlying76 (tm Z)) (agp (.bool (decide (16 < (c_.Tenants.length : Int)))) Z Z Z Z Z Z Z (pu_int (v := .bool (decide (16 < (c_.Tenants.length : Int)))) Z Z (tm Z) (AEv.int _ _) Z) (ap (.bool (decide (16 < (c_.Tenants.length : Int)))) Z Z Z (pu_pick (b := false) Z (tm Z) (fun h => nomatch h) (fun _ => (tm Z))) (aops_nil ?_)))))))
   subst h
   exact ⟨(), Weak.mkL [0] (by decide) ⟨⟨_, Z, (CellsLe.refl _), Z⟩, trivial⟩ ⟨AEv.tmp Z, (AEv.le (tm Z) (AV.Le.refl _)), trivial⟩⟩
 ·intro _
  have h := h503
  refine aw_cond (b := s502) (tm Z) (fun hb998 => ?_) (fun hb998 => ?_)
  ·replace h := ite_t hb998 h
   refine aw_seq (aw_region (ap (.int .i64 7) Z Z Z (pu_assign Z (AEv.int _ _)) (aops_nil (aw_ret ?_))))
   obtain rfl := some_of h
   exact ⟨[.int .i64 7], _, [], ⟨(tm Z), trivial⟩, (AV.Le.refl _), Weak.mkL [] (by decide) trivial trivial, ⟨Z, Z⟩⟩
  ·replace h := ite_fb hb998 h
   refine aw_skip (aw_seq (aw_region (ap (.fn 63 []) Z Z Z (pu_assign Z (AEv.func _)) (aops_nil (aw_seq ?_)))))
   obtain ⟨s511, s511e, h512⟩ := bind_some h
   refine aw_meet (ν := Unit) (fun v => [(1, .ptr p500 0), (41, .bool s511)]) (fun v => [(p500, .cells [.sl .no 14 (c_.Tenants.map api.Tenant.av), .int .i64 c_.Quantum, .int .i64 c_.Deadline])]) ?_ ?_
   ·have h := s511e
    refine aw_region (ap (.ptr p500 0) Z Z Z (pu_fieldAddr Z underlying78 Z sizeOf76 (by decide) (tm Z) Z) (ac Z Z Z (op_load1 (i := 0) Z isAgg76 (tm Z) Z Z (ap (.fn 63 []) Z Z Z (pu_move Z (tm Z)) ?_))))
    obtain ⟨r514, r514e, h⟩ := bind_some h
    refine ac Z Z Z (op_call (vs := [.sl .no 14 (c_.Tenants.map api.Tenant.av), .fn 63 []]) (H := []) Z call65 ⟨(tm Z), (tm Z), trivial⟩ (List.Perm.refl _) (slices.ContainsFunc_api_Tenant_auth_Right_1.ok r514e) ?_)
    rintro _ _ ⟨rfl, rfl⟩
    refine ap (.bool r514) Z Z Z (pu_move Z (tm Z)) ?_
    rcases Bool.eq_false_or_eq_true r514 with hb515 | hb515
    ·replace h := ite_t hb515 h
     refine aops_known 22 Z hb515 (an Z Z Z Z Z Z Z Z (an Z Z Z Z Z Z Z Z (an Z Z Z Z Z Z Z Z (ap (.bool true) Z Z Z (pu_pick (b := true) Z (tm Z) (fun _ => (AEv.bool _)) (fun h => nomatch h)) (ap (.bool true) Z Z Z (pu_move Z (tm Z)) (an Z Z Z Z Z Z Z Z (an Z Z Z Z Z Z Z Z (an Z Z Z Z Z Z Z Z (ap (.bool true) Z Z Z (pu_pick (b := true) Z (tm Z) (fun _ => (AEv.bool _)) (fun h => nomatch h)) ?_)))))))))
     refine ap (.bool true) Z Z Z (pu_move Z (tm Z)) (an Z Z Z Z Z Z Z Z (an Z Z Z Z Z Z Z Z (an Z Z Z Z Z Z Z Z (ap (.bool true) Z Z Z (pu_pick (b := true) Z (tm Z) (fun _ => (AEv.bool _)) (fun h => nomatch h)) (ap (.bool true) Z Z Z (pu_move Z (tm Z)) (an Z Z Z Z Z Z Z Z (an Z Z Z Z Z Z Z Z (an Z Z Z Z Z Z Z Z (ap (.bool true) Z Z Z (pu_pick (b := true) Z (tm Z) (fun _ => (AEv.bool _)) (fun h => nomatch h)) ?_)))))))))
     refine aops_nil ?_
     obtain rfl := some_of h
     exact ⟨(), Weak.mkL [0] (by decide) ⟨⟨_, Z, (CellsLe.refl _), Z⟩, trivial⟩ ⟨AEv.tmp Z, AEv.tmp Z, trivial⟩⟩
    ·replace h := ite_fb hb515 h
     refine aops_known 22 Z hb515 (agp (.ptr p500 1) Z Z Z Z Z Z Z (pu_fieldAddr Z underlying78 Z sizeOf3 (by decide) (tm Z) Z) (ag Z Z Z Z Z Z Z (op_load1 (i := 0) Z isAgg3 (tm Z) Z Z (agp (.bool (decide (c_.Quantum < 1))) Z Z Z Z Z Z Z (pu_int (v := .bool (decide (c_.Quantum < 1))) Z Z (tm Z) (AEv.int _ _) Z) (ap (.bool (decide (c_.Quantum < 1))) Z Z Z (pu_pick (b := false) Z (tm Z) (fun h => nomatch h) (fun _ => (tm Z))) (ap (.bool (decide (c_.Quantum < 1))) Z Z Z (pu_move Z (tm Z)) ?_))))))
     rcases Bool.eq_false_or_eq_true (decide (c_.Quantum < 1)) with hb516 | hb516
     ·replace h := ite_t (dec_t hb516) h
      refine aops_known 27 Z hb516 (an Z Z Z Z Z Z Z Z (an Z Z Z Z Z Z Z Z (an Z Z Z Z Z Z Z Z (ap (.bool true) Z Z Z (pu_pick (b := true) Z (tm Z) (fun _ => (AEv.bool _)) (fun h => nomatch h)) (ap (.bool true) Z Z Z (pu_move Z (tm Z)) (an Z Z Z Z Z Z Z Z (an Z Z Z Z Z Z Z Z (an Z Z Z Z Z Z Z Z (ap (.bool true) Z Z Z (pu_pick (b := true) Z (tm Z) (fun _ => (AEv.bool _)) (fun h => nomatch h)) ?_)))))))))
      refine ap (.bool true) Z Z Z (pu_move Z (tm Z)) (an Z Z Z Z Z Z Z Z (an Z Z Z Z Z Z Z Z (an Z Z Z Z Z Z Z Z (ap (.bool true) Z Z Z (pu_pick (b := true) Z (tm Z) (fun _ => (AEv.bool _)) (fun h => nomatch h)) (aops_nil ?_)))))
      obtain rfl := some_of h
      exact ⟨(), Weak.mkL [0] (by decide) ⟨⟨_, Z, (CellsLe.refl _), Z⟩, trivial⟩ ⟨AEv.tmp Z, AEv.tmp Z, trivial⟩⟩
     ·replace h := ite_f (dec_f hb516) h
      refine aops_known 27 Z hb516 (agp (.ptr p500 1) Z Z Z Z Z Z Z (pu_fieldAddr Z underlying78 Z sizeOf3 (by decide) (tm Z) Z) (ag Z Z Z Z Z Z Z (op_load1 (i := 0) Z isAgg3 (tm Z) Z Z (agp (.bool (decide (1000 < c_.Quantum))) Z Z Z Z Z Z Z (pu_int (v := .bool (decide (1000 < c_.Quantum))) Z Z (tm Z) (AEv.int _ _) Z) (ap (.bool (decide (1000 < c_.Quantum))) Z Z Z (pu_pick (b := false) Z (tm Z) (fun h => nomatch h) (fun _ => (tm Z))) (ap (.bool (decide (1000 < c_.Quantum))) Z Z Z (pu_move Z (tm Z)) ?_))))))
      rcases Bool.eq_false_or_eq_true (decide (1000 < c_.Quantum)) with hb517 | hb517
      ·replace h := ite_t (dec_t hb517) h
       refine aops_known 32 Z hb517 (an Z Z Z Z Z Z Z Z (an Z Z Z Z Z Z Z Z (an Z Z Z Z Z Z Z Z (ap (.bool true) Z Z Z (pu_pick (b := true) Z (tm Z) (fun _ => (AEv.bool _)) (fun h => nomatch h)) (ap (.bool true) Z Z Z (pu_move Z (tm Z)) (an Z Z Z Z Z Z Z Z (an Z Z Z Z Z Z Z Z (an Z Z Z Z Z Z Z Z (ap (.bool true) Z Z Z (pu_pick (b := true) Z (tm Z) (fun _ => (AEv.bool _)) (fun h => nomatch h)) ?_)))))))))
       refine aops_nil ?_
       obtain rfl := some_of h
       exact ⟨(), Weak.mkL [0] (by decide) ⟨⟨_, Z, (CellsLe.refl _), Z⟩, trivial⟩ ⟨AEv.tmp Z, AEv.tmp Z, trivial⟩⟩
      ·replace h := ite_f (dec_f hb517) h
       refine aops_known 32 Z hb517 (agp (.ptr p500 2) Z Z Z Z Z Z Z (pu_fieldAddr Z underlying78 Z sizeOf2 (by decide) (tm Z) Z) (ag Z Z Z Z Z Z Z (op_load1 (i := 0) Z isAgg2 (tm Z) Z Z (agp (.bool (decide (c_.Deadline < 1))) Z Z Z Z Z Z Z (pu_int (v := .bool (decide (c_.Deadline < 1))) Z Z (tm Z) (AEv.int _ _) Z) (ap (.bool (decide (c_.Deadline < 1))) Z Z Z (pu_pick (b := false) Z (tm Z) (fun h => nomatch h) (fun _ => (tm Z))) (ap (.bool (decide (c_.Deadline < 1))) Z Z Z (pu_move Z (tm Z)) ?_))))))
       rcases Bool.eq_false_or_eq_true (decide (c_.Deadline < 1)) with hb518 | hb518
       ·replace h := ite_t (dec_t hb518) h
        refine aops_known 37 Z hb518 (an Z Z Z Z Z Z Z Z (an Z Z Z Z Z Z Z Z (an Z Z Z Z Z Z Z Z (ap (.bool true) Z Z Z (pu_pick (b := true) Z (tm Z) (fun _ => (AEv.bool _)) (fun h => nomatch h)) (aops_nil ?_)))))
        obtain rfl := some_of h
        exact ⟨(), Weak.mkL [0] (by decide) ⟨⟨_, Z, (CellsLe.refl _), Z⟩, trivial⟩ ⟨AEv.tmp Z, AEv.tmp Z, trivial⟩⟩
       ·replace h := ite_f (dec_f hb518) h
        refine aops_known 37 Z hb518 (agp (.ptr p500 2) Z Z Z Z Z Z Z (pu_fieldAddr Z underlying78 Z sizeOf2 (by decide) (tm Z) Z) (ag Z Z Z Z Z Z Z (op_load1 (i := 0) Z isAgg2 (tm Z) Z Z (agp (.bool (decide (1099511627776 < c_.Deadline))) Z Z Z Z Z Z Z (pu_int (v := .bool (decide (1099511627776 < c_.Deadline))) Z Z (tm Z) (AEv.int _ _) Z) (ap (.bool (decide (1099511627776 < c_.Deadline))) Z Z Z (pu_pick (b := false) Z (tm Z) (fun h => nomatch h) (fun _ => (tm Z))) (aops_nil ?_))))))
        obtain rfl := some_of h
        exact ⟨(), Weak.mkL [0] (by decide) ⟨⟨_, Z, (CellsLe.refl _), Z⟩, trivial⟩ ⟨AEv.tmp Z, (AEv.le (tm Z) (AV.Le.refl _)), trivial⟩⟩
   ·intro _
    have h := h512
    refine aw_cond (b := s511) (tm Z) (fun hb997 => ?_) (fun hb997 => ?_)
    ·replace h := ite_t hb997 h
     refine aw_seq (aw_region (ap (.int .i64 1) Z Z Z (pu_assign Z (AEv.int _ _)) (aops_nil (aw_ret ?_))))
     obtain rfl := some_of h
     exact ⟨[.int .i64 1], _, [], ⟨(tm Z), trivial⟩, (AV.Le.refl _), Weak.mkL [] (by decide) trivial trivial, ⟨Z, Z⟩⟩
    ·replace h := ite_fb hb997 h
     refine aw_skip ?_
     obtain ⟨s996, s996e, h757⟩ := bind_some h
     refine aw_join (σ := Unit) (ν := Unit) (fun u v => []) (fun u v => []) (fun u => s996 = .inl u) ?_ ?_
     ·intro s756
      intro _
      rintro rfl
      have h := onSum_inl h757
      refine aw_seq (aw_region (ap (.int .i64 0) Z Z Z (pu_assign Z (AEv.int _ _)) (aops_nil (aw_ret ?_))))
      obtain rfl := some_of h
      exact ⟨[.int .i64 0], _, [], ⟨(tm Z), trivial⟩, (AV.Le.refl _), Weak.mkL [] (by decide) trivial trivial, ⟨Z, Z⟩⟩
     ·have h := s996e
      refine aw_seq (aw_region (ap (.ptr p500 0) Z Z Z (pu_fieldAddr Z underlying78 Z sizeOf76 (by decide) (tm Z) Z) (ac Z Z Z (op_load1 (i := 0) Z isAgg76 (tm Z) Z Z (ap (.int .i64 (c_.Tenants.length : Int)) Z Z Z (pu_lenM Z underlying76 (tm Z)) (ap (.int .i64 0) Z Z Z (pu_move Z (AEv.int _ _)) (aops_nil (aw_block (aw_while (σ := auth.Right.S0) (ν := Unit) (auth.Right.body0 c_) (fun s915 v => [(1, .ptr p500 0), (43, .sl .no 14 (c_.Tenants.map api.Tenant.av)), (44, .int .i64 (c_.Tenants.length : Int)), (45, .int .i64 s915.t45)]) (fun s915 v => [(p500, .cells [.sl .no 14 (c_.Tenants.map api.Tenant.av), .int .i64 c_.Quantum, .int .i64 c_.Deadline])]) ⟨0⟩ () _ h (Weak.mkL [0] (by decide) ⟨⟨_, Z, (CellsLe.refl _), Z⟩, trivial⟩ ⟨AEv.tmp Z, AEv.tmp Z, AEv.tmp Z, AEv.tmp Z, trivial⟩) ?_)))))))))
      rintro s915 _ x917 h hx916
      unfold auth.Right.body0 at h
      refine aw_seq (aw_region (ap (.bool (decide (s915.t45 < (c_.Tenants.length : Int)))) Z Z Z (pu_int (v := .bool (decide (s915.t45 < (c_.Tenants.length : Int)))) Z Z (tm Z) (tm Z) Z) (aops_nil (aw_seq (aw_cond (b := decide (s915.t45 < (c_.Tenants.length : Int))) (tm Z) (fun hb995 => ?_) (fun hb995 => ?_))))))
      ·replace h := ite_t (dec_t hb995) h
       refine aw_skip ?_
       obtain ⟨s994, s994e, h956⟩ := bind_some h
       refine aw_join (σ := Unit) (ν := Unit) (fun u v => [(1, .ptr p500 0), (43, .sl .no 14 (c_.Tenants.map api.Tenant.av)), (44, .int .i64 (c_.Tenants.length : Int)), (45, .int .i64 s915.t45)]) (fun u v => [(p500, .cells [.sl .no 14 (c_.Tenants.map api.Tenant.av), .int .i64 c_.Quantum, .int .i64 c_.Deadline])]) (fun u => s994 = .inl u) ?_ ?_
       ·intro s955
        intro _
        rintro rfl
        have h := onSum_inl h956
        refine aw_region (ap (.int .i64 (IntKind.wrap .i64 (s915.t45 + 1))) Z Z Z (pu_int (v := .int .i64 (IntKind.wrap .i64 (s915.t45 + 1))) Z Z (tm Z) (AEv.int _ _) Z) (ap (.int .i64 (IntKind.wrap .i64 (s915.t45 + 1))) Z Z Z (pu_move Z (tm Z)) (aops_nil ?_)))
        obtain rfl := some_of h
        exact ⟨_, (), Z, Weak.mkL [0] (by decide) ⟨⟨_, Z, (CellsLe.refl _), Z⟩, trivial⟩ ⟨AEv.tmp Z, AEv.tmp Z, AEv.tmp Z, (AEv.le (tm Z) (AV.Le.refl _)), trivial⟩⟩
       ·have h := s994e
        refine aw_block (aw_seq (aw_region (ap (.int .i64 s915.t45) Z Z Z (pu_move Z (tm Z)) ?_)))
        obtain ⟨c958, h⟩ := need_of h
        refine ap (.vptr [.str (ix c_.Tenants s915.t45).Name, .str (ix c_.Tenants s915.t45).Token, .int .i64 (ix c_.Tenants s915.t45).Memory, .int .i64 (ix c_.Tenants s915.t45).Policy, .int .i64 (ix c_.Tenants s915.t45).Conns, .int .i64 (ix c_.Tenants s915.t45).In, .int .i64 (ix c_.Tenants s915.t45).Out, .int .i64 (ix c_.Tenants s915.t45).Burst, .int .i64 (ix c_.Tenants s915.t45).Rate, .int .i64 (ix c_.Tenants s915.t45).Disk, .int .i64 (ix c_.Tenants s915.t45).Sync, .int .i64 (ix c_.Tenants s915.t45).Limits.Args, .int .i64 (ix c_.Tenants s915.t45).Limits.Bulk, .int .i64 (ix c_.Tenants s915.t45).Limits.Line]) Z Z Z (pu_indexAddrM Z underlying76 sizeOf53 (tm Z) (tm Z) c958 Z) (ac Z Z Z (op_loadVN Z isAgg53 sizeOf53 (tm Z) (Nat.le_of_ble_eq_true Z) Z (ac Z Z Z (op_alloc (cs := [.str ([] : List UInt8), .str ([] : List UInt8), .int .i64 0, .int .i64 0, .int .i64 0, .int .i64 0, .int .i64 0, .int .i64 0, .int .i64 0, .int .i64 0, .int .i64 0, .int .i64 0, .int .i64 0, .int .i64 0]) (v := .agg [.str ([] : List UInt8), .str ([] : List UInt8), .int .i64 0, .int .i64 0, .int .i64 0, .int .i64 0, .int .i64 0, .int .i64 0, .int .i64 0, .int .i64 0, .int .i64 0, .int .i64 0, .int .i64 0, .int .i64 0]) Z zeroValue53 Z Z Z ?_))))
        intro p959
        refine ap (.int .i64 s915.t45) Z Z Z (pu_assign Z (tm Z)) (ac0 Z Z (op_store (i := 0) (cs' := (api.Tenant.ct (ix c_.Tenants s915.t45))) Z sizeOf53 (tm Z) (v := .agg (api.Tenant.ct (ix c_.Tenants s915.t45))) (tm Z) Z Z Z (Nat.le_of_ble_eq_true Z) Z (aops_nil (aw_seq (aw_region (ap (.ptr p500 0) Z Z Z (pu_fieldAddr Z underlying78 Z sizeOf76 (by decide) (tm Z) Z) (ac Z Z Z (op_load1 (i := 1) Z isAgg76 (tm Z) Z Z (ap (.int .i64 s915.t45) Z Z Z (pu_move Z (tm Z)) ?_)))))))))
        obtain ⟨c960, h⟩ := need_of h
        refine ap (.sl .no 14 ((sub c_.Tenants 0 s915.t45).map api.Tenant.av)) Z Z Z (pu_sliceM Z underlying76 sizeOf53 (tm Z) Z ⟨_, (tm Z)⟩ c960) (ap (.int .i64 ((sub c_.Tenants 0 s915.t45).length : Int)) Z Z Z (pu_lenM Z underlying76 (tm Z)) (ap (.int .i64 0) Z Z Z (pu_move Z (AEv.int _ _)) (aops_nil (aw_block (aw_while (σ := auth.Right.S2) (ν := Unit) (auth.Right.body2 c_ s915) (fun s981 v => [(1, .ptr p500 0), (5, .ptr p959 0), (43, .sl .no 14 (c_.Tenants.map api.Tenant.av)), (44, .int .i64 (c_.Tenants.length : Int)), (45, .int .i64 s915.t45), (53, .sl .no 14 ((sub c_.Tenants 0 s915.t45).map api.Tenant.av)), (54, .int .i64 ((sub c_.Tenants 0 s915.t45).length : Int)), (55, .int .i64 s981.t55)]) (fun s981 v => [(p500, .cells [.sl .no 14 (c_.Tenants.map api.Tenant.av), .int .i64 c_.Quantum, .int .i64 c_.Deadline]), (p959, .cells (api.Tenant.ct (ix c_.Tenants s915.t45)))]) ⟨0⟩ () _ h (Weak.mkL [1, 0] (by decide) ⟨⟨_, Z, (CellsLe.refl _), Z⟩, ⟨_, Z, (CellsLe.refl _), Z⟩, trivial⟩ ⟨AEv.tmp Z, AEv.tmp Z, AEv.tmp Z, AEv.tmp Z, AEv.tmp Z, AEv.tmp Z, AEv.tmp Z, AEv.tmp Z, trivial⟩) ?_)))))
        rintro s981 _ x983 h hx982
        unfold auth.Right.body2 at h
        refine aw_seq (aw_region (ap (.bool (decide (s981.t55 < ((sub c_.Tenants 0 s915.t45).length : Int)))) Z Z Z (pu_int (v := .bool (decide (s981.t55 < ((sub c_.Tenants 0 s915.t45).length : Int)))) Z Z (tm Z) (tm Z) Z) (aops_nil (aw_seq (aw_cond (b := decide (s981.t55 < ((sub c_.Tenants 0 s915.t45).length : Int))) (tm Z) (fun hb993 => ?_) (fun hb993 => ?_))))))
        ·replace h := ite_t (dec_t hb993) h
         refine aw_skip (aw_seq (aw_block (aw_seq (aw_region ?_))))
         obtain ⟨c985, h⟩ := need_of h
         refine ap (.vptr [.str (ix (sub c_.Tenants 0 s915.t45) s981.t55).Name, .str (ix (sub c_.Tenants 0 s915.t45) s981.t55).Token, .int .i64 (ix (sub c_.Tenants 0 s915.t45) s981.t55).Memory, .int .i64 (ix (sub c_.Tenants 0 s915.t45) s981.t55).Policy, .int .i64 (ix (sub c_.Tenants 0 s915.t45) s981.t55).Conns, .int .i64 (ix (sub c_.Tenants 0 s915.t45) s981.t55).In, .int .i64 (ix (sub c_.Tenants 0 s915.t45) s981.t55).Out, .int .i64 (ix (sub c_.Tenants 0 s915.t45) s981.t55).Burst, .int .i64 (ix (sub c_.Tenants 0 s915.t45) s981.t55).Rate, .int .i64 (ix (sub c_.Tenants 0 s915.t45) s981.t55).Disk, .int .i64 (ix (sub c_.Tenants 0 s915.t45) s981.t55).Sync, .int .i64 (ix (sub c_.Tenants 0 s915.t45) s981.t55).Limits.Args, .int .i64 (ix (sub c_.Tenants 0 s915.t45) s981.t55).Limits.Bulk, .int .i64 (ix (sub c_.Tenants 0 s915.t45) s981.t55).Limits.Line]) Z Z Z (pu_indexAddrM Z underlying76 sizeOf53 (tm Z) (tm Z) c985 Z) (ac Z Z Z (op_loadVN Z isAgg53 sizeOf53 (tm Z) (Nat.le_of_ble_eq_true Z) Z (ac Z Z Z (op_alloc (cs := [.str ([] : List UInt8), .str ([] : List UInt8), .int .i64 0, .int .i64 0, .int .i64 0, .int .i64 0, .int .i64 0, .int .i64 0, .int .i64 0, .int .i64 0, .int .i64 0, .int .i64 0, .int .i64 0, .int .i64 0]) (v := .agg [.str ([] : List UInt8), .str ([] : List UInt8), .int .i64 0, .int .i64 0, .int .i64 0, .int .i64 0, .int .i64 0, .int .i64 0, .int .i64 0, .int .i64 0, .int .i64 0, .int .i64 0, .int .i64 0, .int .i64 0]) Z zeroValue53 Z Z Z ?_))))
         intro p986
         refine ac0 Z Z (op_store (i := 0) (cs' := [.str (ix (sub c_.Tenants 0 s915.t45) s981.t55).Name, .str (ix (sub c_.Tenants 0 s915.t45) s981.t55).Token, .int .i64 (ix (sub c_.Tenants 0 s915.t45) s981.t55).Memory, .int .i64 (ix (sub c_.Tenants 0 s915.t45) s981.t55).Policy, .int .i64 (ix (sub c_.Tenants 0 s915.t45) s981.t55).Conns, .int .i64 (ix (sub c_.Tenants 0 s915.t45) s981.t55).In, .int .i64 (ix (sub c_.Tenants 0 s915.t45) s981.t55).Out, .int .i64 (ix (sub c_.Tenants 0 s915.t45) s981.t55).Burst, .int .i64 (ix (sub c_.Tenants 0 s915.t45) s981.t55).Rate, .int .i64 (ix (sub c_.Tenants 0 s915.t45) s981.t55).Disk, .int .i64 (ix (sub c_.Tenants 0 s915.t45) s981.t55).Sync, .int .i64 (ix (sub c_.Tenants 0 s915.t45) s981.t55).Limits.Args, .int .i64 (ix (sub c_.Tenants 0 s915.t45) s981.t55).Limits.Bulk, .int .i64 (ix (sub c_.Tenants 0 s915.t45) s981.t55).Limits.Line]) Z sizeOf53 (tm Z) (v := .agg [.str (ix (sub c_.Tenants 0 s915.t45) s981.t55).Name, .str (ix (sub c_.Tenants 0 s915.t45) s981.t55).Token, .int .i64 (ix (sub c_.Tenants 0 s915.t45) s981.t55).Memory, .int .i64 (ix (sub c_.Tenants 0 s915.t45) s981.t55).Policy, .int .i64 (ix (sub c_.Tenants 0 s915.t45) s981.t55).Conns, .int .i64 (ix (sub c_.Tenants 0 s915.t45) s981.t55).In, .int .i64 (ix (sub c_.Tenants 0 s915.t45) s981.t55).Out, .int .i64 (ix (sub c_.Tenants 0 s915.t45) s981.t55).Burst, .int .i64 (ix (sub c_.Tenants 0 s915.t45) s981.t55).Rate, .int .i64 (ix (sub c_.Tenants 0 s915.t45) s981.t55).Disk, .int .i64 (ix (sub c_.Tenants 0 s915.t45) s981.t55).Sync, .int .i64 (ix (sub c_.Tenants 0 s915.t45) s981.t55).Limits.Args, .int .i64 (ix (sub c_.Tenants 0 s915.t45) s981.t55).Limits.Bulk, .int .i64 (ix (sub c_.Tenants 0 s915.t45) s981.t55).Limits.Line]) (tm Z) Z Z Z (Nat.le_of_ble_eq_true Z) Z (aops_nil ?_))
         obtain ⟨s988, s988e, h989⟩ := letO_of h
         refine aw_meet (ν := Unit) (fun v => [(1, .ptr p500 0), (5, .ptr p959 0), (43, .sl .no 14 (c_.Tenants.map api.Tenant.av)), (44, .int .i64 (c_.Tenants.length : Int)), (45, .int .i64 s915.t45), (53, .sl .no 14 ((sub c_.Tenants 0 s915.t45).map api.Tenant.av)), (54, .int .i64 ((sub c_.Tenants 0 s915.t45).length : Int)), (55, .int .i64 s981.t55), (70, .bool s988)]) (fun v => [(p500, .cells [.sl .no 14 (c_.Tenants.map api.Tenant.av), .int .i64 c_.Quantum, .int .i64 c_.Deadline]), (p959, .cells (api.Tenant.ct (ix c_.Tenants s915.t45)))]) ?_ ?_
         ·have h := s988e.symm
          refine aw_region (ap (.ptr p959 0) Z Z Z (pu_fieldAddr Z underlying53 Z sizeOf9 (by decide) (tm Z) Z) (ac Z Z Z (op_load1 (i := 2) Z isAgg9 (tm Z) Z Z (ap (.ptr p986 0) Z Z Z (pu_fieldAddr Z underlying53 Z sizeOf9 (by decide) (tm Z) Z) (ac Z Z Z (op_load1 (i := 0) Z isAgg9 (tm Z) Z Z (ap (.bool (decide ((ix c_.Tenants s915.t45).Name = (ix (sub c_.Tenants 0 s915.t45) s981.t55).Name))) Z Z Z (pu_str (v := .bool (decide ((ix c_.Tenants s915.t45).Name = (ix (sub c_.Tenants 0 s915.t45) s981.t55).Name))) Z Z (tm Z) (tm Z) Z) (ap (.bool (decide ((ix c_.Tenants s915.t45).Name = (ix (sub c_.Tenants 0 s915.t45) s981.t55).Name))) Z Z Z (pu_move Z (tm Z)) ?_))))))))
          rcases Bool.eq_false_or_eq_true (decide ((ix c_.Tenants s915.t45).Name = (ix (sub c_.Tenants 0 s915.t45) s981.t55).Name)) with hb991 | hb991
          ·replace h := ite_t (dec_t hb991) h
           refine aops_known 64 Z hb991 (an Z Z Z Z Z Z Z Z (an Z Z Z Z Z Z Z Z (an Z Z Z Z Z Z Z Z (an Z Z Z Z Z Z Z Z (an Z Z Z Z Z Z Z Z (ap (.bool true) Z Z Z (pu_pick (b := true) Z (tm Z) (fun _ => (AEv.bool _)) (fun h => nomatch h)) (aops_nil ?_)))))))
           subst h
           exact ⟨(), Weak.mkL [1, 2] (by decide) ⟨⟨_, Z, (CellsLe.refl _), Z⟩, ⟨_, Z, (CellsLe.refl _), Z⟩, trivial⟩ ⟨AEv.tmp Z, AEv.tmp Z, AEv.tmp Z, AEv.tmp Z, AEv.tmp Z, AEv.tmp Z, AEv.tmp Z, AEv.tmp Z, AEv.tmp Z, trivial⟩⟩
          ·replace h := ite_f (dec_f hb991) h
           refine aops_known 64 Z hb991 (agp (.ptr p959 1) Z Z Z Z Z Z Z (pu_fieldAddr Z underlying53 Z sizeOf9 (by decide) (tm Z) Z) (ag Z Z Z Z Z Z Z (op_load1 (i := 2) Z isAgg9 (tm Z) Z Z (agp (.ptr p986 1) Z Z Z Z Z Z Z (pu_fieldAddr Z underlying53 Z sizeOf9 (by decide) (tm Z) Z) (ag Z Z Z Z Z Z Z (op_load1 (i := 0) Z isAgg9 (tm Z) Z Z (agp (.bool (decide ((ix c_.Tenants s915.t45).Token = (ix (sub c_.Tenants 0 s915.t45) s981.t55).Token))) Z Z Z Z Z Z Z (pu_str (v := .bool (decide ((ix c_.Tenants s915.t45).Token = (ix (sub c_.Tenants 0 s915.t45) s981.t55).Token))) Z Z (tm Z) (tm Z) Z) (ap (.bool (decide ((ix c_.Tenants s915.t45).Token = (ix (sub c_.Tenants 0 s915.t45) s981.t55).Token))) Z Z Z (pu_pick (b := false) Z (tm Z) (fun h => nomatch h) (fun _ => (tm Z))) (aops_nil ?_)))))))))
           subst h
           exact ⟨(), Weak.mkL [1, 2] (by decide) ⟨⟨_, Z, (CellsLe.refl _), Z⟩, ⟨_, Z, (CellsLe.refl _), Z⟩, trivial⟩ ⟨AEv.tmp Z, AEv.tmp Z, AEv.tmp Z, AEv.tmp Z, AEv.tmp Z, AEv.tmp Z, AEv.tmp Z, AEv.tmp Z, (AEv.le (tm Z) (AV.Le.refl _)), trivial⟩⟩
         ·intro _
          have h := h989
          refine aw_cond (b := s988) (tm Z) (fun hb992 => ?_) (fun hb992 => ?_)
          ·replace h := ite_t hb992 h
           refine aw_seq (aw_region (ap (.int .i64 9) Z Z Z (pu_assign Z (AEv.int _ _)) (aops_nil (aw_ret ?_))))
           obtain rfl := some_of h
           have h := congrArg some (hx982 _ rfl)
           obtain rfl := some_of h
           have h := onSum_inr h956
           obtain rfl := some_of h
           have h := congrArg some (hx916 _ rfl)
           obtain rfl := some_of h
           have h := onSum_inr h757
           obtain rfl := some_of h
           exact ⟨[.int .i64 9], _, [], ⟨(tm Z), trivial⟩, (AV.Le.refl _), Weak.mkL [] (by decide) trivial trivial, ⟨Z, Z⟩⟩
          ·replace h := ite_fb hb992 h
           refine aw_skip (aw_region (ap (.int .i64 (IntKind.wrap .i64 (s981.t55 + 1))) Z Z Z (pu_int (v := .int .i64 (IntKind.wrap .i64 (s981.t55 + 1))) Z Z (tm Z) (AEv.int _ _) Z) (ap (.int .i64 (IntKind.wrap .i64 (s981.t55 + 1))) Z Z Z (pu_move Z (tm Z)) (aops_nil ?_))))
           obtain rfl := some_of h
           exact ⟨_, (), Z, Weak.mkL [0, 1] (by decide) ⟨⟨_, Z, (CellsLe.refl _), Z⟩, ⟨_, Z, (CellsLe.refl _), Z⟩, trivial⟩ ⟨AEv.tmp Z, AEv.tmp Z, AEv.tmp Z, AEv.tmp Z, AEv.tmp Z, AEv.tmp Z, AEv.tmp Z, (AEv.le (tm Z) (AV.Le.refl _)), trivial⟩⟩
        ·replace h := ite_f (dec_f hb993) h
         refine aw_exit ?_
         obtain rfl := some_of h
         have h := congrArg some (hx982 _ rfl)
         exact ⟨(), (), (some_of h).symm, Weak.mkL [0] (by decide) ⟨⟨_, Z, (CellsLe.refl _), Z⟩, trivial⟩ ⟨AEv.tmp Z, AEv.tmp Z, AEv.tmp Z, AEv.tmp Z, trivial⟩⟩
      ·replace h := ite_f (dec_f hb995) h
       refine aw_exit ?_
       obtain rfl := some_of h
       have h := congrArg some (hx916 _ rfl)
       exact ⟨(), (), (some_of h).symm, Weak.mkL [] (by decide) trivial trivial⟩

theorem auth.Label.ok {c_ : api.Config} {pieces : List (List UInt8)} {r : Int} (h : auth.Label c_ pieces = some r) : Go.Lift.Spec prog 49 [.agg [.sl .no 14 (c_.Tenants.map api.Tenant.av), .int .i64 c_.Quantum, .int .i64 c_.Deadline], .sl .no 1 (pieces.map AV.str)] [] (fun v H => v = .int .i64 r ∧ H = []) := by
 unfold auth.Label at h
 refine Go.Lift.Spec.of_body (rs := [.tmp 4]) func49 Z Z (Nat.le_of_ble_eq_true Z) Z (aw_seq (aw_region (ac Z Z Z (op_box (cs := [.sl .no 14 (c_.Tenants.map api.Tenant.av), .int .i64 c_.Quantum, .int .i64 c_.Deadline]) (v := .agg [.sl .no 14 (c_.Tenants.map api.Tenant.av), .int .i64 c_.Quantum, .int .i64 c_.Deadline]) Z (tm Z) Z Z ?_))))
 intro p49
 refine ap (.int .i64 0) Z Z Z (pu_assign Z (AEv.int _ _)) (aops_nil (aw_seq (aw_region (ap (.agg [.str ([] : List UInt8), .sl .full 1 (([] : List (List UInt8)).map AV.str), .int .i64 0, .int .i64 0, .bool false, .int .i64 0, .int .i64 0]) Z Z Z (pu_build (zs := [.str ([] : List UInt8), .sl .full 1 (([] : List (List UInt8)).map AV.str), .int .i64 0, .int .i64 0, .bool false, .int .i64 0, .int .i64 0]) (szs := [1, 1, 1, 1, 1, 1, 1]) (aparts := []) (cs := [.str ([] : List UInt8), .sl .full 1 (([] : List (List UInt8)).map AV.str), .int .i64 0, .int .i64 0, .bool false, .int .i64 0, .int .i64 0]) Z underlying29 zeroValue29 Z ⟨sizeOf9, sizeOf26, sizeOf3, sizeOf3, sizeOf4, sizeOf3, sizeOf27, trivial⟩ trivial Z) (ac Z Z Z (op_alloc (cs := [.str ([] : List UInt8), .sl .full 1 (([] : List (List UInt8)).map AV.str), .int .i64 0, .int .i64 0, .bool false, .int .i64 0, .int .i64 0]) (v := .agg [.str ([] : List UInt8), .sl .full 1 (([] : List (List UInt8)).map AV.str), .int .i64 0, .int .i64 0, .bool false, .int .i64 0, .int .i64 0]) Z zeroValue29 Z Z Z ?_))))))
 intro p50
 refine ac0 Z Z (op_store (i := 0) (cs' := [.str ([] : List UInt8), .sl .full 1 (([] : List (List UInt8)).map AV.str), .int .i64 0, .int .i64 0, .bool false, .int .i64 0, .int .i64 0]) Z sizeOf29 (tm Z) (v := .agg [.str ([] : List UInt8), .sl .full 1 (([] : List (List UInt8)).map AV.str), .int .i64 0, .int .i64 0, .bool false, .int .i64 0, .int .i64 0]) (tm Z) Z Z Z (Nat.le_of_ble_eq_true Z) Z (aops_nil ?_))
 obtain ⟨s96, s96e, h73⟩ := bind_some h
 refine aw_join (σ := Unit) (ν := Unit) (fun u v => []) (fun u v => []) (fun u => s96 = .inl u) ?_ ?_
 ·intro s72
  intro _
  rintro rfl
  have h := onSum_inl h73
  refine aw_seq (aw_region (ap (.int .i64 (-1)) Z Z Z (pu_assign Z (AEv.int _ _)) (aops_nil (aw_ret ?_))))
  obtain rfl := some_of h
  exact ⟨[.int .i64 (-1)], _, [], ⟨(tm Z), trivial⟩, (AV.Le.refl _), Weak.mkL [] (by decide) trivial trivial, ⟨Z, Z⟩⟩
 ·have h := s96e
  refine aw_seq (aw_region (ap (.sl .no 1 (pieces.map AV.str)) Z Z Z (pu_move Z (tm Z)) (ap (.int .i64 (pieces.length : Int)) Z Z Z (pu_lenM Z underlying26 (tm Z)) (ap (.int .i64 0) Z Z Z (pu_move Z (AEv.int _ _)) (aops_nil (aw_block (aw_while (σ := auth.Label.S0) (ν := Unit) (auth.Label.body0 pieces c_) (fun s87 v => [(2, .ptr p49 0), (5, .ptr p50 0), (13, .sl .no 1 (pieces.map AV.str)), (14, .int .i64 (pieces.length : Int)), (15, .int .i64 s87.t15)]) (fun s87 v => [(p49, .cells [.sl .no 14 (c_.Tenants.map api.Tenant.av), .int .i64 c_.Quantum, .int .i64 c_.Deadline]), (p50, .cells [.str s87.c, .sl .no 1 (s87.c2.map AV.str), .int .i64 s87.c3, .int .i64 s87.c4, .bool s87.c5, .int .i64 s87.c6, .int .i64 s87.c7])]) ⟨0, ([] : List UInt8), ([] : List (List UInt8)), 0, 0, false, 0, 0⟩ () _ h (Weak.mkL [1, 0] (by decide) ⟨⟨_, Z, (CellsLe.refl _), Z⟩, ⟨_, Z, ⟨(AV.Le.refl _), (AV.Le.forget _ _ _), (AV.Le.refl _), (AV.Le.refl _), (AV.Le.refl _), (AV.Le.refl _), (AV.Le.refl _), trivial⟩, Z⟩, trivial⟩ ⟨AEv.tmp Z, AEv.tmp Z, AEv.tmp Z, AEv.tmp Z, AEv.tmp Z, trivial⟩) ?_)))))))
  rintro s87 _ x89 h hx88
  unfold auth.Label.body0 at h
  refine aw_seq (aw_region (ap (.bool (decide (s87.t15 < (pieces.length : Int)))) Z Z Z (pu_int (v := .bool (decide (s87.t15 < (pieces.length : Int)))) Z Z (tm Z) (tm Z) Z) (aops_nil (aw_seq (aw_cond (b := decide (s87.t15 < (pieces.length : Int))) (tm Z) (fun hb95 => ?_) (fun hb95 => ?_))))))
  ·replace h := ite_t (dec_t hb95) h
   refine aw_skip (aw_seq (aw_block (aw_seq (aw_region ?_))))
   obtain ⟨c91, h⟩ := need_of h
   refine ap (.vptr [.str (ix pieces s87.t15)]) Z Z Z (pu_indexAddrM Z underlying26 sizeOf9 (tm Z) (tm Z) c91 Z) (ac Z Z Z (op_loadV1 Z isAgg9 (tm Z) Z (ap (.str (ix pieces s87.t15)) Z Z Z (pu_assign Z (tm Z)) (aops_nil (aw_seq (aw_region (ac Z Z Z (op_loadN (i := 0) Z isAgg78 sizeOf78 (tm Z) Z (Nat.le_of_ble_eq_true Z) Z (ac Z Z Z (op_loadN (i := 1) Z isAgg29 sizeOf29 (tm Z) Z (Nat.le_of_ble_eq_true Z) Z (ap (.str (ix pieces s87.t15)) Z Z Z (pu_move Z (tm Z)) ?_)))))))))))
   obtain ⟨r92, r92e, h⟩ := bind_some h
   refine ac Z Z Z (op_call (vs := [.agg [.sl .no 14 (c_.Tenants.map api.Tenant.av), .int .i64 c_.Quantum, .int .i64 c_.Deadline], .agg [.str s87.c, .sl .no 1 (s87.c2.map AV.str), .int .i64 s87.c3, .int .i64 s87.c4, .bool s87.c5, .int .i64 s87.c6, .int .i64 s87.c7], .str (ix pieces s87.t15)]) (H := []) Z call47 ⟨(tm Z), (tm Z), (tm Z), trivial⟩ (List.Perm.refl _) (auth.First.ok r92e) ?_)
   rintro _ _ ⟨rfl, rfl⟩
   refine ap (.tup [.agg (api.Input.ct .no r92.1), .str r92.2.1, .int .i64 r92.2.2.1, .int .i64 r92.2.2.2]) Z Z Z (pu_move Z (tm Z)) (ap (.agg (api.Input.ct .no r92.1)) Z Z Z (pu_extract Z (tm Z) (Nat.le_of_ble_eq_true Z) Z) (ap (.str r92.2.1) Z Z Z (pu_extract Z (tm Z) (Nat.le_of_ble_eq_true Z) Z) (ap (.int .i64 r92.2.2.1) Z Z Z (pu_extract Z (tm Z) (Nat.le_of_ble_eq_true Z) Z) (ap (.int .i64 r92.2.2.2) Z Z Z (pu_extract Z (tm Z) (Nat.le_of_ble_eq_true Z) Z) (ac Z Z Z (op_alloc (cs := [.str ([] : List UInt8), .sl .full 1 (([] : List (List UInt8)).map AV.str), .int .i64 0, .int .i64 0, .bool false, .int .i64 0, .int .i64 0]) (v := .agg [.str ([] : List UInt8), .sl .full 1 (([] : List (List UInt8)).map AV.str), .int .i64 0, .int .i64 0, .bool false, .int .i64 0, .int .i64 0]) Z zeroValue29 Z Z Z ?_))))))
   intro p93
   refine ac0 Z Z (op_store (i := 0) (cs' := (api.Input.ct .no r92.1)) Z sizeOf29 (tm Z) (v := .agg (api.Input.ct .no r92.1)) (tm Z) Z Z Z (Nat.le_of_ble_eq_true Z) Z (ap (.str r92.2.1) Z Z Z (pu_assign Z (tm Z)) (ap (.int .i64 r92.2.2.1) Z Z Z (pu_assign Z (tm Z)) (ap (.int .i64 r92.2.2.2) Z Z Z (pu_assign Z (tm Z)) (aops_nil (aw_seq (aw_seq (aw_region (ap (.int .i64 r92.2.2.2) Z Z Z (pu_move Z (tm Z)) (ap (.bool (!decide (r92.2.2.2 = 0))) Z Z Z (pu_int (v := .bool (!decide (r92.2.2.2 = 0))) Z Z (tm Z) (AEv.int _ _) Z) ?_))))))))))
   refine aops_nil (aw_cond (b := (!decide (r92.2.2.2 = 0))) (tm Z) (fun hb94 => ?_) (fun hb94 => ?_))
   ·replace h := ite_f (ndec_t hb94) h
    refine aw_seq (aw_region (ap (.int .i64 r92.2.2.1) Z Z Z (pu_move Z (tm Z)) (ap (.int .i64 r92.2.2.1) Z Z Z (pu_assign Z (tm Z)) (aops_nil (aw_ret ?_)))))
    obtain rfl := some_of h
    have h := congrArg some (hx88 _ rfl)
    obtain rfl := some_of h
    have h := onSum_inr h73
    obtain rfl := some_of h
    exact ⟨[.int .i64 r92.2.2.1], _, [], ⟨(tm Z), trivial⟩, (AV.Le.refl _), Weak.mkL [] (by decide) trivial trivial, ⟨Z, Z⟩⟩
   ·replace h := ite_t (ndec_f hb94) h
    refine aw_skip (aw_region (ac Z Z Z (op_loadN (i := 0) Z isAgg29 sizeOf29 (tm Z) Z (Nat.le_of_ble_eq_true Z) Z (ac0 Z Z (op_store (i := 2) (cs' := (api.Input.ct .no r92.1)) Z sizeOf29 (tm Z) (v := .agg (api.Input.ct .no r92.1)) (tm Z) Z Z Z (Nat.le_of_ble_eq_true Z) Z (aops_nil (aw_region (ap (.int .i64 (IntKind.wrap .i64 (s87.t15 + 1))) Z Z Z (pu_int (v := .int .i64 (IntKind.wrap .i64 (s87.t15 + 1))) Z Z (tm Z) (AEv.int _ _) Z) (ap (.int .i64 (IntKind.wrap .i64 (s87.t15 + 1))) Z Z Z (pu_move Z (tm Z)) (aops_nil ?_))))))))))
    obtain rfl := some_of h
    exact ⟨_, (), Z, Weak.mkL [1, 2] (by decide) ⟨⟨_, Z, (CellsLe.refl _), Z⟩, ⟨_, Z, (CellsLe.refl _), Z⟩, trivial⟩ ⟨AEv.tmp Z, AEv.tmp Z, AEv.tmp Z, AEv.tmp Z, (AEv.le (tm Z) (AV.Le.refl _)), trivial⟩⟩
  ·replace h := ite_f (dec_f hb95) h
   refine aw_exit ?_
   obtain rfl := some_of h
   have h := congrArg some (hx88 _ rfl)
   exact ⟨(), (), (some_of h).symm, Weak.mkL [] (by decide) trivial trivial⟩

theorem mewslaw42.alive.ok  {r : Bool} (h : mewslaw42.alive = some r) : Go.Lift.Spec prog 42 [] [] (fun v H => v = .bool r ∧ H = []) := by
 unfold mewslaw42.alive at h
 refine Go.Lift.Spec.of_body (rs := [.tmp 0]) func42 Z Z (Nat.le_of_ble_eq_true Z) Z (aw_seq (aw_region (ap (.bool false) Z Z Z (pu_assign Z (AEv.bool _)) (aops_nil (aw_seq (aw_region ?_))))))
 obtain ⟨r26, r26e, h⟩ := bind_some h
 refine ac Z Z Z (op_call (vs := []) (H := []) Z call62 trivial (List.Perm.refl _) (mewslaw42.some_.ok r26e) ?_)
 rintro _ _ ⟨rfl, rfl⟩
 refine ac Z Z Z (op_alloc (cs := [.sl .full 14 (([] : List api.Tenant).map api.Tenant.av), .int .i64 0, .int .i64 0]) (v := .agg [.sl .full 14 (([] : List api.Tenant).map api.Tenant.av), .int .i64 0, .int .i64 0]) Z zeroValue78 Z Z Z ?_)
 intro p27
 refine ac0 Z Z (op_store (i := 0) (cs' := [.sl .full 14 (r26.Tenants.map api.Tenant.av), .int .i64 r26.Quantum, .int .i64 r26.Deadline]) Z sizeOf78 (tm Z) (v := .agg [.sl .full 14 (r26.Tenants.map api.Tenant.av), .int .i64 r26.Quantum, .int .i64 r26.Deadline]) (tm Z) Z Z Z (Nat.le_of_ble_eq_true Z) Z (aops_nil (aw_seq (aw_region (ac Z Z Z (op_loadN (i := 0) Z isAgg78 sizeOf78 (tm Z) Z (Nat.le_of_ble_eq_true Z) Z (ap (.agg [.str ([] : List UInt8), .sl .full 1 (([] : List (List UInt8)).map AV.str), .int .i64 0, .int .i64 0, .bool false, .int .i64 0, .int .i64 0]) Z Z Z (pu_build (zs := [.str ([] : List UInt8), .sl .full 1 (([] : List (List UInt8)).map AV.str), .int .i64 0, .int .i64 0, .bool false, .int .i64 0, .int .i64 0]) (szs := [1, 1, 1, 1, 1, 1, 1]) (aparts := []) (cs := [.str ([] : List UInt8), .sl .full 1 (([] : List (List UInt8)).map AV.str), .int .i64 0, .int .i64 0, .bool false, .int .i64 0, .int .i64 0]) Z underlying29 zeroValue29 Z ⟨sizeOf9, sizeOf26, sizeOf3, sizeOf3, sizeOf4, sizeOf3, sizeOf27, trivial⟩ trivial Z) ?_)))))))
 obtain ⟨r28, r28e, h⟩ := bind_some h
 refine ac Z Z Z (op_call (vs := [.agg [.sl .no 14 (r26.Tenants.map api.Tenant.av), .int .i64 r26.Quantum, .int .i64 r26.Deadline], .agg [.str ([] : List UInt8), .sl .no 1 (([] : List (List UInt8)).map AV.str), .int .i64 0, .int .i64 0, .bool false, .int .i64 0, .int .i64 0], .str [97, 117, 116, 104, 32, 116, 10, 80, 73, 78, 71]]) (H := []) Z call47 ⟨(AEv.le (tm Z) (AV.Le.agg ⟨(AV.Le.forget _ _ _), (AV.Le.refl _), (AV.Le.refl _), trivial⟩)), (AEv.le (tm Z) (AV.Le.agg ⟨(AV.Le.refl _), (AV.Le.forget _ _ _), (AV.Le.refl _), (AV.Le.refl _), (AV.Le.refl _), (AV.Le.refl _), (AV.Le.refl _), trivial⟩)), (AEv.const Z), trivial⟩ (List.Perm.refl _) (auth.First.ok r28e) ?_)
 rintro _ _ ⟨rfl, rfl⟩
 refine ap (.tup [.agg (api.Input.ct .no r28.1), .str r28.2.1, .int .i64 r28.2.2.1, .int .i64 r28.2.2.2]) Z Z Z (pu_move Z (tm Z)) (ap (.agg (api.Input.ct .no r28.1)) Z Z Z (pu_extract Z (tm Z) (Nat.le_of_ble_eq_true Z) Z) (ap (.str r28.2.1) Z Z Z (pu_extract Z (tm Z) (Nat.le_of_ble_eq_true Z) Z) (ap (.int .i64 r28.2.2.1) Z Z Z (pu_extract Z (tm Z) (Nat.le_of_ble_eq_true Z) Z) (ap (.int .i64 r28.2.2.2) Z Z Z (pu_extract Z (tm Z) (Nat.le_of_ble_eq_true Z) Z) (ac Z Z Z (op_alloc (cs := [.str ([] : List UInt8), .sl .full 1 (([] : List (List UInt8)).map AV.str), .int .i64 0, .int .i64 0, .bool false, .int .i64 0, .int .i64 0]) (v := .agg [.str ([] : List UInt8), .sl .full 1 (([] : List (List UInt8)).map AV.str), .int .i64 0, .int .i64 0, .bool false, .int .i64 0, .int .i64 0]) Z zeroValue29 Z Z Z ?_))))))
 intro p29
 refine ac0 Z Z (op_store (i := 0) (cs' := (api.Input.ct .no r28.1)) Z sizeOf29 (tm Z) (v := .agg (api.Input.ct .no r28.1)) (tm Z) Z Z Z (Nat.le_of_ble_eq_true Z) Z (ap (.str r28.2.1) Z Z Z (pu_assign Z (tm Z)) (ap (.int .i64 r28.2.2.1) Z Z Z (pu_assign Z (tm Z)) (ap (.int .i64 r28.2.2.2) Z Z Z (pu_assign Z (tm Z)) (aops_nil (aw_seq (aw_region (ac Z Z Z (op_loadN (i := 1) Z isAgg78 sizeOf78 (tm Z) Z (Nat.le_of_ble_eq_true Z) Z (ap (.agg [.str ([] : List UInt8), .sl .full 1 (([] : List (List UInt8)).map AV.str), .int .i64 0, .int .i64 0, .bool false, .int .i64 0, .int .i64 0]) Z Z Z (pu_build (zs := [.str ([] : List UInt8), .sl .full 1 (([] : List (List UInt8)).map AV.str), .int .i64 0, .int .i64 0, .bool false, .int .i64 0, .int .i64 0]) (szs := [1, 1, 1, 1, 1, 1, 1]) (aparts := []) (cs := [.str ([] : List UInt8), .sl .full 1 (([] : List (List UInt8)).map AV.str), .int .i64 0, .int .i64 0, .bool false, .int .i64 0, .int .i64 0]) Z underlying29 zeroValue29 Z ⟨sizeOf9, sizeOf26, sizeOf3, sizeOf3, sizeOf4, sizeOf3, sizeOf27, trivial⟩ trivial Z) ?_))))))))))
 obtain ⟨r30, r30e, h⟩ := bind_some h
 refine ac Z Z Z (op_call (vs := [.agg [.sl .no 14 (r26.Tenants.map api.Tenant.av), .int .i64 r26.Quantum, .int .i64 r26.Deadline], .agg [.str ([] : List UInt8), .sl .no 1 (([] : List (List UInt8)).map AV.str), .int .i64 0, .int .i64 0, .bool false, .int .i64 0, .int .i64 0], .str [80, 73, 78, 71, 10]]) (H := []) Z call47 ⟨(AEv.le (tm Z) (AV.Le.agg ⟨(AV.Le.forget _ _ _), (AV.Le.refl _), (AV.Le.refl _), trivial⟩)), (AEv.le (tm Z) (AV.Le.agg ⟨(AV.Le.refl _), (AV.Le.forget _ _ _), (AV.Le.refl _), (AV.Le.refl _), (AV.Le.refl _), (AV.Le.refl _), (AV.Le.refl _), trivial⟩)), (AEv.const Z), trivial⟩ (List.Perm.refl _) (auth.First.ok r30e) ?_)
 rintro _ _ ⟨rfl, rfl⟩
 refine ap (.tup [.agg (api.Input.ct .no r30.1), .str r30.2.1, .int .i64 r30.2.2.1, .int .i64 r30.2.2.2]) Z Z Z (pu_move Z (tm Z)) (ap (.agg (api.Input.ct .no r30.1)) Z Z Z (pu_extract Z (tm Z) (Nat.le_of_ble_eq_true Z) Z) (ap (.str r30.2.1) Z Z Z (pu_extract Z (tm Z) (Nat.le_of_ble_eq_true Z) Z) (ap (.int .i64 r30.2.2.1) Z Z Z (pu_extract Z (tm Z) (Nat.le_of_ble_eq_true Z) Z) (ap (.int .i64 r30.2.2.2) Z Z Z (pu_extract Z (tm Z) (Nat.le_of_ble_eq_true Z) Z) (ac Z Z Z (op_alloc (cs := [.str ([] : List UInt8), .sl .full 1 (([] : List (List UInt8)).map AV.str), .int .i64 0, .int .i64 0, .bool false, .int .i64 0, .int .i64 0]) (v := .agg [.str ([] : List UInt8), .sl .full 1 (([] : List (List UInt8)).map AV.str), .int .i64 0, .int .i64 0, .bool false, .int .i64 0, .int .i64 0]) Z zeroValue29 Z Z Z ?_))))))
 intro p31
 refine ac0 Z Z (op_store (i := 0) (cs' := (api.Input.ct .no r30.1)) Z sizeOf29 (tm Z) (v := .agg (api.Input.ct .no r30.1)) (tm Z) Z Z Z (Nat.le_of_ble_eq_true Z) Z (ap (.str r30.2.1) Z Z Z (pu_assign Z (tm Z)) (ap (.int .i64 r30.2.2.1) Z Z Z (pu_assign Z (tm Z)) (ap (.int .i64 r30.2.2.2) Z Z Z (pu_assign Z (tm Z)) (aops_nil ?_)))))
 obtain ⟨s40, s40e, h41⟩ := bind_some h
 refine aw_meet (ν := Unit) (fun v => [(0, .bool s40)]) (fun v => []) ?_ ?_
 ·have h := s40e
  refine aw_region (ac Z Z Z (op_loadN (i := 2) Z isAgg78 sizeOf78 (tm Z) Z (Nat.le_of_ble_eq_true Z) Z ?_))
  obtain ⟨r43, r43e, h⟩ := bind_some h
  refine ac Z Z Z (op_call (vs := [.agg [.sl .no 14 (r26.Tenants.map api.Tenant.av), .int .i64 r26.Quantum, .int .i64 r26.Deadline]]) (H := []) Z call43 ⟨(AEv.le (tm Z) (AV.Le.agg ⟨(AV.Le.forget _ _ _), (AV.Le.refl _), (AV.Le.refl _), trivial⟩)), trivial⟩ (List.Perm.refl _) (auth.Right.ok r43e) ?_)
  rintro _ _ ⟨rfl, rfl⟩
  refine ap (.bool (decide (r43 = 0))) Z Z Z (pu_int (v := .bool (decide (r43 = 0))) Z Z (tm Z) (AEv.int _ _) Z) (ap (.bool (decide (r43 = 0))) Z Z Z (pu_move Z (tm Z)) ?_)
  rcases Bool.eq_false_or_eq_true (decide (r43 = 0)) with hb44 | hb44
  ·replace h := ite_t (dec_t hb44) h
   refine aops_known 30 Z hb44 (agp (.str r28.2.1) Z Z Z Z Z Z Z (pu_move Z (tm Z)) (agp (.bool (decide (r28.2.1 = [80, 73, 78, 71]))) Z Z Z Z Z Z Z (pu_str (v := .bool (decide (r28.2.1 = [80, 73, 78, 71]))) Z Z (tm Z) (AEv.const Z) Z) (ap (.bool (decide (r28.2.1 = [80, 73, 78, 71]))) Z Z Z (pu_pick (b := true) Z (tm Z) (fun _ => (tm Z)) (fun h => nomatch h)) (ap (.bool (decide (r28.2.1 = [80, 73, 78, 71]))) Z Z Z (pu_move Z (tm Z)) ?_))))
   rcases Bool.eq_false_or_eq_true (decide (r28.2.1 = [80, 73, 78, 71])) with hb45 | hb45
   ·replace h := ite_t (dec_t hb45) h
    refine aops_known 34 Z hb45 (agp (.int .i64 r28.2.2.1) Z Z Z Z Z Z Z (pu_move Z (tm Z)) (agp (.bool (decide (r28.2.2.1 = 1))) Z Z Z Z Z Z Z (pu_int (v := .bool (decide (r28.2.2.1 = 1))) Z Z (tm Z) (AEv.int _ _) Z) (ap (.bool (decide (r28.2.2.1 = 1))) Z Z Z (pu_pick (b := true) Z (tm Z) (fun _ => (tm Z)) (fun h => nomatch h)) (ap (.bool (decide (r28.2.2.1 = 1))) Z Z Z (pu_move Z (tm Z)) ?_))))
    rcases Bool.eq_false_or_eq_true (decide (r28.2.2.1 = 1)) with hb46 | hb46
    ·replace h := ite_t (dec_t hb46) h
     refine aops_known 38 Z hb46 (agp (.int .i64 r28.2.2.2) Z Z Z Z Z Z Z (pu_move Z (tm Z)) (agp (.bool (decide (r28.2.2.2 = 1))) Z Z Z Z Z Z Z (pu_int (v := .bool (decide (r28.2.2.2 = 1))) Z Z (tm Z) (AEv.int _ _) Z) (ap (.bool (decide (r28.2.2.2 = 1))) Z Z Z (pu_pick (b := true) Z (tm Z) (fun _ => (tm Z)) (fun h => nomatch h)) (ap (.bool (decide (r28.2.2.2 = 1))) Z Z Z (pu_move Z (tm Z)) ?_))))
     rcases Bool.eq_false_or_eq_true (decide (r28.2.2.2 = 1)) with hb47 | hb47
     ·replace h := ite_t (dec_t hb47) h
      refine aops_known 42 Z hb47 (agp (.int .i64 r30.2.2.1) Z Z Z Z Z Z Z (pu_move Z (tm Z)) (agp (.bool (decide (r30.2.2.1 = (-1)))) Z Z Z Z Z Z Z (pu_int (v := .bool (decide (r30.2.2.1 = (-1)))) Z Z (tm Z) (AEv.int _ _) Z) (ap (.bool (decide (r30.2.2.1 = (-1)))) Z Z Z (pu_pick (b := true) Z (tm Z) (fun _ => (tm Z)) (fun h => nomatch h)) (ap (.bool (decide (r30.2.2.1 = (-1)))) Z Z Z (pu_move Z (tm Z)) ?_))))
      rcases Bool.eq_false_or_eq_true (decide (r30.2.2.1 = (-1))) with hb48 | hb48
      ·replace h := ite_t (dec_t hb48) h
       refine aops_known 46 Z hb48 (agp (.int .i64 r30.2.2.2) Z Z Z Z Z Z Z (pu_move Z (tm Z)) (agp (.bool (decide (r30.2.2.2 = 2))) Z Z Z Z Z Z Z (pu_int (v := .bool (decide (r30.2.2.2 = 2))) Z Z (tm Z) (AEv.int _ _) Z) (ap (.bool (decide (r30.2.2.2 = 2))) Z Z Z (pu_pick (b := true) Z (tm Z) (fun _ => (tm Z)) (fun h => nomatch h)) (ap (.bool (decide (r30.2.2.2 = 2))) Z Z Z (pu_move Z (tm Z)) ?_))))
       rcases Bool.eq_false_or_eq_true (decide (r30.2.2.2 = 2)) with hb49 | hb49
       ·replace h := ite_t (dec_t hb49) h
        refine aops_known 50 Z hb49 (ag Z Z Z Z Z Z Z (op_loadN (i := 2) Z isAgg78 sizeOf78 (tm Z) Z (Nat.le_of_ble_eq_true Z) Z (ag Z Z Z Z Z Z Z (op_buildSlice (xs := ([[65, 85], [84, 72, 32, 115, 13, 10]] : List (List UInt8)).map AV.str) (aparts := [(0, .str [65, 85]), (1, .str [84, 72, 32, 115, 13, 10])]) Z underlying26 sizeOf9 zeroValue9 (by decide) (by decide) ⟨Z, (AEv.const Z), ⟨Z, (AEv.const Z), trivial⟩⟩ Z Z Z ?_))))
        obtain ⟨r50, r50e, h⟩ := bind_some h
        refine ag Z Z Z Z Z Z Z (op_call (vs := [.agg [.sl .no 14 (r26.Tenants.map api.Tenant.av), .int .i64 r26.Quantum, .int .i64 r26.Deadline], .sl .no 1 ([[65, 85], [84, 72, 32, 115, 13, 10]].map AV.str)]) (H := []) Z call49 ⟨(AEv.le (tm Z) (AV.Le.agg ⟨(AV.Le.forget _ _ _), (AV.Le.refl _), (AV.Le.refl _), trivial⟩)), (AEv.le (tm Z) (AV.Le.forget _ _ _)), trivial⟩ (List.Perm.refl _) (auth.Label.ok r50e) ?_)
        rintro _ _ ⟨rfl, rfl⟩
        refine agp (.bool (decide (r50 = 0))) Z Z Z Z Z Z Z (pu_int (v := .bool (decide (r50 = 0))) Z Z (tm Z) (AEv.int _ _) Z) (ap (.bool (decide (r50 = 0))) Z Z Z (pu_pick (b := true) Z (tm Z) (fun _ => (tm Z)) (fun h => nomatch h)) (ap (.bool (decide (r50 = 0))) Z Z Z (pu_assign Z (tm Z)) (aops_nil ?_)))
        obtain rfl := some_of h
        exact ⟨(), Weak.mkL [] (by decide) trivial ⟨(AEv.le (tm Z) (AV.Le.refl _)), trivial⟩⟩
       ·replace h := ite_f (dec_f hb49) h
        refine aops_known 50 Z hb49 (an Z Z Z Z Z Z Z Z (an Z Z Z Z Z Z Z Z (an Z Z Z Z Z Z Z Z (an Z Z Z Z Z Z Z Z (ap (.bool false) Z Z Z (pu_pick (b := false) Z (tm Z) (fun h => nomatch h) (fun _ => (AEv.bool _))) (ap (.bool false) Z Z Z (pu_assign Z (tm Z)) (aops_nil ?_)))))))
        obtain rfl := some_of h
        exact ⟨(), Weak.mkL [] (by decide) trivial ⟨AEv.tmp Z, trivial⟩⟩
      ·replace h := ite_f (dec_f hb48) h
       refine aops_known 46 Z hb48 (an Z Z Z Z Z Z Z Z (an Z Z Z Z Z Z Z Z (ap (.bool false) Z Z Z (pu_pick (b := false) Z (tm Z) (fun h => nomatch h) (fun _ => (AEv.bool _))) (ap (.bool false) Z Z Z (pu_move Z (tm Z)) (an Z Z Z Z Z Z Z Z (an Z Z Z Z Z Z Z Z (an Z Z Z Z Z Z Z Z (an Z Z Z Z Z Z Z Z (ap (.bool false) Z Z Z (pu_pick (b := false) Z (tm Z) (fun h => nomatch h) (fun _ => (AEv.bool _))) ?_)))))))))
       refine ap (.bool false) Z Z Z (pu_assign Z (tm Z)) (aops_nil ?_)
       obtain rfl := some_of h
       exact ⟨(), Weak.mkL [] (by decide) trivial ⟨AEv.tmp Z, trivial⟩⟩
     ·replace h := ite_f (dec_f hb47) h
      refine aops_known 42 Z hb47 (an Z Z Z Z Z Z Z Z (an Z Z Z Z Z Z Z Z (ap (.bool false) Z Z Z (pu_pick (b := false) Z (tm Z) (fun h => nomatch h) (fun _ => (AEv.bool _))) (ap (.bool false) Z Z Z (pu_move Z (tm Z)) (an Z Z Z Z Z Z Z Z (an Z Z Z Z Z Z Z Z (ap (.bool false) Z Z Z (pu_pick (b := false) Z (tm Z) (fun h => nomatch h) (fun _ => (AEv.bool _))) (ap (.bool false) Z Z Z (pu_move Z (tm Z)) (an Z Z Z Z Z Z Z Z ?_)))))))))
      refine an Z Z Z Z Z Z Z Z (an Z Z Z Z Z Z Z Z (an Z Z Z Z Z Z Z Z (ap (.bool false) Z Z Z (pu_pick (b := false) Z (tm Z) (fun h => nomatch h) (fun _ => (AEv.bool _))) (ap (.bool false) Z Z Z (pu_assign Z (tm Z)) (aops_nil ?_)))))
      obtain rfl := some_of h
      exact ⟨(), Weak.mkL [] (by decide) trivial ⟨AEv.tmp Z, trivial⟩⟩
    ·replace h := ite_f (dec_f hb46) h
     refine aops_known 38 Z hb46 (an Z Z Z Z Z Z Z Z (an Z Z Z Z Z Z Z Z (ap (.bool false) Z Z Z (pu_pick (b := false) Z (tm Z) (fun h => nomatch h) (fun _ => (AEv.bool _))) (ap (.bool false) Z Z Z (pu_move Z (tm Z)) (an Z Z Z Z Z Z Z Z (an Z Z Z Z Z Z Z Z (ap (.bool false) Z Z Z (pu_pick (b := false) Z (tm Z) (fun h => nomatch h) (fun _ => (AEv.bool _))) (ap (.bool false) Z Z Z (pu_move Z (tm Z)) (an Z Z Z Z Z Z Z Z ?_)))))))))
     refine an Z Z Z Z Z Z Z Z (ap (.bool false) Z Z Z (pu_pick (b := false) Z (tm Z) (fun h => nomatch h) (fun _ => (AEv.bool _))) (ap (.bool false) Z Z Z (pu_move Z (tm Z)) (an Z Z Z Z Z Z Z Z (an Z Z Z Z Z Z Z Z (an Z Z Z Z Z Z Z Z (an Z Z Z Z Z Z Z Z (ap (.bool false) Z Z Z (pu_pick (b := false) Z (tm Z) (fun h => nomatch h) (fun _ => (AEv.bool _))) (ap (.bool false) Z Z Z (pu_assign Z (tm Z)) (aops_nil ?_)))))))))
     obtain rfl := some_of h
     exact ⟨(), Weak.mkL [] (by decide) trivial ⟨AEv.tmp Z, trivial⟩⟩
   ·replace h := ite_f (dec_f hb45) h
    refine aops_known 34 Z hb45 (an Z Z Z Z Z Z Z Z (an Z Z Z Z Z Z Z Z (ap (.bool false) Z Z Z (pu_pick (b := false) Z (tm Z) (fun h => nomatch h) (fun _ => (AEv.bool _))) (ap (.bool false) Z Z Z (pu_move Z (tm Z)) (an Z Z Z Z Z Z Z Z (an Z Z Z Z Z Z Z Z (ap (.bool false) Z Z Z (pu_pick (b := false) Z (tm Z) (fun h => nomatch h) (fun _ => (AEv.bool _))) (ap (.bool false) Z Z Z (pu_move Z (tm Z)) (an Z Z Z Z Z Z Z Z ?_)))))))))
    refine an Z Z Z Z Z Z Z Z (ap (.bool false) Z Z Z (pu_pick (b := false) Z (tm Z) (fun h => nomatch h) (fun _ => (AEv.bool _))) (ap (.bool false) Z Z Z (pu_move Z (tm Z)) (an Z Z Z Z Z Z Z Z (an Z Z Z Z Z Z Z Z (ap (.bool false) Z Z Z (pu_pick (b := false) Z (tm Z) (fun h => nomatch h) (fun _ => (AEv.bool _))) (ap (.bool false) Z Z Z (pu_move Z (tm Z)) (an Z Z Z Z Z Z Z Z (an Z Z Z Z Z Z Z Z (an Z Z Z Z Z Z Z Z ?_)))))))))
    refine an Z Z Z Z Z Z Z Z (ap (.bool false) Z Z Z (pu_pick (b := false) Z (tm Z) (fun h => nomatch h) (fun _ => (AEv.bool _))) (ap (.bool false) Z Z Z (pu_assign Z (tm Z)) (aops_nil ?_)))
    obtain rfl := some_of h
    exact ⟨(), Weak.mkL [] (by decide) trivial ⟨AEv.tmp Z, trivial⟩⟩
  ·replace h := ite_f (dec_f hb44) h
   refine aops_known 30 Z hb44 (an Z Z Z Z Z Z Z Z (an Z Z Z Z Z Z Z Z (ap (.bool false) Z Z Z (pu_pick (b := false) Z (tm Z) (fun h => nomatch h) (fun _ => (AEv.bool _))) (ap (.bool false) Z Z Z (pu_move Z (tm Z)) (an Z Z Z Z Z Z Z Z (an Z Z Z Z Z Z Z Z (ap (.bool false) Z Z Z (pu_pick (b := false) Z (tm Z) (fun h => nomatch h) (fun _ => (AEv.bool _))) (ap (.bool false) Z Z Z (pu_move Z (tm Z)) (an Z Z Z Z Z Z Z Z ?_)))))))))
   refine an Z Z Z Z Z Z Z Z (ap (.bool false) Z Z Z (pu_pick (b := false) Z (tm Z) (fun h => nomatch h) (fun _ => (AEv.bool _))) (ap (.bool false) Z Z Z (pu_move Z (tm Z)) (an Z Z Z Z Z Z Z Z (an Z Z Z Z Z Z Z Z (ap (.bool false) Z Z Z (pu_pick (b := false) Z (tm Z) (fun h => nomatch h) (fun _ => (AEv.bool _))) (ap (.bool false) Z Z Z (pu_move Z (tm Z)) (an Z Z Z Z Z Z Z Z (an Z Z Z Z Z Z Z Z (ap (.bool false) Z Z Z (pu_pick (b := false) Z (tm Z) (fun h => nomatch h) (fun _ => (AEv.bool _))) ?_)))))))))
   refine ap (.bool false) Z Z Z (pu_move Z (tm Z)) (an Z Z Z Z Z Z Z Z (an Z Z Z Z Z Z Z Z (an Z Z Z Z Z Z Z Z (an Z Z Z Z Z Z Z Z (ap (.bool false) Z Z Z (pu_pick (b := false) Z (tm Z) (fun h => nomatch h) (fun _ => (AEv.bool _))) (ap (.bool false) Z Z Z (pu_assign Z (tm Z)) (aops_nil ?_)))))))
   obtain rfl := some_of h
   exact ⟨(), Weak.mkL [] (by decide) trivial ⟨AEv.tmp Z, trivial⟩⟩
 ·intro _
  have h := h41
  refine aw_ret ?_
  obtain rfl := some_of h
  exact ⟨[.bool s40], _, [], ⟨(tm Z), trivial⟩, (AV.Le.refl _), Weak.mkL [] (by decide) trivial trivial, ⟨Z, Z⟩⟩

theorem mewsref42.Find.ok {c_ : api.Config} {token : List UInt8} {r : Int} (h : mewsref42.Find c_ token = some r) : Go.Lift.Spec prog 46 [.agg [.sl .no 14 (c_.Tenants.map api.Tenant.av), .int .i64 c_.Quantum, .int .i64 c_.Deadline], .str token] [] (fun v H => v = .int .i64 r ∧ H = []) := by
 unfold mewsref42.Find at h
 refine Go.Lift.Spec.of_body (rs := [.tmp 4]) func46 Z Z (Nat.le_of_ble_eq_true Z) Z (aw_seq (aw_region (ac Z Z Z (op_box (cs := [.sl .no 14 (c_.Tenants.map api.Tenant.av), .int .i64 c_.Quantum, .int .i64 c_.Deadline]) (v := .agg [.sl .no 14 (c_.Tenants.map api.Tenant.av), .int .i64 c_.Quantum, .int .i64 c_.Deadline]) Z (tm Z) Z Z ?_))))
 intro p36
 refine ap (.int .i64 0) Z Z Z (pu_assign Z (AEv.int _ _)) (aops_nil ?_)
 obtain ⟨s70, s70e, h53⟩ := bind_some h
 refine aw_join (σ := Unit) (ν := Unit) (fun u v => []) (fun u v => []) (fun u => s70 = .inl u) ?_ ?_
 ·intro s52
  intro _
  rintro rfl
  have h := onSum_inl h53
  refine aw_seq (aw_region (ap (.int .i64 (-1)) Z Z Z (pu_assign Z (AEv.int _ _)) (aops_nil (aw_ret ?_))))
  obtain rfl := some_of h
  exact ⟨[.int .i64 (-1)], _, [], ⟨(tm Z), trivial⟩, (AV.Le.refl _), Weak.mkL [] (by decide) trivial trivial, ⟨Z, Z⟩⟩
 ·have h := s70e
  refine aw_seq (aw_region (ap (.int .i64 0) Z Z Z (pu_assign Z (AEv.int _ _)) (aops_nil (aw_block (aw_while (σ := mewsref42.Find.S0) (ν := Unit) (mewsref42.Find.body0 c_ token) (fun s63 v => [(1, .str token), (2, .ptr p36 0), (5, .int .i64 s63.i)]) (fun s63 v => [(p36, .cells [.sl .no 14 (c_.Tenants.map api.Tenant.av), .int .i64 c_.Quantum, .int .i64 c_.Deadline])]) ⟨0⟩ () _ h (Weak.mkL [0] (by decide) ⟨⟨_, Z, (CellsLe.refl _), Z⟩, trivial⟩ ⟨AEv.tmp Z, AEv.tmp Z, AEv.tmp Z, trivial⟩) ?_)))))
  rintro s63 _ x65 h hx64
  unfold mewsref42.Find.body0 at h
  refine aw_seq (aw_seq (aw_region (ap (.int .i64 s63.i) Z Z Z (pu_move Z (tm Z)) (ap (.ptr p36 0) Z Z Z (pu_fieldAddr Z underlying78 Z sizeOf76 (by decide) (tm Z) Z) (ac Z Z Z (op_load1 (i := 0) Z isAgg76 (tm Z) Z Z (ap (.int .i64 (c_.Tenants.length : Int)) Z Z Z (pu_lenM Z underlying76 (tm Z)) (ap (.bool (decide (s63.i < (c_.Tenants.length : Int)))) Z Z Z (pu_int (v := .bool (decide (s63.i < (c_.Tenants.length : Int)))) Z Z (tm Z) (tm Z) Z) (aops_nil (aw_cond (b := decide (s63.i < (c_.Tenants.length : Int))) (tm Z) (fun hb69 => ?_) (fun hb69 => ?_)))))))))))
  ·replace h := ite_t (dec_t hb69) h
   refine aw_skip (aw_seq (aw_block (aw_seq (aw_region (ap (.ptr p36 0) Z Z Z (pu_fieldAddr Z underlying78 Z sizeOf76 (by decide) (tm Z) Z) (ac Z Z Z (op_load1 (i := 0) Z isAgg76 (tm Z) Z Z (ap (.int .i64 s63.i) Z Z Z (pu_move Z (tm Z)) ?_))))))))
   obtain ⟨c67, h⟩ := need_of h
   refine ap (.vptr [.str (ix c_.Tenants s63.i).Name, .str (ix c_.Tenants s63.i).Token, .int .i64 (ix c_.Tenants s63.i).Memory, .int .i64 (ix c_.Tenants s63.i).Policy, .int .i64 (ix c_.Tenants s63.i).Conns, .int .i64 (ix c_.Tenants s63.i).In, .int .i64 (ix c_.Tenants s63.i).Out, .int .i64 (ix c_.Tenants s63.i).Burst, .int .i64 (ix c_.Tenants s63.i).Rate, .int .i64 (ix c_.Tenants s63.i).Disk, .int .i64 (ix c_.Tenants s63.i).Sync, .int .i64 (ix c_.Tenants s63.i).Limits.Args, .int .i64 (ix c_.Tenants s63.i).Limits.Bulk, .int .i64 (ix c_.Tenants s63.i).Limits.Line]) Z Z Z (pu_indexAddrM Z underlying76 sizeOf53 (tm Z) (tm Z) c67 Z) (ap (.vptr [.str (ix c_.Tenants s63.i).Token, .int .i64 (ix c_.Tenants s63.i).Memory, .int .i64 (ix c_.Tenants s63.i).Policy, .int .i64 (ix c_.Tenants s63.i).Conns, .int .i64 (ix c_.Tenants s63.i).In, .int .i64 (ix c_.Tenants s63.i).Out, .int .i64 (ix c_.Tenants s63.i).Burst, .int .i64 (ix c_.Tenants s63.i).Rate, .int .i64 (ix c_.Tenants s63.i).Disk, .int .i64 (ix c_.Tenants s63.i).Sync, .int .i64 (ix c_.Tenants s63.i).Limits.Args, .int .i64 (ix c_.Tenants s63.i).Limits.Bulk, .int .i64 (ix c_.Tenants s63.i).Limits.Line]) Z Z Z (pu_fieldAddr Z underlying53 Z sizeOf9 (by decide) (tm Z) Z) (ac Z Z Z (op_loadV1 Z isAgg9 (tm Z) Z (ap (.str token) Z Z Z (pu_move Z (tm Z)) (ap (.bool (decide ((ix c_.Tenants s63.i).Token = token))) Z Z Z (pu_str (v := .bool (decide ((ix c_.Tenants s63.i).Token = token))) Z Z (tm Z) (tm Z) Z) (aops_nil (aw_cond (b := decide ((ix c_.Tenants s63.i).Token = token)) (tm Z) (fun hb68 => ?_) (fun hb68 => ?_))))))))
   ·replace h := ite_t (dec_t hb68) h
    refine aw_seq (aw_region (ap (.int .i64 s63.i) Z Z Z (pu_move Z (tm Z)) (ap (.int .i64 s63.i) Z Z Z (pu_assign Z (tm Z)) (aops_nil (aw_ret ?_)))))
    obtain rfl := some_of h
    have h := congrArg some (hx64 _ rfl)
    obtain rfl := some_of h
    have h := onSum_inr h53
    obtain rfl := some_of h
    exact ⟨[.int .i64 s63.i], _, [], ⟨(tm Z), trivial⟩, (AV.Le.refl _), Weak.mkL [] (by decide) trivial trivial, ⟨Z, Z⟩⟩
   ·replace h := ite_f (dec_f hb68) h
    refine aw_skip (aw_region (ap (.int .i64 s63.i) Z Z Z (pu_move Z (tm Z)) (ap (.int .i64 (IntKind.wrap .i64 (s63.i + 1))) Z Z Z (pu_int (v := .int .i64 (IntKind.wrap .i64 (s63.i + 1))) Z Z (tm Z) (AEv.int _ _) Z) (ap (.int .i64 (IntKind.wrap .i64 (s63.i + 1))) Z Z Z (pu_assign Z (tm Z)) (aops_nil ?_)))))
    obtain rfl := some_of h
    exact ⟨_, (), Z, Weak.mkL [0] (by decide) ⟨⟨_, Z, (CellsLe.refl _), Z⟩, trivial⟩ ⟨AEv.tmp Z, AEv.tmp Z, (AEv.le (tm Z) (AV.Le.refl _)), trivial⟩⟩
  ·replace h := ite_f (dec_f hb69) h
   refine aw_exit ?_
   obtain rfl := some_of h
   have h := congrArg some (hx64 _ rfl)
   exact ⟨(), (), (some_of h).symm, Weak.mkL [] (by decide) trivial trivial⟩

theorem mewsref28.Upper.ok {s_ : List UInt8} {r : List UInt8} (h : mewsref28.Upper s_ = some r) : Go.Lift.Spec prog 72 [.str s_] [] (fun v H => v = .str r ∧ H = []) := by
 unfold mewsref28.Upper at h
 refine Go.Lift.Spec.of_body (rs := [.tmp 2]) func72 Z Z (Nat.le_of_ble_eq_true Z) Z (aw_seq (aw_region (ap (.str ([] : List UInt8)) Z Z Z (pu_assign Z (AEv.const Z)) (aops_nil (aw_seq (aw_region (ap (.str [97, 98, 99, 100, 101, 102, 103, 104, 105, 106, 107, 108, 109, 110, 111, 112, 113, 114, 115, 116, 117, 118, 119, 120, 121, 122]) Z Z Z (pu_assign Z (AEv.const Z)) (ap (.str [65, 66, 67, 68, 69, 70, 71, 72, 73, 74, 75, 76, 77, 78, 79, 80, 81, 82, 83, 84, 85, 86, 87, 88, 89, 90]) Z Z Z (pu_assign Z (AEv.const Z)) (aops_nil ?_)))))))))
 refine aw_seq (aw_region (ap (.str ([] : List UInt8)) Z Z Z (pu_assign Z (AEv.const Z)) (aops_nil ?_)))
 obtain ⟨s832, s832e, h833⟩ := bind_some h
 refine aw_meet (ν := Unit) (fun v => [(5, .str s832)]) (fun v => []) ?_ ?_
 ·have h := s832e
  refine aw_seq (aw_region (ap (.int .i64 0) Z Z Z (pu_assign Z (AEv.int _ _)) (aops_nil (aw_block (aw_while (σ := mewsref28.Upper.S0) (ν := Unit) (mewsref28.Upper.body0 s_) (fun s1017 v => [(0, .str s_), (3, .str [97, 98, 99, 100, 101, 102, 103, 104, 105, 106, 107, 108, 109, 110, 111, 112, 113, 114, 115, 116, 117, 118, 119, 120, 121, 122]), (4, .str [65, 66, 67, 68, 69, 70, 71, 72, 73, 74, 75, 76, 77, 78, 79, 80, 81, 82, 83, 84, 85, 86, 87, 88, 89, 90]), (5, .str s1017.out), (6, .int .i64 s1017.i)]) (fun s1017 v => []) ⟨([] : List UInt8), 0⟩ () _ h (Weak.mkL [] (by decide) trivial ⟨AEv.tmp Z, AEv.tmp Z, AEv.tmp Z, AEv.tmp Z, AEv.tmp Z, trivial⟩) ?_)))))
  rintro s1017 _ x1019 h hx1018
  unfold mewsref28.Upper.body0 at h
  refine aw_seq (aw_seq (aw_region (ap (.int .i64 s1017.i) Z Z Z (pu_move Z (tm Z)) (ap (.str s_) Z Z Z (pu_move Z (tm Z)) (ap (.int .i64 (s_.length : Int)) Z Z Z (pu_strLen Z underlying9 (tm Z)) (ap (.bool (decide (s1017.i < (s_.length : Int)))) Z Z Z (pu_int (v := .bool (decide (s1017.i < (s_.length : Int)))) Z Z (tm Z) (tm Z) Z) (aops_nil (aw_cond (b := decide (s1017.i < (s_.length : Int))) (tm Z) (fun hb1110 => ?_) (fun hb1110 => ?_)))))))))
  ·replace h := ite_t (dec_t hb1110) h
   refine aw_skip (aw_seq (aw_block (aw_seq (aw_region (ap (.str s_) Z Z Z (pu_move Z (tm Z)) (ap (.int .i64 s1017.i) Z Z Z (pu_move Z (tm Z)) (ap (.int .i64 s1017.i) Z Z Z (pu_move Z (tm Z)) (ap (.int .i64 (IntKind.wrap .i64 (s1017.i + 1))) Z Z Z (pu_int (v := .int .i64 (IntKind.wrap .i64 (s1017.i + 1))) Z Z (tm Z) (AEv.int _ _) Z) ?_))))))))
   obtain ⟨c1021, h⟩ := need_of h
   refine ap (.str (sub s_ s1017.i (IntKind.wrap .i64 (s1017.i + 1)))) Z Z Z (pu_strSliceM Z underlying9 (tm Z) ⟨_, (tm Z)⟩ ⟨_, (tm Z)⟩ c1021) (ap (.str (sub s_ s1017.i (IntKind.wrap .i64 (s1017.i + 1)))) Z Z Z (pu_assign Z (tm Z)) (aops_nil ?_))
   obtain ⟨s1064, s1064e, h1065⟩ := bind_some h
   refine aw_meet (ν := Unit) (fun v => [(0, .str s_), (3, .str [97, 98, 99, 100, 101, 102, 103, 104, 105, 106, 107, 108, 109, 110, 111, 112, 113, 114, 115, 116, 117, 118, 119, 120, 121, 122]), (4, .str [65, 66, 67, 68, 69, 70, 71, 72, 73, 74, 75, 76, 77, 78, 79, 80, 81, 82, 83, 84, 85, 86, 87, 88, 89, 90]), (5, .str s1017.out), (6, .int .i64 s1017.i), (7, .str s1064)]) (fun v => []) ?_ ?_
   ·have h := s1064e
    refine aw_seq (aw_region (ap (.int .i64 0) Z Z Z (pu_assign Z (AEv.int _ _)) (aops_nil (aw_block (aw_while (σ := mewsref28.Upper.S2) (ν := Unit) (mewsref28.Upper.body2 s1017 s_) (fun s1093 v => [(0, .str s_), (3, .str [97, 98, 99, 100, 101, 102, 103, 104, 105, 106, 107, 108, 109, 110, 111, 112, 113, 114, 115, 116, 117, 118, 119, 120, 121, 122]), (4, .str [65, 66, 67, 68, 69, 70, 71, 72, 73, 74, 75, 76, 77, 78, 79, 80, 81, 82, 83, 84, 85, 86, 87, 88, 89, 90]), (5, .str s1017.out), (6, .int .i64 s1017.i), (7, .str s1093.c), (8, .int .i64 s1093.k)]) (fun s1093 v => []) ⟨sub s_ s1017.i (IntKind.wrap .i64 (s1017.i + 1)), 0⟩ () _ h (Weak.mkL [] (by decide) trivial ⟨AEv.tmp Z, AEv.tmp Z, AEv.tmp Z, AEv.tmp Z, AEv.tmp Z, (AEv.le (tm Z) (AV.Le.refl _)), AEv.tmp Z, trivial⟩) ?_)))))
    rintro s1093 _ x1095 h hx1094
    unfold mewsref28.Upper.body2 at h
    refine aw_seq (aw_seq (aw_region (ap (.int .i64 s1093.k) Z Z Z (pu_move Z (tm Z)) (ap (.bool (decide (s1093.k < 26))) Z Z Z (pu_int (v := .bool (decide (s1093.k < 26))) Z Z (tm Z) (AEv.int _ _) Z) (aops_nil (aw_cond (b := decide (s1093.k < 26)) (tm Z) (fun hb1108 => ?_) (fun hb1108 => ?_)))))))
    ·replace h := ite_t (dec_t hb1108) h
     refine aw_skip ?_
     obtain ⟨s1101, s1101e, h1102⟩ := bind_some h
     refine aw_meet (ν := Unit) (fun v => [(0, .str s_), (3, .str [97, 98, 99, 100, 101, 102, 103, 104, 105, 106, 107, 108, 109, 110, 111, 112, 113, 114, 115, 116, 117, 118, 119, 120, 121, 122]), (4, .str [65, 66, 67, 68, 69, 70, 71, 72, 73, 74, 75, 76, 77, 78, 79, 80, 81, 82, 83, 84, 85, 86, 87, 88, 89, 90]), (5, .str s1017.out), (6, .int .i64 s1017.i), (7, .str s1101), (8, .int .i64 s1093.k)]) (fun v => []) ?_ ?_
     ·have h := s1101e
      refine aw_block (aw_seq ?_)
      obtain ⟨c1104, h⟩ := need_of h
      obtain ⟨c1105, h⟩ := need_of h
      refine aw_plan (by decide +kernel) [([], some 24, [0]), ([], some 25, [6]), ([0, 1], some 26, [24, 25]), ([], some 27, [3]), ([], some 28, [8]), ([3, 4], some 29, [27, 28]), ([2, 5], some 30, [26, 29])] Z [[], [], [0, 1], [], [], [3, 4], [0, 1, 2, 3, 4, 5]] [[], [], [], [], [], [], []] [] [] [.str s_, .int .i64 s1017.i, .int .u8 (bix s_ s1017.i), .str [97, 98, 99, 100, 101, 102, 103, 104, 105, 106, 107, 108, 109, 110, 111, 112, 113, 114, 115, 116, 117, 118, 119, 120, 121, 122], .int .i64 s1093.k, .int .u8 (bix [97, 98, 99, 100, 101, 102, 103, 104, 105, 106, 107, 108, 109, 110, 111, 112, 113, 114, 115, 116, 117, 118, 119, 120, 121, 122] s1093.k), .bool (decide ((bix s_ s1017.i) = (bix [97, 98, 99, 100, 101, 102, 103, 104, 105, 106, 107, 108, 109, 110, 111, 112, 113, 114, 115, 116, 117, 118, 119, 120, 121, 122] s1093.k)))] (by decide +kernel) Z Z ?_ ?_
      ·refine ⟨⟨[0], Z, stepg_pure Z (pu_move Z (tm Z))⟩, ?_⟩
       refine ⟨⟨[6], Z, stepg_pure Z (pu_move Z (tm Z))⟩, ?_⟩
       refine ⟨⟨[24, 25], Z, stepg_pure Z (pu_strIdxM Z underlying9 (tm Z) (tm Z) c1104)⟩, ?_⟩
       refine ⟨⟨[3], Z, stepg_pure Z (pu_move Z (tm Z))⟩, ?_⟩
       refine ⟨⟨[8], Z, stepg_pure Z (pu_move Z (tm Z))⟩, ?_⟩
       refine ⟨⟨[27, 28], Z, stepg_pure Z (pu_strIdxM Z underlying9 (tm Z) (tm Z) c1105)⟩, ?_⟩
       refine ⟨⟨[26, 29], Z, stepg_pure Z (pu_int (v := .bool (decide ((bix s_ s1017.i) = (bix [97, 98, 99, 100, 101, 102, 103, 104, 105, 106, 107, 108, 109, 110, 111, 112, 113, 114, 115, 116, 117, 118, 119, 120, 121, 122] s1093.k)))) Z Z (tm Z) (tm Z) Z)⟩, ?_⟩
       trivial
      refine aw_cond (b := decide ((bix s_ s1017.i) = (bix [97, 98, 99, 100, 101, 102, 103, 104, 105, 106, 107, 108, 109, 110, 111, 112, 113, 114, 115, 116, 117, 118, 119, 120, 121, 122] s1093.k))) (tm Z) (fun hb1107 => ?_) (fun hb1107 => ?_)
      ·replace h := ite_t (dec_t hb1107) h
       refine aw_region (ap (.str [65, 66, 67, 68, 69, 70, 71, 72, 73, 74, 75, 76, 77, 78, 79, 80, 81, 82, 83, 84, 85, 86, 87, 88, 89, 90]) Z Z Z (pu_move Z (tm Z)) (ap (.int .i64 s1093.k) Z Z Z (pu_move Z (tm Z)) (ap (.int .i64 s1093.k) Z Z Z (pu_move Z (tm Z)) (ap (.int .i64 (IntKind.wrap .i64 (s1093.k + 1))) Z Z Z (pu_int (v := .int .i64 (IntKind.wrap .i64 (s1093.k + 1))) Z Z (tm Z) (AEv.int _ _) Z) ?_))))
       obtain ⟨c1106, h⟩ := need_of h
       refine ap (.str (sub [65, 66, 67, 68, 69, 70, 71, 72, 73, 74, 75, 76, 77, 78, 79, 80, 81, 82, 83, 84, 85, 86, 87, 88, 89, 90] s1093.k (IntKind.wrap .i64 (s1093.k + 1)))) Z Z Z (pu_strSliceM Z underlying9 (tm Z) ⟨_, (tm Z)⟩ ⟨_, (tm Z)⟩ c1106) (ap (.str (sub [65, 66, 67, 68, 69, 70, 71, 72, 73, 74, 75, 76, 77, 78, 79, 80, 81, 82, 83, 84, 85, 86, 87, 88, 89, 90] s1093.k (IntKind.wrap .i64 (s1093.k + 1)))) Z Z Z (pu_assign Z (tm Z)) (aops_nil ?_))
       obtain rfl := some_of h
       exact ⟨(), Weak.mkL [] (by decide) trivial ⟨AEv.tmp Z, AEv.tmp Z, AEv.tmp Z, AEv.tmp Z, AEv.tmp Z, (AEv.le (tm Z) (AV.Le.refl _)), AEv.tmp Z, trivial⟩⟩
      ·replace h := ite_f (dec_f hb1107) h
       refine aw_skip ?_
       obtain rfl := some_of h
       exact ⟨(), Weak.mkL [] (by decide) trivial ⟨AEv.tmp Z, AEv.tmp Z, AEv.tmp Z, AEv.tmp Z, AEv.tmp Z, AEv.tmp Z, AEv.tmp Z, trivial⟩⟩
     ·intro _
      have h := h1102
      refine aw_region (ap (.int .i64 s1093.k) Z Z Z (pu_move Z (tm Z)) (ap (.int .i64 (IntKind.wrap .i64 (s1093.k + 1))) Z Z Z (pu_int (v := .int .i64 (IntKind.wrap .i64 (s1093.k + 1))) Z Z (tm Z) (AEv.int _ _) Z) (ap (.int .i64 (IntKind.wrap .i64 (s1093.k + 1))) Z Z Z (pu_assign Z (tm Z)) (aops_nil ?_))))
      obtain rfl := some_of h
      exact ⟨_, (), Z, Weak.mkL [] (by decide) trivial ⟨AEv.tmp Z, AEv.tmp Z, AEv.tmp Z, AEv.tmp Z, AEv.tmp Z, AEv.tmp Z, (AEv.le (tm Z) (AV.Le.refl _)), trivial⟩⟩
    ·replace h := ite_f (dec_f hb1108) h
     refine aw_exit ?_
     obtain rfl := some_of h
     have h := congrArg some (hx1094 _ rfl)
     obtain rfl := some_of h
     exact ⟨(), Weak.mkL [] (by decide) trivial ⟨AEv.tmp Z, AEv.tmp Z, AEv.tmp Z, AEv.tmp Z, AEv.tmp Z, AEv.tmp Z, trivial⟩⟩
   ·intro _
    have h := h1065
    refine aw_region (ap (.str s1017.out) Z Z Z (pu_move Z (tm Z)) (ap (.str s1064) Z Z Z (pu_move Z (tm Z)) ?_))
    obtain ⟨c1109, h⟩ := need_of h
    refine ap (.str (s1017.out ++ s1064)) Z Z Z (pu_strAdd Z (tm Z) (tm Z) c1109) (ap (.str (s1017.out ++ s1064)) Z Z Z (pu_assign Z (tm Z)) (aops_nil (aw_region (ap (.int .i64 s1017.i) Z Z Z (pu_move Z (tm Z)) (ap (.int .i64 (IntKind.wrap .i64 (s1017.i + 1))) Z Z Z (pu_int (v := .int .i64 (IntKind.wrap .i64 (s1017.i + 1))) Z Z (tm Z) (AEv.int _ _) Z) (ap (.int .i64 (IntKind.wrap .i64 (s1017.i + 1))) Z Z Z (pu_assign Z (tm Z)) (aops_nil ?_)))))))
    obtain rfl := some_of h
    exact ⟨_, (), Z, Weak.mkL [] (by decide) trivial ⟨AEv.tmp Z, AEv.tmp Z, AEv.tmp Z, (AEv.le (tm Z) (AV.Le.refl _)), (AEv.le (tm Z) (AV.Le.refl _)), trivial⟩⟩
  ·replace h := ite_f (dec_f hb1110) h
   refine aw_exit ?_
   obtain rfl := some_of h
   have h := congrArg some (hx1018 _ rfl)
   obtain rfl := some_of h
   exact ⟨(), Weak.mkL [] (by decide) trivial ⟨AEv.tmp Z, trivial⟩⟩
 ·intro _
  have h := h833
  refine aw_seq (aw_region (ap (.str s832) Z Z Z (pu_move Z (tm Z)) (ap (.str s832) Z Z Z (pu_assign Z (tm Z)) (aops_nil (aw_ret ?_)))))
  obtain rfl := some_of h
  exact ⟨[.str s832], _, [], ⟨(tm Z), trivial⟩, (AV.Le.refl _), Weak.mkL [] (by decide) trivial trivial, ⟨Z, Z⟩⟩

theorem mewsref42.Told.ok {c_ : api.Config} {s_ : List UInt8} {r : Int × Int × Int} (h : mewsref42.Told c_ s_ = some r) : Go.Lift.Spec prog 48 [.agg [.sl .no 14 (c_.Tenants.map api.Tenant.av), .int .i64 c_.Quantum, .int .i64 c_.Deadline], .str s_] [] (fun v H => v = .tup [.int .i64 r.1, .int .i64 r.2.1, .int .i64 r.2.2] ∧ H = []) := by
 unfold mewsref42.Told at h
 refine Go.Lift.Spec.of_body (rs := [.tmp 4, .tmp 5, .tmp 6]) func48 Z Z (Nat.le_of_ble_eq_true Z) Z (aw_seq (aw_region (ac Z Z Z (op_box (cs := [.sl .no 14 (c_.Tenants.map api.Tenant.av), .int .i64 c_.Quantum, .int .i64 c_.Deadline]) (v := .agg [.sl .no 14 (c_.Tenants.map api.Tenant.av), .int .i64 c_.Quantum, .int .i64 c_.Deadline]) Z (tm Z) Z Z ?_))))
 intro p277
 refine ap (.int .i64 0) Z Z Z (pu_assign Z (AEv.int _ _)) (ap (.int .i64 0) Z Z Z (pu_assign Z (AEv.int _ _)) (ap (.int .i64 0) Z Z Z (pu_assign Z (AEv.int _ _)) (aops_nil (aw_seq (aw_region (ap (.agg [.int .i64 16, .int .i64 1024, .int .i64 2048]) Z Z Z (pu_build (zs := [.int .i64 0, .int .i64 0, .int .i64 0]) (szs := [1, 1, 1]) (aparts := [(0, .int .i64 16), (1, .int .i64 1024), (2, .int .i64 2048)]) (cs := [.int .i64 16, .int .i64 1024, .int .i64 2048]) Z underlying23 zeroValue23 Z ⟨sizeOf3, sizeOf3, sizeOf3, trivial⟩ ⟨Z, (AEv.int _ _), ⟨Z, (AEv.int _ _), ⟨Z, (AEv.int _ _), trivial⟩⟩⟩ Z) (ac Z Z Z (op_alloc (cs := [.int .i64 0, .int .i64 0, .int .i64 0]) (v := .agg [.int .i64 0, .int .i64 0, .int .i64 0]) Z zeroValue23 Z Z Z ?_))))))))
 intro p278
 refine ac0 Z Z (op_store (i := 0) (cs' := [.int .i64 16, .int .i64 1024, .int .i64 2048]) Z sizeOf23 (tm Z) (v := .agg [.int .i64 16, .int .i64 1024, .int .i64 2048]) (tm Z) Z Z Z (Nat.le_of_ble_eq_true Z) Z (aops_nil ?_))
 obtain ⟨s552, s552e, h415⟩ := bind_some h
 refine aw_join (σ := Unit) (ν := Unit) (fun u v => [(1, .str s_)]) (fun u v => []) (fun u => s552 = .inl u) ?_ ?_
 ·intro s414
  intro _
  rintro rfl
  have h := onSum_inl h415
  refine aw_seq (aw_region (ap (.str s_) Z Z Z (pu_move Z (tm Z)) (ap (.int .i64 (s_.length : Int)) Z Z Z (pu_strLen Z underlying9 (tm Z)) (ap (.int .i64 (s_.length : Int)) Z Z Z (pu_assign Z (tm Z)) (ap (.int .i64 (-1)) Z Z Z (pu_assign Z (AEv.int _ _)) (ap (.int .i64 0) Z Z Z (pu_assign Z (AEv.int _ _)) (aops_nil (aw_ret ?_))))))))
  obtain rfl := some_of h
  exact ⟨[.int .i64 (s_.length : Int), .int .i64 (-1), .int .i64 0], _, [], ⟨(tm Z), (tm Z), (tm Z), trivial⟩, (AV.Le.refl _), Weak.mkL [] (by decide) trivial trivial, ⟨Z, Z⟩⟩
 ·have h := s552e
  refine aw_seq (aw_region (ap (.int .i64 1) Z Z Z (pu_assign Z (AEv.int _ _)) (aops_nil (aw_block (aw_while (σ := mewsref42.Told.S0) (ν := Unit) (mewsref42.Told.body0 s_ c_) (fun s505 v => [(1, .str s_), (2, .ptr p277 0), (7, .ptr p278 0), (8, .int .i64 s505.n)]) (fun s505 v => [(p277, .cells [.sl .no 14 (c_.Tenants.map api.Tenant.av), .int .i64 c_.Quantum, .int .i64 c_.Deadline]), (p278, .cells [.int .i64 16, .int .i64 1024, .int .i64 2048])]) ⟨1⟩ () _ h (Weak.mkL [1, 0] (by decide) ⟨⟨_, Z, (CellsLe.refl _), Z⟩, ⟨_, Z, (CellsLe.refl _), Z⟩, trivial⟩ ⟨AEv.tmp Z, AEv.tmp Z, AEv.tmp Z, AEv.tmp Z, trivial⟩) ?_)))))
  rintro s505 _ x507 h hx506
  unfold mewsref42.Told.body0 at h
  refine aw_seq (aw_seq (aw_region (ap (.int .i64 s505.n) Z Z Z (pu_move Z (tm Z)) (ap (.str s_) Z Z Z (pu_move Z (tm Z)) (ap (.int .i64 (s_.length : Int)) Z Z Z (pu_strLen Z underlying9 (tm Z)) (ap (.bool (decide (s505.n ≤ (s_.length : Int)))) Z Z Z (pu_int (v := .bool (decide (s505.n ≤ (s_.length : Int)))) Z Z (tm Z) (tm Z) Z) (aops_nil (aw_cond (b := decide (s505.n ≤ (s_.length : Int))) (tm Z) (fun hb551 => ?_) (fun hb551 => ?_)))))))))
  ·replace h := ite_t (dec_t hb551) h
   refine aw_skip ?_
   obtain ⟨s550, s550e, h529⟩ := bind_some h
   refine aw_join (σ := Unit) (ν := Unit) (fun u v => [(1, .str s_), (2, .ptr p277 0), (7, .ptr p278 0), (8, .int .i64 s505.n)]) (fun u v => [(p277, .cells [.sl .no 14 (c_.Tenants.map api.Tenant.av), .int .i64 c_.Quantum, .int .i64 c_.Deadline]), (p278, .cells [.int .i64 16, .int .i64 1024, .int .i64 2048])]) (fun u => s550 = .inl u) ?_ ?_
   ·intro s528
    intro _
    rintro rfl
    have h := onSum_inl h529
    refine aw_region (ap (.int .i64 s505.n) Z Z Z (pu_move Z (tm Z)) (ap (.int .i64 (IntKind.wrap .i64 (s505.n + 1))) Z Z Z (pu_int (v := .int .i64 (IntKind.wrap .i64 (s505.n + 1))) Z Z (tm Z) (AEv.int _ _) Z) (ap (.int .i64 (IntKind.wrap .i64 (s505.n + 1))) Z Z Z (pu_assign Z (tm Z)) (aops_nil ?_))))
    obtain rfl := some_of h
    exact ⟨_, (), Z, Weak.mkL [0, 1] (by decide) ⟨⟨_, Z, (CellsLe.refl _), Z⟩, ⟨_, Z, (CellsLe.refl _), Z⟩, trivial⟩ ⟨AEv.tmp Z, AEv.tmp Z, AEv.tmp Z, (AEv.le (tm Z) (AV.Le.refl _)), trivial⟩⟩
   ·have h := s550e
    refine aw_block (aw_seq ?_)
    obtain ⟨c531, h⟩ := need_of h
    obtain ⟨r532, r532e, h⟩ := bind_some h
    refine aw_reserve fun p533 => (aw_plan (by decide +kernel) [([], some 21, [1]), ([], some 22, [8]), ([0, 1], some 23, [21, 22]), ([], some 24, [7]), ([2, 3], some 25, [23, 24]), ([4], some 20, [25]), ([5], some 26, [20]), ([5], some 27, [20]), ([], some 9, []), ([8, 6, 4, 0, 1, 2, 3, 4, 5, 6, 8], none, [9, 26]), ([7, 9, 0, 1, 2, 3, 4, 5, 6, 7, 8, 9], some 10, [27])] Z [[], [], [0, 1], [], [0, 1, 2, 3], [0, 1, 2, 3, 4], [0, 1, 2, 3, 4, 5], [0, 1, 2, 3, 4, 5], [], [0, 1, 2, 3, 4, 5, 6, 8], [0, 1, 2, 3, 4, 5, 6, 7, 8, 9]] [[], [], [], [(2, 0, false)], [], [], [], [], [(0, 0, true)], [(0, 1, true)], []] [[8, 9], [], []] [[[(p533, .resv)], [(p533, .cells [.str ([] : List UInt8), .sl .full 1 (([] : List (List UInt8)).map AV.str), .int .i64 0, .int .i64 0, .bool false, .int .i64 0, .int .i64 0])], [(p533, .cells (api.Input.ct .no r532.1))]], [[(p277, .cells [.sl .no 14 (c_.Tenants.map api.Tenant.av), .int .i64 c_.Quantum, .int .i64 c_.Deadline])]], [[(p278, .cells [.int .i64 16, .int .i64 1024, .int .i64 2048])]]] [.str s_, .int .i64 s505.n, .str (sub s_ 0 s505.n), .agg [.int .i64 16, .int .i64 1024, .int .i64 2048], .tup [.agg (api.Input.ct .no r532.1), .sl .no 2 (r532.2.map api.Request.av)], .tup [.agg (api.Input.ct .no r532.1), .sl .no 2 (r532.2.map api.Request.av)], .agg (api.Input.ct .no r532.1), .sl .no 2 (r532.2.map api.Request.av), .ptr p533 0, .un, .sl .no 2 (r532.2.map api.Request.av)] (by decide +kernel) Z Z ?_ ?_)
    ·refine ⟨⟨[1], Z, stepg_pure Z (pu_move Z (tm Z))⟩, ?_⟩
     refine ⟨⟨[8], Z, stepg_pure Z (pu_move Z (tm Z))⟩, ?_⟩
     refine ⟨⟨[21, 22], Z, stepg_pure Z (pu_strSliceM Z underlying9 (tm Z) Z ⟨_, (tm Z)⟩ c531)⟩, ?_⟩
     refine ⟨⟨[7], Z, stepg_plain Z (op_loadN (i := 0) Z isAgg23 sizeOf23 (tm Z) Z (Nat.le_of_ble_eq_true Z) Z ⟨Z, Z⟩)⟩, ?_⟩
     refine ⟨⟨[23, 24], Z, stepg_plain Z (aop_forget (.tup [.agg (api.Input.ct .no r532.1), .sl .no 2 (r532.2.map api.Request.av)]) [] (op_call (vs := [.str (sub s_ 0 s505.n), .agg [.int .i64 16, .int .i64 1024, .int .i64 2048]]) (H := []) Z call16 ⟨(tm Z), (tm Z), trivial⟩ (R := []) (List.Perm.refl _) (mewsref05.All.ok r532e) (by rintro _ _ ⟨_, rfl, rfl⟩; exact ⟨([] : List Nat), _, Z, Z, (AV.Le.tup ⟨(AV.Le.refl _), (AV.Le.forget _ _ _), trivial⟩), List.nodup_nil, Z⟩)) ⟨Z, Z⟩)⟩, ?_⟩
     refine ⟨⟨[25], Z, stepg_pure Z (pu_move Z (tm Z))⟩, ?_⟩
     refine ⟨⟨[20], Z, stepg_pure Z (pu_extract Z (tm Z) (Nat.le_of_ble_eq_true Z) Z)⟩, ?_⟩
     refine ⟨⟨[20], Z, stepg_pure Z (pu_extract Z (tm Z) (Nat.le_of_ble_eq_true Z) Z)⟩, ?_⟩
     refine ⟨⟨[], Z, stepg_plain Z (aop_settleP (op_alloc (cs := [.str ([] : List UInt8), .sl .full 1 (([] : List (List UInt8)).map AV.str), .int .i64 0, .int .i64 0, .bool false, .int .i64 0, .int .i64 0]) (v := .agg [.str ([] : List UInt8), .sl .full 1 (([] : List (List UInt8)).map AV.str), .int .i64 0, .int .i64 0, .bool false, .int .i64 0, .int .i64 0]) Z zeroValue29 Z Z Z fun t => ⟨t, Z, Z⟩) ⟨Z, Z⟩)⟩, ?_⟩
     refine ⟨⟨[9, 26], Z, stepg_plain Z (op_store (i := 0) (cs' := (api.Input.ct .no r532.1)) Z sizeOf29 (tm Z) (v := .agg (api.Input.ct .no r532.1)) (tm Z) Z Z Z (Nat.le_of_ble_eq_true Z) Z ⟨Z, Z⟩)⟩, ?_⟩
     refine ⟨⟨[27], Z, stepg_pure Z (pu_assign Z (tm Z))⟩, ?_⟩
     trivial
    refine aw_seq (aw_seq (aw_region (ap (.ptr p533 6) Z Z Z (pu_fieldAddr Z underlying29 Z sizeOf27 (by decide) (tm Z) Z) (ac Z Z Z (op_load1 (i := 0) Z isAgg27 (tm Z) Z Z (ap (.bool (!decide (r532.1.Dead = 0))) Z Z Z (pu_int (v := .bool (!decide (r532.1.Dead = 0))) Z Z (tm Z) (AEv.int _ _) Z) (aops_nil (aw_cond (b := (!decide (r532.1.Dead = 0))) (tm Z) (fun hb549 => ?_) (fun hb549 => ?_)))))))))
    ·replace h := ite_f (ndec_t hb549) h
     refine aw_seq (aw_region (ap (.int .i64 s505.n) Z Z Z (pu_move Z (tm Z)) (ap (.int .i64 s505.n) Z Z Z (pu_assign Z (tm Z)) (ap (.int .i64 (-1)) Z Z Z (pu_assign Z (AEv.int _ _)) (ap (.int .i64 4) Z Z Z (pu_assign Z (AEv.int _ _)) (aops_nil (aw_ret ?_)))))))
     obtain rfl := some_of h
     have h := onSum_inr h529
     obtain rfl := some_of h
     have h := congrArg some (hx506 _ rfl)
     obtain rfl := some_of h
     have h := onSum_inr h415
     obtain rfl := some_of h
     exact ⟨[.int .i64 s505.n, .int .i64 (-1), .int .i64 4], _, [], ⟨(tm Z), (tm Z), (tm Z), trivial⟩, (AV.Le.refl _), Weak.mkL [] (by decide) trivial trivial, ⟨Z, Z⟩⟩
    ·replace h := ite_t (ndec_f hb549) h
     refine aw_skip (aw_seq (aw_seq (aw_region (ap (.sl .no 2 (r532.2.map api.Request.av)) Z Z Z (pu_move Z (tm Z)) (ap (.int .i64 (r532.2.length : Int)) Z Z Z (pu_lenM Z underlying30 (tm Z)) (ap (.bool (decide ((r532.2.length : Int) = 0))) Z Z Z (pu_int (v := .bool (decide ((r532.2.length : Int) = 0))) Z Z (tm Z) (AEv.int _ _) Z) (aops_nil (aw_cond (b := decide ((r532.2.length : Int) = 0)) (tm Z) (fun hb548 => ?_) (fun hb548 => ?_)))))))))
     ·replace h := ite_t (dec_t hb548) h
      refine aw_exit ?_
      exact ⟨(), (), (some_of h).symm, Weak.mkL [1, 2] (by decide) ⟨⟨_, Z, (CellsLe.refl _), Z⟩, ⟨_, Z, (CellsLe.refl _), Z⟩, trivial⟩ ⟨AEv.tmp Z, AEv.tmp Z, AEv.tmp Z, AEv.tmp Z, trivial⟩⟩
     ·replace h := ite_f (dec_f hb548) h
      refine aw_skip (aw_seq (aw_region (ap (.sl .no 2 (r532.2.map api.Request.av)) Z Z Z (pu_move Z (tm Z)) ?_)))
      obtain ⟨c534, h⟩ := need_of h
      refine ap (.vptr [.sl .no 1 ((ix r532.2 0).Args.map AV.str), .int .i64 (ix r532.2 0).Size]) Z Z Z (pu_indexAddrM Z underlying30 sizeOf44 (tm Z) (AEv.int _ _) c534 Z) (ap (.vptr [.sl .no 1 ((ix r532.2 0).Args.map AV.str), .int .i64 (ix r532.2 0).Size]) Z Z Z (pu_fieldAddr Z underlying44 Z sizeOf26 (by decide) (tm Z) Z) (ac Z Z Z (op_loadV1 Z isAgg26 (tm Z) Z (ap (.sl .no 1 ((ix r532.2 0).Args.map AV.str)) Z Z Z (pu_assign Z (tm Z)) (aops_nil (aw_seq ?_))))))
      obtain ⟨s538, s538e, h539⟩ := bind_some h
      refine aw_meet (ν := Unit) (fun v => [(2, .ptr p277 0), (8, .int .i64 s505.n), (11, .sl .no 1 ((ix r532.2 0).Args.map AV.str)), (48, .bool s538)]) (fun v => [(p277, .cells [.sl .no 14 (c_.Tenants.map api.Tenant.av), .int .i64 c_.Quantum, .int .i64 c_.Deadline])]) ?_ ?_
      ·have h := s538e
       refine aw_region (ap (.sl .no 1 ((ix r532.2 0).Args.map AV.str)) Z Z Z (pu_move Z (tm Z)) (ap (.int .i64 ((ix r532.2 0).Args.length : Int)) Z Z Z (pu_lenM Z underlying26 (tm Z)) (ap (.bool (!decide (((ix r532.2 0).Args.length : Int) = 2))) Z Z Z (pu_int (v := .bool (!decide (((ix r532.2 0).Args.length : Int) = 2))) Z Z (tm Z) (AEv.int _ _) Z) (ap (.bool (!decide (((ix r532.2 0).Args.length : Int) = 2))) Z Z Z (pu_move Z (tm Z)) ?_))))
       rcases Bool.eq_false_or_eq_true (!decide (((ix r532.2 0).Args.length : Int) = 2)) with hb541 | hb541
       ·replace h := ite_f (ndec_t hb541) h
        refine aops_known 42 Z hb541 (an Z Z Z Z Z Z Z Z (an Z Z Z Z Z Z Z Z (an Z Z Z Z Z Z Z Z (an Z Z Z Z Z Z Z Z (an Z Z Z Z Z Z Z Z (ap (.bool true) Z Z Z (pu_pick (b := true) Z (tm Z) (fun _ => (AEv.bool _)) (fun h => nomatch h)) (aops_nil ?_)))))))
        obtain rfl := some_of h
        exact ⟨(), Weak.mkL [1] (by decide) ⟨⟨_, Z, (CellsLe.refl _), Z⟩, trivial⟩ ⟨AEv.tmp Z, AEv.tmp Z, AEv.tmp Z, AEv.tmp Z, trivial⟩⟩
       ·replace h := ite_t (ndec_f hb541) h
        refine aops_known 42 Z hb541 (agp (.sl .no 1 ((ix r532.2 0).Args.map AV.str)) Z Z Z Z Z Z Z (pu_move Z (tm Z)) ?_)
        obtain ⟨c542, h⟩ := need_of h
        refine agp (.vptr [.str (ix (ix r532.2 0).Args 0)]) Z Z Z Z Z Z Z (pu_indexAddrM Z underlying26 sizeOf9 (tm Z) (AEv.int _ _) c542 Z) (ag Z Z Z Z Z Z Z (op_loadV1 Z isAgg9 (tm Z) Z ?_))
        obtain ⟨r543, r543e, h⟩ := bind_some h
        refine ag Z Z Z Z Z Z Z (op_call (vs := [.str (ix (ix r532.2 0).Args 0)]) (H := []) Z call72 ⟨(tm Z), trivial⟩ (List.Perm.refl _) (mewsref28.Upper.ok r543e) ?_)
        rintro _ _ ⟨rfl, rfl⟩
        refine agp (.bool (!decide (r543 = [65, 85, 84, 72]))) Z Z Z Z Z Z Z (pu_str (v := .bool (!decide (r543 = [65, 85, 84, 72]))) Z Z (tm Z) (AEv.const Z) Z) (ap (.bool (!decide (r543 = [65, 85, 84, 72]))) Z Z Z (pu_pick (b := false) Z (tm Z) (fun h => nomatch h) (fun _ => (tm Z))) (aops_nil ?_))
        obtain rfl := some_of h
        exact ⟨(), Weak.mkL [1] (by decide) ⟨⟨_, Z, (CellsLe.refl _), Z⟩, trivial⟩ ⟨AEv.tmp Z, AEv.tmp Z, AEv.tmp Z, AEv.tmp Z, trivial⟩⟩
      ·intro _
       have h := h539
       refine aw_cond (b := s538) (tm Z) (fun hb547 => ?_) (fun hb547 => ?_)
       ·replace h := ite_t hb547 h
        refine aw_seq (aw_region (ap (.int .i64 s505.n) Z Z Z (pu_move Z (tm Z)) (ap (.int .i64 s505.n) Z Z Z (pu_assign Z (tm Z)) (ap (.int .i64 (-1)) Z Z Z (pu_assign Z (AEv.int _ _)) (ap (.int .i64 2) Z Z Z (pu_assign Z (AEv.int _ _)) (aops_nil (aw_ret ?_)))))))
        obtain rfl := some_of h
        have h := onSum_inr h529
        obtain rfl := some_of h
        have h := congrArg some (hx506 _ rfl)
        obtain rfl := some_of h
        have h := onSum_inr h415
        obtain rfl := some_of h
        exact ⟨[.int .i64 s505.n, .int .i64 (-1), .int .i64 2], _, [], ⟨(tm Z), (tm Z), (tm Z), trivial⟩, (AV.Le.refl _), Weak.mkL [] (by decide) trivial trivial, ⟨Z, Z⟩⟩
       ·replace h := ite_fb hb547 h
        refine aw_skip (aw_seq ?_)
        obtain ⟨c544, h⟩ := need_of h
        obtain ⟨r545, r545e, h⟩ := bind_some h
        refine aw_plan (by decide +kernel) [([], some 50, [2]), ([], some 51, [11]), ([1], some 52, [51]), ([2], some 53, [52]), ([0, 3], some 54, [50, 53]), ([4, 4, 0, 1, 2, 3, 4], some 12, [54])] Z [[], [], [1], [1, 2], [0, 1, 2, 3], [0, 1, 2, 3, 4]] [[(0, 0, false)], [], [], [], [], []] [[]] [[[(p277, .cells [.sl .no 14 (c_.Tenants.map api.Tenant.av), .int .i64 c_.Quantum, .int .i64 c_.Deadline])]]] [.agg [.sl .no 14 (c_.Tenants.map api.Tenant.av), .int .i64 c_.Quantum, .int .i64 c_.Deadline], .sl .no 1 ((ix r532.2 0).Args.map AV.str), .vptr [.str (ix (ix r532.2 0).Args 1)], .str (ix (ix r532.2 0).Args 1), .int .i64 r545, .int .i64 r545] (by decide +kernel) Z Z ?_ ?_
        ·refine ⟨⟨[2], Z, stepg_plain Z (op_loadN (i := 0) Z isAgg78 sizeOf78 (tm Z) Z (Nat.le_of_ble_eq_true Z) Z ⟨Z, Z⟩)⟩, ?_⟩
         refine ⟨⟨[11], Z, stepg_pure Z (pu_move Z (tm Z))⟩, ?_⟩
         refine ⟨⟨[51], Z, stepg_pure Z (pu_indexAddrM Z underlying26 sizeOf9 (tm Z) (AEv.int _ _) c544 Z)⟩, ?_⟩
         refine ⟨⟨[52], Z, stepg_plain Z (op_loadV1 Z isAgg9 (tm Z) Z ⟨Z, Z⟩)⟩, ?_⟩
         refine ⟨⟨[50, 53], Z, stepg_plain Z (op_call (vs := [.agg [.sl .no 14 (c_.Tenants.map api.Tenant.av), .int .i64 c_.Quantum, .int .i64 c_.Deadline], .str (ix (ix r532.2 0).Args 1)]) (H := []) Z call46 ⟨(tm Z), (tm Z), trivial⟩ (R := []) (List.Perm.refl _) (mewsref42.Find.ok r545e) (by rintro _ _ ⟨rfl, rfl⟩; exact ⟨Z, Z⟩))⟩, ?_⟩
         refine ⟨⟨[54], Z, stepg_pure Z (pu_assign Z (tm Z))⟩, ?_⟩
         trivial
        refine aw_seq (aw_seq (aw_region (ap (.int .i64 r545) Z Z Z (pu_move Z (tm Z)) (ap (.bool (decide (r545 < 0))) Z Z Z (pu_int (v := .bool (decide (r545 < 0))) Z Z (tm Z) (AEv.int _ _) Z) (aops_nil (aw_cond (b := decide (r545 < 0)) (tm Z) (fun hb546 => ?_) (fun hb546 => ?_)))))))
        ·replace h := ite_t (dec_t hb546) h
         refine aw_seq (aw_region (ap (.int .i64 s505.n) Z Z Z (pu_move Z (tm Z)) (ap (.int .i64 s505.n) Z Z Z (pu_assign Z (tm Z)) (ap (.int .i64 (-1)) Z Z Z (pu_assign Z (AEv.int _ _)) (ap (.int .i64 3) Z Z Z (pu_assign Z (AEv.int _ _)) (aops_nil (aw_ret ?_)))))))
         obtain rfl := some_of h
         have h := onSum_inr h529
         obtain rfl := some_of h
         have h := congrArg some (hx506 _ rfl)
         obtain rfl := some_of h
         have h := onSum_inr h415
         obtain rfl := some_of h
         exact ⟨[.int .i64 s505.n, .int .i64 (-1), .int .i64 3], _, [], ⟨(tm Z), (tm Z), (tm Z), trivial⟩, (AV.Le.refl _), Weak.mkL [] (by decide) trivial trivial, ⟨Z, Z⟩⟩
        ·replace h := ite_f (dec_f hb546) h
         refine aw_skip (aw_seq (aw_region (ap (.int .i64 s505.n) Z Z Z (pu_move Z (tm Z)) (ap (.int .i64 r545) Z Z Z (pu_move Z (tm Z)) (ap (.int .i64 s505.n) Z Z Z (pu_assign Z (tm Z)) (ap (.int .i64 r545) Z Z Z (pu_assign Z (tm Z)) (ap (.int .i64 1) Z Z Z (pu_assign Z (AEv.int _ _)) (aops_nil (aw_ret ?_)))))))))
         obtain rfl := some_of h
         have h := onSum_inr h529
         obtain rfl := some_of h
         have h := congrArg some (hx506 _ rfl)
         obtain rfl := some_of h
         have h := onSum_inr h415
         obtain rfl := some_of h
         exact ⟨[.int .i64 s505.n, .int .i64 r545, .int .i64 1], _, [], ⟨(tm Z), (tm Z), (tm Z), trivial⟩, (AV.Le.refl _), Weak.mkL [] (by decide) trivial trivial, ⟨Z, Z⟩⟩
  ·replace h := ite_f (dec_f hb551) h
   refine aw_exit ?_
   obtain rfl := some_of h
   have h := congrArg some (hx506 _ rfl)
   exact ⟨(), (), (some_of h).symm, Weak.mkL [] (by decide) trivial ⟨AEv.tmp Z, trivial⟩⟩

end Go.Pu
