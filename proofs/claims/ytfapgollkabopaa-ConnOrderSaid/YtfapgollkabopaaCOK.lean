/- Printed by lift.py: the functions come to them. -/
import Derived.Test.YtfapgollkabopaaCOK1
set_option maxRecDepth 100000
set_option maxHeartbeats 0
namespace Go.Pu
open Go.Lift Go.Proofs.Try Go.RowKit Go.Proofs

theorem mewslaw43.alive.ok  {r : Bool} (h : mewslaw43.alive = some r) : Go.Lift.Spec prog 25 [] [] (fun v H => v = .bool r ∧ H = []) := by
  unfold mewslaw43.alive at h
  refine Go.Lift.Spec.of_body (rs := [.tmp 0]) func25 rfl rfl (Nat.le_of_ble_eq_true rfl) rfl ?_
  refine aw_seq ?_
  refine aw_region ?_
  refine ap (.bool false) rfl rfl rfl (pu_assign rfl (AEv.bool _)) ?_
  refine aops_nil ?_
  refine aw_seq ?_
  refine aw_region ?_
  refine ap (.agg [.int .i64 9, .int .i64 9, .int .i64 9]) rfl rfl rfl (pu_build (zs := [.int .i64 0, .int .i64 0, .int .i64 0]) (szs := [1, 1, 1]) (aparts := [(0, .int .i64 9), (1, .int .i64 9), (2, .int .i64 9)]) (cs := [.int .i64 9, .int .i64 9, .int .i64 9]) rfl underlying23 zeroValue23 rfl ⟨sizeOf3, sizeOf3, sizeOf3, trivial⟩ ⟨rfl, (AEv.int _ _), ⟨rfl, (AEv.int _ _), ⟨rfl, (AEv.int _ _), trivial⟩⟩⟩ rfl) ?_
  refine ap (.agg [.str ([] : List UInt8), .str ([] : List UInt8), .int .i64 0, .int .i64 0, .int .i64 0, .int .i64 100, .int .i64 100, .int .i64 0, .int .i64 0, .int .i64 0, .int .i64 0, .int .i64 9, .int .i64 9, .int .i64 9]) rfl rfl rfl (pu_build (zs := [.str ([] : List UInt8), .str ([] : List UInt8), .int .i64 0, .int .i64 0, .int .i64 0, .int .i64 0, .int .i64 0, .int .i64 0, .int .i64 0, .int .i64 0, .int .i64 0, .int .i64 0, .int .i64 0, .int .i64 0]) (szs := [1, 1, 1, 1, 1, 1, 1, 1, 1, 1, 1, 3]) (aparts := [(5, .int .i64 100), (6, .int .i64 100), (11, .agg [.int .i64 9, .int .i64 9, .int .i64 9])]) (cs := [.str ([] : List UInt8), .str ([] : List UInt8), .int .i64 0, .int .i64 0, .int .i64 0, .int .i64 100, .int .i64 100, .int .i64 0, .int .i64 0, .int .i64 0, .int .i64 0, .int .i64 9, .int .i64 9, .int .i64 9]) rfl underlying53 zeroValue53 rfl ⟨sizeOf9, sizeOf9, sizeOf3, sizeOf3, sizeOf3, sizeOf3, sizeOf3, sizeOf3, sizeOf3, sizeOf3, sizeOf3, sizeOf23, trivial⟩ ⟨rfl, (AEv.int _ _), ⟨rfl, (AEv.int _ _), ⟨rfl, (AEv.tmp rfl), trivial⟩⟩⟩ rfl) ?_
  refine ac rfl rfl rfl (op_alloc (cs := [.str ([] : List UInt8), .str ([] : List UInt8), .int .i64 0, .int .i64 0, .int .i64 0, .int .i64 0, .int .i64 0, .int .i64 0, .int .i64 0, .int .i64 0, .int .i64 0, .int .i64 0, .int .i64 0, .int .i64 0]) (v := .agg [.str ([] : List UInt8), .str ([] : List UInt8), .int .i64 0, .int .i64 0, .int .i64 0, .int .i64 0, .int .i64 0, .int .i64 0, .int .i64 0, .int .i64 0, .int .i64 0, .int .i64 0, .int .i64 0, .int .i64 0]) rfl zeroValue53 rfl rfl rfl ?_)
  intro p30
  refine ac0 rfl rfl (op_store (i := 0) (cs' := [.str ([] : List UInt8), .str ([] : List UInt8), .int .i64 0, .int .i64 0, .int .i64 0, .int .i64 100, .int .i64 100, .int .i64 0, .int .i64 0, .int .i64 0, .int .i64 0, .int .i64 9, .int .i64 9, .int .i64 9]) rfl sizeOf53 (AEv.tmp rfl) (v := .agg [.str ([] : List UInt8), .str ([] : List UInt8), .int .i64 0, .int .i64 0, .int .i64 0, .int .i64 100, .int .i64 100, .int .i64 0, .int .i64 0, .int .i64 0, .int .i64 0, .int .i64 9, .int .i64 9, .int .i64 9]) (AEv.tmp rfl) rfl rfl rfl (Nat.le_of_ble_eq_true rfl) rfl ?_)
  refine aops_nil ?_
  refine aw_seq ?_
  obtain ⟨r31, r31e, h⟩ := bind_some h
  obtain ⟨r32, r32e, h⟩ := bind_some h
  obtain ⟨r33, r33e, h⟩ := bind_some h
  refine aw_reserve fun p34 => ?_
  refine aw_plan (by decide +kernel) [([], some 10, []), ([], some 11, [1]), ([0, 1, 0], some 12, [10, 11]), ([], some 13, [1]), ([2, 3, 2], some 14, [12, 13]), ([], some 2, []), ([5, 4, 4, 0, 1, 2, 3, 4, 5], none, [2, 14])] rfl [[], [], [0, 1], [], [0, 1, 2, 3], [], [0, 1, 2, 3, 4, 5]] [[], [(1, 0, false)], [], [(1, 0, false)], [], [(0, 0, true)], [(0, 1, true)]] [[5, 6], []] [[[(p34, .resv)], [(p34, .cells [.int .i64 0, .int .i64 0, .str ([] : List UInt8), .sl .full 1 (([] : List (List UInt8)).map AV.str), .int .i64 0, .int .i64 0, .bool false, .int .i64 0, .int .i64 0, .int .i64 0, .sl .full 2 (([] : List api.Held).map api.Held.av), .str ([] : List UInt8), .int .i64 0, .bool false, .bool false])], [(p34, .cells (api.Conn.ct .no .no r33))]], [[(p30, .cells [.str ([] : List UInt8), .str ([] : List UInt8), .int .i64 0, .int .i64 0, .int .i64 0, .int .i64 100, .int .i64 100, .int .i64 0, .int .i64 0, .int .i64 0, .int .i64 0, .int .i64 9, .int .i64 9, .int .i64 9])]]] [.agg (api.Conn.ct .full .full r31), .agg [.str ([] : List UInt8), .str ([] : List UInt8), .int .i64 0, .int .i64 0, .int .i64 0, .int .i64 100, .int .i64 100, .int .i64 0, .int .i64 0, .int .i64 0, .int .i64 0, .int .i64 9, .int .i64 9, .int .i64 9], .agg (api.Conn.ct .no .no r32), .agg [.str ([] : List UInt8), .str ([] : List UInt8), .int .i64 0, .int .i64 0, .int .i64 0, .int .i64 100, .int .i64 100, .int .i64 0, .int .i64 0, .int .i64 0, .int .i64 0, .int .i64 9, .int .i64 9, .int .i64 9], .agg (api.Conn.ct .no .no r33), .ptr p34 0, .un] (by decide +kernel) rfl rfl ?_ ?_
  · refine ⟨⟨[], rfl, stepg_plain rfl (op_call (vs := [.int .i64 7]) (H := []) rfl call26 ⟨(AEv.int _ _), trivial⟩ (R := []) (List.Perm.refl _) (conn.Open.ok r31e) (by rintro _ _ ⟨rfl, rfl⟩; exact ⟨rfl, rfl⟩))⟩, ?_⟩
    refine ⟨⟨[1], rfl, stepg_plain rfl (op_loadN (i := 0) rfl isAgg53 sizeOf53 (AEv.tmp rfl) rfl (Nat.le_of_ble_eq_true rfl) rfl ⟨rfl, rfl⟩)⟩, ?_⟩
    refine ⟨⟨[10, 11], rfl, stepg_plain rfl (op_call (vs := [.agg (api.Conn.ct .no .no r31), .str [97], .int .i64 2, .int .i64 0, .agg [.str ([] : List UInt8), .str ([] : List UInt8), .int .i64 0, .int .i64 0, .int .i64 0, .int .i64 100, .int .i64 100, .int .i64 0, .int .i64 0, .int .i64 0, .int .i64 0, .int .i64 9, .int .i64 9, .int .i64 9]]) (H := []) rfl call27 ⟨(AEv.le (AEv.tmp rfl) (AV.Le.agg ⟨(AV.Le.refl _), (AV.Le.refl _), (AV.Le.refl _), (AV.Le.forget _ _ _), (AV.Le.refl _), (AV.Le.refl _), (AV.Le.refl _), (AV.Le.refl _), (AV.Le.refl _), (AV.Le.refl _), (AV.Le.forget _ _ _), (AV.Le.refl _), (AV.Le.refl _), (AV.Le.refl _), (AV.Le.refl _), trivial⟩)), (AEv.const rfl), (AEv.int _ _), (AEv.int _ _), (AEv.tmp rfl), trivial⟩ (R := []) (List.Perm.refl _) (conn.Say.ok r32e) (by rintro _ _ ⟨rfl, rfl⟩; exact ⟨rfl, rfl⟩))⟩, ?_⟩
    refine ⟨⟨[1], rfl, stepg_plain rfl (op_loadN (i := 0) rfl isAgg53 sizeOf53 (AEv.tmp rfl) rfl (Nat.le_of_ble_eq_true rfl) rfl ⟨rfl, rfl⟩)⟩, ?_⟩
    refine ⟨⟨[12, 13], rfl, stepg_plain rfl (op_call (vs := [.agg (api.Conn.ct .no .no r32), .str [98], .int .i64 0, .int .i64 0, .agg [.str ([] : List UInt8), .str ([] : List UInt8), .int .i64 0, .int .i64 0, .int .i64 0, .int .i64 100, .int .i64 100, .int .i64 0, .int .i64 0, .int .i64 0, .int .i64 0, .int .i64 9, .int .i64 9, .int .i64 9]]) (H := []) rfl call27 ⟨(AEv.tmp rfl), (AEv.const rfl), (AEv.int _ _), (AEv.int _ _), (AEv.tmp rfl), trivial⟩ (R := []) (List.Perm.refl _) (conn.Say.ok r33e) (by rintro _ _ ⟨rfl, rfl⟩; exact ⟨rfl, rfl⟩))⟩, ?_⟩
    refine ⟨⟨[], rfl, stepg_plain rfl (aop_settleP (op_alloc (cs := [.int .i64 0, .int .i64 0, .str ([] : List UInt8), .sl .full 1 (([] : List (List UInt8)).map AV.str), .int .i64 0, .int .i64 0, .bool false, .int .i64 0, .int .i64 0, .int .i64 0, .sl .full 2 (([] : List api.Held).map api.Held.av), .str ([] : List UInt8), .int .i64 0, .bool false, .bool false]) (v := .agg [.int .i64 0, .int .i64 0, .str ([] : List UInt8), .sl .full 1 (([] : List (List UInt8)).map AV.str), .int .i64 0, .int .i64 0, .bool false, .int .i64 0, .int .i64 0, .int .i64 0, .sl .full 2 (([] : List api.Held).map api.Held.av), .str ([] : List UInt8), .int .i64 0, .bool false, .bool false]) rfl zeroValue56 rfl rfl rfl fun t => ⟨t, rfl, rfl⟩) ⟨rfl, rfl⟩)⟩, ?_⟩
    refine ⟨⟨[2, 14], rfl, stepg_plain rfl (op_store (i := 0) (cs' := (api.Conn.ct .no .no r33)) rfl sizeOf56 (AEv.tmp rfl) (v := .agg (api.Conn.ct .no .no r33)) (AEv.tmp rfl) rfl rfl rfl (Nat.le_of_ble_eq_true rfl) rfl ⟨rfl, rfl⟩)⟩, ?_⟩
    trivial
  refine aw_seq ?_
  refine aw_region ?_
  refine ac rfl rfl rfl (op_loadN (i := 0) rfl isAgg56 sizeOf56 (AEv.tmp rfl) rfl (Nat.le_of_ble_eq_true rfl) rfl ?_)
  obtain ⟨r35, r35e, h⟩ := bind_some h
  refine ac rfl rfl rfl (op_call (vs := [.agg (api.Conn.ct .no .no r33), .int .i64 2]) (H := []) rfl call28 ⟨(AEv.tmp rfl), (AEv.int _ _), trivial⟩ (List.Perm.refl _) (conn.Free.ok r35e) ?_)
  rintro _ _ ⟨t36, rfl, rfl⟩
  obtain ⟨r37, r37e, h⟩ := bind_some h
  refine ac rfl rfl rfl (op_call (vs := [.agg (api.Conn.ct .no .no r35), .int .i64 9]) (H := []) rfl call29 ⟨(AEv.le (AEv.tmp rfl) (AV.Le.agg ⟨(AV.Le.refl _), (AV.Le.refl _), (AV.Le.refl _), (AV.Le.refl _), (AV.Le.refl _), (AV.Le.refl _), (AV.Le.refl _), (AV.Le.refl _), (AV.Le.refl _), (AV.Le.refl _), (AV.Le.forget _ _ _), (AV.Le.refl _), (AV.Le.refl _), (AV.Le.refl _), (AV.Le.refl _), trivial⟩)), (AEv.int _ _), trivial⟩ (List.Perm.refl _) (conn.Take.ok r37e) ?_)
  rintro _ _ ⟨rfl, rfl⟩
  refine ap (.tup [.agg (api.Conn.ct .no .no r37.1), .str r37.2]) rfl rfl rfl (pu_move rfl (AEv.tmp rfl)) ?_
  refine ap (.agg (api.Conn.ct .no .no r37.1)) rfl rfl rfl (pu_extract rfl (AEv.tmp rfl) (Nat.le_of_ble_eq_true rfl) rfl) ?_
  refine ap (.str r37.2) rfl rfl rfl (pu_extract rfl (AEv.tmp rfl) (Nat.le_of_ble_eq_true rfl) rfl) ?_
  refine ac rfl rfl rfl (op_alloc (cs := [.int .i64 0, .int .i64 0, .str ([] : List UInt8), .sl .full 1 (([] : List (List UInt8)).map AV.str), .int .i64 0, .int .i64 0, .bool false, .int .i64 0, .int .i64 0, .int .i64 0, .sl .full 2 (([] : List api.Held).map api.Held.av), .str ([] : List UInt8), .int .i64 0, .bool false, .bool false]) (v := .agg [.int .i64 0, .int .i64 0, .str ([] : List UInt8), .sl .full 1 (([] : List (List UInt8)).map AV.str), .int .i64 0, .int .i64 0, .bool false, .int .i64 0, .int .i64 0, .int .i64 0, .sl .full 2 (([] : List api.Held).map api.Held.av), .str ([] : List UInt8), .int .i64 0, .bool false, .bool false]) rfl zeroValue56 rfl rfl rfl ?_)
  intro p38
  refine ac0 rfl rfl (op_store (i := 0) (cs' := (api.Conn.ct .no .no r37.1)) rfl sizeOf56 (AEv.tmp rfl) (v := .agg (api.Conn.ct .no .no r37.1)) (AEv.tmp rfl) rfl rfl rfl (Nat.le_of_ble_eq_true rfl) rfl ?_)
  refine ap (.str r37.2) rfl rfl rfl (pu_assign rfl (AEv.tmp rfl)) ?_
  refine aops_nil ?_
  refine aw_seq ?_
  obtain ⟨r39, r39e, h⟩ := bind_some h
  obtain ⟨r40, r40e, h⟩ := bind_some h
  refine aw_reserve fun p41 => ?_
  refine aw_plan (by decide +kernel) [([], some 22, []), ([], some 23, [1]), ([0, 1, 0], some 24, [22, 23]), ([2], some 21, [24]), ([3], some 25, [21]), ([3], some 26, [21]), ([3], some 27, [21]), ([], some 5, []), ([7, 4, 2, 0, 1, 2, 3, 4, 7], none, [5, 25]), ([5, 8, 0, 1, 2, 3, 4, 5, 7, 8], some 6, [26]), ([6, 9, 0, 1, 2, 3, 4, 5, 6, 7, 8, 9], some 7, [27])] rfl [[], [], [0, 1], [0, 1, 2], [0, 1, 2, 3], [0, 1, 2, 3], [0, 1, 2, 3], [], [0, 1, 2, 3, 4, 7], [0, 1, 2, 3, 4, 5, 7, 8], [0, 1, 2, 3, 4, 5, 6, 7, 8, 9]] [[], [(4, 0, false)], [], [], [], [], [], [(0, 0, true)], [(0, 1, true)], [], []] [[7, 8], [], [], [], []] [[[(p41, .resv)], [(p41, .cells [.int .i64 0, .int .i64 0, .str ([] : List UInt8), .sl .full 1 (([] : List (List UInt8)).map AV.str), .int .i64 0, .int .i64 0, .bool false, .int .i64 0, .int .i64 0, .int .i64 0, .sl .full 2 (([] : List api.Held).map api.Held.av), .str ([] : List UInt8), .int .i64 0, .bool false, .bool false])], [(p41, .cells (api.Conn.ct .no .no r40.1))]], [[(p38, .cells (api.Conn.ct .no .no r37.1))]], [[(t36, .spare)]], [[(p34, .cells (api.Conn.ct .no .no r33))]], [[(p30, .cells [.str ([] : List UInt8), .str ([] : List UInt8), .int .i64 0, .int .i64 0, .int .i64 0, .int .i64 100, .int .i64 100, .int .i64 0, .int .i64 0, .int .i64 0, .int .i64 0, .int .i64 9, .int .i64 9, .int .i64 9])]]] [.agg (api.Conn.ct .full .full r39), .agg [.str ([] : List UInt8), .str ([] : List UInt8), .int .i64 0, .int .i64 0, .int .i64 0, .int .i64 100, .int .i64 100, .int .i64 0, .int .i64 0, .int .i64 0, .int .i64 0, .int .i64 9, .int .i64 9, .int .i64 9], .tup [.agg (api.Conn.ct .no .no r40.1), .sl .no 2 (r40.2.1.map api.Request.av), .str r40.2.2], .tup [.agg (api.Conn.ct .no .no r40.1), .sl .no 2 (r40.2.1.map api.Request.av), .str r40.2.2], .agg (api.Conn.ct .no .no r40.1), .sl .no 2 (r40.2.1.map api.Request.av), .str r40.2.2, .ptr p41 0, .un, .sl .no 2 (r40.2.1.map api.Request.av), .str r40.2.2] (by decide +kernel) rfl rfl ?_ ?_
  · refine ⟨⟨[], rfl, stepg_plain rfl (op_call (vs := [.int .i64 7]) (H := []) rfl call26 ⟨(AEv.int _ _), trivial⟩ (R := []) (List.Perm.refl _) (conn.Open.ok r39e) (by rintro _ _ ⟨rfl, rfl⟩; exact ⟨rfl, rfl⟩))⟩, ?_⟩
    refine ⟨⟨[1], rfl, stepg_plain rfl (op_loadN (i := 0) rfl isAgg53 sizeOf53 (AEv.tmp rfl) rfl (Nat.le_of_ble_eq_true rfl) rfl ⟨rfl, rfl⟩)⟩, ?_⟩
    refine ⟨⟨[22, 23], rfl, stepg_plain rfl (aop_forget (.tup [.agg (api.Conn.ct .no .no r40.1), .sl .no 2 (r40.2.1.map api.Request.av), .str r40.2.2]) [] (op_call (vs := [.agg (api.Conn.ct .no .no r39), .str [71, 69, 84, 32, 97, 10, 120], .agg [.str ([] : List UInt8), .str ([] : List UInt8), .int .i64 0, .int .i64 0, .int .i64 0, .int .i64 100, .int .i64 100, .int .i64 0, .int .i64 0, .int .i64 0, .int .i64 0, .int .i64 9, .int .i64 9, .int .i64 9]]) (H := []) rfl call32 ⟨(AEv.le (AEv.tmp rfl) (AV.Le.agg ⟨(AV.Le.refl _), (AV.Le.refl _), (AV.Le.refl _), (AV.Le.forget _ _ _), (AV.Le.refl _), (AV.Le.refl _), (AV.Le.refl _), (AV.Le.refl _), (AV.Le.refl _), (AV.Le.refl _), (AV.Le.forget _ _ _), (AV.Le.refl _), (AV.Le.refl _), (AV.Le.refl _), (AV.Le.refl _), trivial⟩)), (AEv.const rfl), (AEv.tmp rfl), trivial⟩ (R := []) (List.Perm.refl _) (conn.Read.ok r40e) (by rintro _ _ ⟨_, rfl, rfl⟩; exact ⟨([] : List Nat), _, rfl, rfl, (AV.Le.tup ⟨(AV.Le.refl _), (AV.Le.forget _ _ _), (AV.Le.refl _), trivial⟩), List.nodup_nil, rfl⟩)) ⟨rfl, rfl⟩)⟩, ?_⟩
    refine ⟨⟨[24], rfl, stepg_pure rfl (pu_move rfl (AEv.tmp rfl))⟩, ?_⟩
    refine ⟨⟨[21], rfl, stepg_pure rfl (pu_extract rfl (AEv.tmp rfl) (Nat.le_of_ble_eq_true rfl) rfl)⟩, ?_⟩
    refine ⟨⟨[21], rfl, stepg_pure rfl (pu_extract rfl (AEv.tmp rfl) (Nat.le_of_ble_eq_true rfl) rfl)⟩, ?_⟩
    refine ⟨⟨[21], rfl, stepg_pure rfl (pu_extract rfl (AEv.tmp rfl) (Nat.le_of_ble_eq_true rfl) rfl)⟩, ?_⟩
    refine ⟨⟨[], rfl, stepg_plain rfl (aop_settleP (op_alloc (cs := [.int .i64 0, .int .i64 0, .str ([] : List UInt8), .sl .full 1 (([] : List (List UInt8)).map AV.str), .int .i64 0, .int .i64 0, .bool false, .int .i64 0, .int .i64 0, .int .i64 0, .sl .full 2 (([] : List api.Held).map api.Held.av), .str ([] : List UInt8), .int .i64 0, .bool false, .bool false]) (v := .agg [.int .i64 0, .int .i64 0, .str ([] : List UInt8), .sl .full 1 (([] : List (List UInt8)).map AV.str), .int .i64 0, .int .i64 0, .bool false, .int .i64 0, .int .i64 0, .int .i64 0, .sl .full 2 (([] : List api.Held).map api.Held.av), .str ([] : List UInt8), .int .i64 0, .bool false, .bool false]) rfl zeroValue56 rfl rfl rfl fun t => ⟨t, rfl, rfl⟩) ⟨rfl, rfl⟩)⟩, ?_⟩
    refine ⟨⟨[5, 25], rfl, stepg_plain rfl (op_store (i := 0) (cs' := (api.Conn.ct .no .no r40.1)) rfl sizeOf56 (AEv.tmp rfl) (v := .agg (api.Conn.ct .no .no r40.1)) (AEv.tmp rfl) rfl rfl rfl (Nat.le_of_ble_eq_true rfl) rfl ⟨rfl, rfl⟩)⟩, ?_⟩
    refine ⟨⟨[26], rfl, stepg_pure rfl (pu_assign rfl (AEv.tmp rfl))⟩, ?_⟩
    refine ⟨⟨[27], rfl, stepg_pure rfl (pu_assign rfl (AEv.tmp rfl))⟩, ?_⟩
    trivial
  obtain ⟨s49, s49e, h50⟩ := letO_of h
  refine aw_meet (ν := Unit) (fun v => [(0, .bool s49)]) (fun v => []) ?_ ?_
  · have h := s49e.symm
    refine aw_region ?_
    refine ap (.ptr p34 11) rfl rfl rfl (pu_fieldAddr rfl underlying56 rfl sizeOf9 (by decide) (AEv.tmp rfl) rfl) ?_
    refine ac rfl rfl rfl (op_load1 (i := 3) rfl isAgg9 (AEv.tmp rfl) rfl rfl ?_)
    refine ap (.bool (decide (r33.Out = ([] : List UInt8)))) rfl rfl rfl (pu_str (v := .bool (decide (r33.Out = ([] : List UInt8)))) rfl rfl (AEv.tmp rfl) (AEv.const rfl) rfl) ?_
    refine ap (.bool (decide (r33.Out = ([] : List UInt8)))) rfl rfl rfl (pu_move rfl (AEv.tmp rfl)) ?_
    rcases Bool.eq_false_or_eq_true (decide (r33.Out = ([] : List UInt8))) with hb52 | hb52
    · replace h := ite_t (dec_t hb52) h
      refine aops_known 31 rfl hb52 ?_
      refine agp (.str r37.2) rfl rfl rfl rfl rfl rfl rfl (pu_move rfl (AEv.tmp rfl)) ?_
      refine agp (.bool (decide (r37.2 = [97, 98]))) rfl rfl rfl rfl rfl rfl rfl (pu_str (v := .bool (decide (r37.2 = [97, 98]))) rfl rfl (AEv.tmp rfl) (AEv.const rfl) rfl) ?_
      refine ap (.bool (decide (r37.2 = [97, 98]))) rfl rfl rfl (pu_pick (b := true) rfl (AEv.tmp rfl) (fun _ => (AEv.tmp rfl)) (fun h => nomatch h)) ?_
      refine ap (.bool (decide (r37.2 = [97, 98]))) rfl rfl rfl (pu_move rfl (AEv.tmp rfl)) ?_
      rcases Bool.eq_false_or_eq_true (decide (r37.2 = [97, 98])) with hb53 | hb53
      · replace h := ite_t (dec_t hb53) h
        refine aops_known 35 rfl hb53 ?_
        refine agp (.ptr p38 12) rfl rfl rfl rfl rfl rfl rfl (pu_fieldAddr rfl underlying56 rfl sizeOf3 (by decide) (AEv.tmp rfl) rfl) ?_
        refine ag rfl rfl rfl rfl rfl rfl rfl (op_load1 (i := 1) rfl isAgg3 (AEv.tmp rfl) rfl rfl ?_)
        refine agp (.bool (decide (r37.1.Taken = 2))) rfl rfl rfl rfl rfl rfl rfl (pu_int (v := .bool (decide (r37.1.Taken = 2))) rfl rfl (AEv.tmp rfl) (AEv.int _ _) rfl) ?_
        refine ap (.bool (decide (r37.1.Taken = 2))) rfl rfl rfl (pu_pick (b := true) rfl (AEv.tmp rfl) (fun _ => (AEv.tmp rfl)) (fun h => nomatch h)) ?_
        refine ap (.bool (decide (r37.1.Taken = 2))) rfl rfl rfl (pu_move rfl (AEv.tmp rfl)) ?_
        rcases Bool.eq_false_or_eq_true (decide (r37.1.Taken = 2)) with hb54 | hb54
        · replace h := ite_t (dec_t hb54) h
          refine aops_known 40 rfl hb54 ?_
          refine agp (.sl .no 2 (r40.2.1.map api.Request.av)) rfl rfl rfl rfl rfl rfl rfl (pu_move rfl (AEv.tmp rfl)) ?_
          refine agp (.int .i64 (r40.2.1.length : Int)) rfl rfl rfl rfl rfl rfl rfl (pu_lenM rfl underlying30 (AEv.tmp rfl)) ?_
          refine agp (.bool (decide ((r40.2.1.length : Int) = 1))) rfl rfl rfl rfl rfl rfl rfl (pu_int (v := .bool (decide ((r40.2.1.length : Int) = 1))) rfl rfl (AEv.tmp rfl) (AEv.int _ _) rfl) ?_
          refine ap (.bool (decide ((r40.2.1.length : Int) = 1))) rfl rfl rfl (pu_pick (b := true) rfl (AEv.tmp rfl) (fun _ => (AEv.tmp rfl)) (fun h => nomatch h)) ?_
          refine ap (.bool (decide ((r40.2.1.length : Int) = 1))) rfl rfl rfl (pu_move rfl (AEv.tmp rfl)) ?_
          rcases Bool.eq_false_or_eq_true (decide ((r40.2.1.length : Int) = 1)) with hb55 | hb55
          · replace h := ite_t (dec_t hb55) h
            refine aops_known 45 rfl hb55 ?_
            refine agp (.str r40.2.2) rfl rfl rfl rfl rfl rfl rfl (pu_move rfl (AEv.tmp rfl)) ?_
            refine agp (.bool (decide (r40.2.2 = ([] : List UInt8)))) rfl rfl rfl rfl rfl rfl rfl (pu_str (v := .bool (decide (r40.2.2 = ([] : List UInt8)))) rfl rfl (AEv.tmp rfl) (AEv.const rfl) rfl) ?_
            refine ap (.bool (decide (r40.2.2 = ([] : List UInt8)))) rfl rfl rfl (pu_pick (b := true) rfl (AEv.tmp rfl) (fun _ => (AEv.tmp rfl)) (fun h => nomatch h)) ?_
            refine ap (.bool (decide (r40.2.2 = ([] : List UInt8)))) rfl rfl rfl (pu_move rfl (AEv.tmp rfl)) ?_
            rcases Bool.eq_false_or_eq_true (decide (r40.2.2 = ([] : List UInt8))) with hb56 | hb56
            · replace h := ite_t (dec_t hb56) h
              refine aops_known 49 rfl hb56 ?_
              refine agp (.ptr p41 9) rfl rfl rfl rfl rfl rfl rfl (pu_fieldAddr rfl underlying56 rfl sizeOf3 (by decide) (AEv.tmp rfl) rfl) ?_
              refine ag rfl rfl rfl rfl rfl rfl rfl (op_load1 (i := 0) rfl isAgg3 (AEv.tmp rfl) rfl rfl ?_)
              refine agp (.bool (decide (r40.1.Asked = 6))) rfl rfl rfl rfl rfl rfl rfl (pu_int (v := .bool (decide (r40.1.Asked = 6))) rfl rfl (AEv.tmp rfl) (AEv.int _ _) rfl) ?_
              refine ap (.bool (decide (r40.1.Asked = 6))) rfl rfl rfl (pu_pick (b := true) rfl (AEv.tmp rfl) (fun _ => (AEv.tmp rfl)) (fun h => nomatch h)) ?_
              refine ap (.bool (decide (r40.1.Asked = 6))) rfl rfl rfl (pu_move rfl (AEv.tmp rfl)) ?_
              rcases Bool.eq_false_or_eq_true (decide (r40.1.Asked = 6)) with hb57 | hb57
              · replace h := ite_t (dec_t hb57) h
                refine aops_known 54 rfl hb57 ?_
                refine agp (.ptr p41 2) rfl rfl rfl rfl rfl rfl rfl (pu_fieldAddr rfl underlying56 rfl sizeOf29 (by decide) (AEv.tmp rfl) rfl) ?_
                refine agp (.ptr p41 2) rfl rfl rfl rfl rfl rfl rfl (pu_fieldAddr rfl underlying29 rfl sizeOf9 (by decide) (AEv.tmp rfl) rfl) ?_
                refine ag rfl rfl rfl rfl rfl rfl rfl (op_load1 (i := 0) rfl isAgg9 (AEv.tmp rfl) rfl rfl ?_)
                refine agp (.bool (decide (r40.1.In.Rest = [120]))) rfl rfl rfl rfl rfl rfl rfl (pu_str (v := .bool (decide (r40.1.In.Rest = [120]))) rfl rfl (AEv.tmp rfl) (AEv.const rfl) rfl) ?_
                refine ap (.bool (decide (r40.1.In.Rest = [120]))) rfl rfl rfl (pu_pick (b := true) rfl (AEv.tmp rfl) (fun _ => (AEv.tmp rfl)) (fun h => nomatch h)) ?_
                refine ap (.bool (decide (r40.1.In.Rest = [120]))) rfl rfl rfl (pu_move rfl (AEv.tmp rfl)) ?_
                rcases Bool.eq_false_or_eq_true (decide (r40.1.In.Rest = [120])) with hb58 | hb58
                · replace h := ite_t (dec_t hb58) h
                  refine aops_known 60 rfl hb58 ?_
                  refine agp (.ptr p41 1) rfl rfl rfl rfl rfl rfl rfl (pu_fieldAddr rfl underlying56 rfl sizeOf3 (by decide) (AEv.tmp rfl) rfl) ?_
                  refine ag rfl rfl rfl rfl rfl rfl rfl (op_load1 (i := 0) rfl isAgg3 (AEv.tmp rfl) rfl rfl ?_)
                  refine agp (.bool (decide (r40.1.Tenant = (-1)))) rfl rfl rfl rfl rfl rfl rfl (pu_int (v := .bool (decide (r40.1.Tenant = (-1)))) rfl rfl (AEv.tmp rfl) (AEv.int _ _) rfl) ?_
                  refine ap (.bool (decide (r40.1.Tenant = (-1)))) rfl rfl rfl (pu_pick (b := true) rfl (AEv.tmp rfl) (fun _ => (AEv.tmp rfl)) (fun h => nomatch h)) ?_
                  refine ap (.bool (decide (r40.1.Tenant = (-1)))) rfl rfl rfl (pu_assign rfl (AEv.tmp rfl)) ?_
                  refine aops_nil ?_
                  subst h
                  exact ⟨(), Weak.mkL [] (by decide) trivial ⟨(AEv.le (AEv.tmp rfl) (AV.Le.refl _)), trivial⟩⟩
                · replace h := ite_f (dec_f hb58) h
                  refine aops_known 60 rfl hb58 ?_
                  refine an rfl rfl rfl rfl rfl rfl rfl rfl ?_
                  refine an rfl rfl rfl rfl rfl rfl rfl rfl ?_
                  refine an rfl rfl rfl rfl rfl rfl rfl rfl ?_
                  refine ap (.bool false) rfl rfl rfl (pu_pick (b := false) rfl (AEv.tmp rfl) (fun h => nomatch h) (fun _ => (AEv.bool _))) ?_
                  refine ap (.bool false) rfl rfl rfl (pu_assign rfl (AEv.tmp rfl)) ?_
                  refine aops_nil ?_
                  subst h
                  exact ⟨(), Weak.mkL [] (by decide) trivial ⟨AEv.tmp rfl, trivial⟩⟩
              · replace h := ite_f (dec_f hb57) h
                refine aops_known 54 rfl hb57 ?_
                refine an rfl rfl rfl rfl rfl rfl rfl rfl ?_
                refine an rfl rfl rfl rfl rfl rfl rfl rfl ?_
                refine an rfl rfl rfl rfl rfl rfl rfl rfl ?_
                refine an rfl rfl rfl rfl rfl rfl rfl rfl ?_
                refine ap (.bool false) rfl rfl rfl (pu_pick (b := false) rfl (AEv.tmp rfl) (fun h => nomatch h) (fun _ => (AEv.bool _))) ?_
                refine ap (.bool false) rfl rfl rfl (pu_move rfl (AEv.tmp rfl)) ?_
                refine an rfl rfl rfl rfl rfl rfl rfl rfl ?_
                refine an rfl rfl rfl rfl rfl rfl rfl rfl ?_
                refine an rfl rfl rfl rfl rfl rfl rfl rfl ?_
                refine ap (.bool false) rfl rfl rfl (pu_pick (b := false) rfl (AEv.tmp rfl) (fun h => nomatch h) (fun _ => (AEv.bool _))) ?_
                refine ap (.bool false) rfl rfl rfl (pu_assign rfl (AEv.tmp rfl)) ?_
                refine aops_nil ?_
                subst h
                exact ⟨(), Weak.mkL [] (by decide) trivial ⟨AEv.tmp rfl, trivial⟩⟩
            · replace h := ite_f (dec_f hb56) h
              refine aops_known 49 rfl hb56 ?_
              refine an rfl rfl rfl rfl rfl rfl rfl rfl ?_
              refine an rfl rfl rfl rfl rfl rfl rfl rfl ?_
              refine an rfl rfl rfl rfl rfl rfl rfl rfl ?_
              refine ap (.bool false) rfl rfl rfl (pu_pick (b := false) rfl (AEv.tmp rfl) (fun h => nomatch h) (fun _ => (AEv.bool _))) ?_
              refine ap (.bool false) rfl rfl rfl (pu_move rfl (AEv.tmp rfl)) ?_
              refine an rfl rfl rfl rfl rfl rfl rfl rfl ?_
              refine an rfl rfl rfl rfl rfl rfl rfl rfl ?_
              refine an rfl rfl rfl rfl rfl rfl rfl rfl ?_
              refine an rfl rfl rfl rfl rfl rfl rfl rfl ?_
              refine ap (.bool false) rfl rfl rfl (pu_pick (b := false) rfl (AEv.tmp rfl) (fun h => nomatch h) (fun _ => (AEv.bool _))) ?_
              refine ap (.bool false) rfl rfl rfl (pu_move rfl (AEv.tmp rfl)) ?_
              refine an rfl rfl rfl rfl rfl rfl rfl rfl ?_
              refine an rfl rfl rfl rfl rfl rfl rfl rfl ?_
              refine an rfl rfl rfl rfl rfl rfl rfl rfl ?_
              refine ap (.bool false) rfl rfl rfl (pu_pick (b := false) rfl (AEv.tmp rfl) (fun h => nomatch h) (fun _ => (AEv.bool _))) ?_
              refine ap (.bool false) rfl rfl rfl (pu_assign rfl (AEv.tmp rfl)) ?_
              refine aops_nil ?_
              subst h
              exact ⟨(), Weak.mkL [] (by decide) trivial ⟨AEv.tmp rfl, trivial⟩⟩
          · replace h := ite_f (dec_f hb55) h
            refine aops_known 45 rfl hb55 ?_
            refine an rfl rfl rfl rfl rfl rfl rfl rfl ?_
            refine an rfl rfl rfl rfl rfl rfl rfl rfl ?_
            refine ap (.bool false) rfl rfl rfl (pu_pick (b := false) rfl (AEv.tmp rfl) (fun h => nomatch h) (fun _ => (AEv.bool _))) ?_
            refine ap (.bool false) rfl rfl rfl (pu_move rfl (AEv.tmp rfl)) ?_
            refine an rfl rfl rfl rfl rfl rfl rfl rfl ?_
            refine an rfl rfl rfl rfl rfl rfl rfl rfl ?_
            refine an rfl rfl rfl rfl rfl rfl rfl rfl ?_
            refine ap (.bool false) rfl rfl rfl (pu_pick (b := false) rfl (AEv.tmp rfl) (fun h => nomatch h) (fun _ => (AEv.bool _))) ?_
            refine ap (.bool false) rfl rfl rfl (pu_move rfl (AEv.tmp rfl)) ?_
            refine an rfl rfl rfl rfl rfl rfl rfl rfl ?_
            refine an rfl rfl rfl rfl rfl rfl rfl rfl ?_
            refine an rfl rfl rfl rfl rfl rfl rfl rfl ?_
            refine an rfl rfl rfl rfl rfl rfl rfl rfl ?_
            refine ap (.bool false) rfl rfl rfl (pu_pick (b := false) rfl (AEv.tmp rfl) (fun h => nomatch h) (fun _ => (AEv.bool _))) ?_
            refine ap (.bool false) rfl rfl rfl (pu_move rfl (AEv.tmp rfl)) ?_
            refine an rfl rfl rfl rfl rfl rfl rfl rfl ?_
            refine an rfl rfl rfl rfl rfl rfl rfl rfl ?_
            refine an rfl rfl rfl rfl rfl rfl rfl rfl ?_
            refine ap (.bool false) rfl rfl rfl (pu_pick (b := false) rfl (AEv.tmp rfl) (fun h => nomatch h) (fun _ => (AEv.bool _))) ?_
            refine ap (.bool false) rfl rfl rfl (pu_assign rfl (AEv.tmp rfl)) ?_
            refine aops_nil ?_
            subst h
            exact ⟨(), Weak.mkL [] (by decide) trivial ⟨AEv.tmp rfl, trivial⟩⟩
        · replace h := ite_f (dec_f hb54) h
          refine aops_known 40 rfl hb54 ?_
          refine an rfl rfl rfl rfl rfl rfl rfl rfl ?_
          refine an rfl rfl rfl rfl rfl rfl rfl rfl ?_
          refine an rfl rfl rfl rfl rfl rfl rfl rfl ?_
          refine ap (.bool false) rfl rfl rfl (pu_pick (b := false) rfl (AEv.tmp rfl) (fun h => nomatch h) (fun _ => (AEv.bool _))) ?_
          refine ap (.bool false) rfl rfl rfl (pu_move rfl (AEv.tmp rfl)) ?_
          refine an rfl rfl rfl rfl rfl rfl rfl rfl ?_
          refine an rfl rfl rfl rfl rfl rfl rfl rfl ?_
          refine ap (.bool false) rfl rfl rfl (pu_pick (b := false) rfl (AEv.tmp rfl) (fun h => nomatch h) (fun _ => (AEv.bool _))) ?_
          refine ap (.bool false) rfl rfl rfl (pu_move rfl (AEv.tmp rfl)) ?_
          refine an rfl rfl rfl rfl rfl rfl rfl rfl ?_
          refine an rfl rfl rfl rfl rfl rfl rfl rfl ?_
          refine an rfl rfl rfl rfl rfl rfl rfl rfl ?_
          refine ap (.bool false) rfl rfl rfl (pu_pick (b := false) rfl (AEv.tmp rfl) (fun h => nomatch h) (fun _ => (AEv.bool _))) ?_
          refine ap (.bool false) rfl rfl rfl (pu_move rfl (AEv.tmp rfl)) ?_
          refine an rfl rfl rfl rfl rfl rfl rfl rfl ?_
          refine an rfl rfl rfl rfl rfl rfl rfl rfl ?_
          refine an rfl rfl rfl rfl rfl rfl rfl rfl ?_
          refine an rfl rfl rfl rfl rfl rfl rfl rfl ?_
          refine ap (.bool false) rfl rfl rfl (pu_pick (b := false) rfl (AEv.tmp rfl) (fun h => nomatch h) (fun _ => (AEv.bool _))) ?_
          refine ap (.bool false) rfl rfl rfl (pu_move rfl (AEv.tmp rfl)) ?_
          refine an rfl rfl rfl rfl rfl rfl rfl rfl ?_
          refine an rfl rfl rfl rfl rfl rfl rfl rfl ?_
          refine an rfl rfl rfl rfl rfl rfl rfl rfl ?_
          refine ap (.bool false) rfl rfl rfl (pu_pick (b := false) rfl (AEv.tmp rfl) (fun h => nomatch h) (fun _ => (AEv.bool _))) ?_
          refine ap (.bool false) rfl rfl rfl (pu_assign rfl (AEv.tmp rfl)) ?_
          refine aops_nil ?_
          subst h
          exact ⟨(), Weak.mkL [] (by decide) trivial ⟨AEv.tmp rfl, trivial⟩⟩
      · replace h := ite_f (dec_f hb53) h
        refine aops_known 35 rfl hb53 ?_
        refine an rfl rfl rfl rfl rfl rfl rfl rfl ?_
        refine an rfl rfl rfl rfl rfl rfl rfl rfl ?_
        refine an rfl rfl rfl rfl rfl rfl rfl rfl ?_
        refine ap (.bool false) rfl rfl rfl (pu_pick (b := false) rfl (AEv.tmp rfl) (fun h => nomatch h) (fun _ => (AEv.bool _))) ?_
        refine ap (.bool false) rfl rfl rfl (pu_move rfl (AEv.tmp rfl)) ?_
        refine an rfl rfl rfl rfl rfl rfl rfl rfl ?_
        refine an rfl rfl rfl rfl rfl rfl rfl rfl ?_
        refine an rfl rfl rfl rfl rfl rfl rfl rfl ?_
        refine ap (.bool false) rfl rfl rfl (pu_pick (b := false) rfl (AEv.tmp rfl) (fun h => nomatch h) (fun _ => (AEv.bool _))) ?_
        refine ap (.bool false) rfl rfl rfl (pu_move rfl (AEv.tmp rfl)) ?_
        refine an rfl rfl rfl rfl rfl rfl rfl rfl ?_
        refine an rfl rfl rfl rfl rfl rfl rfl rfl ?_
        refine ap (.bool false) rfl rfl rfl (pu_pick (b := false) rfl (AEv.tmp rfl) (fun h => nomatch h) (fun _ => (AEv.bool _))) ?_
        refine ap (.bool false) rfl rfl rfl (pu_move rfl (AEv.tmp rfl)) ?_
        refine an rfl rfl rfl rfl rfl rfl rfl rfl ?_
        refine an rfl rfl rfl rfl rfl rfl rfl rfl ?_
        refine an rfl rfl rfl rfl rfl rfl rfl rfl ?_
        refine ap (.bool false) rfl rfl rfl (pu_pick (b := false) rfl (AEv.tmp rfl) (fun h => nomatch h) (fun _ => (AEv.bool _))) ?_
        refine ap (.bool false) rfl rfl rfl (pu_move rfl (AEv.tmp rfl)) ?_
        refine an rfl rfl rfl rfl rfl rfl rfl rfl ?_
        refine an rfl rfl rfl rfl rfl rfl rfl rfl ?_
        refine an rfl rfl rfl rfl rfl rfl rfl rfl ?_
        refine an rfl rfl rfl rfl rfl rfl rfl rfl ?_
        refine ap (.bool false) rfl rfl rfl (pu_pick (b := false) rfl (AEv.tmp rfl) (fun h => nomatch h) (fun _ => (AEv.bool _))) ?_
        refine ap (.bool false) rfl rfl rfl (pu_move rfl (AEv.tmp rfl)) ?_
        refine an rfl rfl rfl rfl rfl rfl rfl rfl ?_
        refine an rfl rfl rfl rfl rfl rfl rfl rfl ?_
        refine an rfl rfl rfl rfl rfl rfl rfl rfl ?_
        refine ap (.bool false) rfl rfl rfl (pu_pick (b := false) rfl (AEv.tmp rfl) (fun h => nomatch h) (fun _ => (AEv.bool _))) ?_
        refine ap (.bool false) rfl rfl rfl (pu_assign rfl (AEv.tmp rfl)) ?_
        refine aops_nil ?_
        subst h
        exact ⟨(), Weak.mkL [] (by decide) trivial ⟨AEv.tmp rfl, trivial⟩⟩
    · replace h := ite_f (dec_f hb52) h
      refine aops_known 31 rfl hb52 ?_
      refine an rfl rfl rfl rfl rfl rfl rfl rfl ?_
      refine an rfl rfl rfl rfl rfl rfl rfl rfl ?_
      refine ap (.bool false) rfl rfl rfl (pu_pick (b := false) rfl (AEv.tmp rfl) (fun h => nomatch h) (fun _ => (AEv.bool _))) ?_
      refine ap (.bool false) rfl rfl rfl (pu_move rfl (AEv.tmp rfl)) ?_
      refine an rfl rfl rfl rfl rfl rfl rfl rfl ?_
      refine an rfl rfl rfl rfl rfl rfl rfl rfl ?_
      refine an rfl rfl rfl rfl rfl rfl rfl rfl ?_
      refine ap (.bool false) rfl rfl rfl (pu_pick (b := false) rfl (AEv.tmp rfl) (fun h => nomatch h) (fun _ => (AEv.bool _))) ?_
      refine ap (.bool false) rfl rfl rfl (pu_move rfl (AEv.tmp rfl)) ?_
      refine an rfl rfl rfl rfl rfl rfl rfl rfl ?_
      refine an rfl rfl rfl rfl rfl rfl rfl rfl ?_
      refine an rfl rfl rfl rfl rfl rfl rfl rfl ?_
      refine ap (.bool false) rfl rfl rfl (pu_pick (b := false) rfl (AEv.tmp rfl) (fun h => nomatch h) (fun _ => (AEv.bool _))) ?_
      refine ap (.bool false) rfl rfl rfl (pu_move rfl (AEv.tmp rfl)) ?_
      refine an rfl rfl rfl rfl rfl rfl rfl rfl ?_
      refine an rfl rfl rfl rfl rfl rfl rfl rfl ?_
      refine ap (.bool false) rfl rfl rfl (pu_pick (b := false) rfl (AEv.tmp rfl) (fun h => nomatch h) (fun _ => (AEv.bool _))) ?_
      refine ap (.bool false) rfl rfl rfl (pu_move rfl (AEv.tmp rfl)) ?_
      refine an rfl rfl rfl rfl rfl rfl rfl rfl ?_
      refine an rfl rfl rfl rfl rfl rfl rfl rfl ?_
      refine an rfl rfl rfl rfl rfl rfl rfl rfl ?_
      refine ap (.bool false) rfl rfl rfl (pu_pick (b := false) rfl (AEv.tmp rfl) (fun h => nomatch h) (fun _ => (AEv.bool _))) ?_
      refine ap (.bool false) rfl rfl rfl (pu_move rfl (AEv.tmp rfl)) ?_
      refine an rfl rfl rfl rfl rfl rfl rfl rfl ?_
      refine an rfl rfl rfl rfl rfl rfl rfl rfl ?_
      refine an rfl rfl rfl rfl rfl rfl rfl rfl ?_
      refine an rfl rfl rfl rfl rfl rfl rfl rfl ?_
      refine ap (.bool false) rfl rfl rfl (pu_pick (b := false) rfl (AEv.tmp rfl) (fun h => nomatch h) (fun _ => (AEv.bool _))) ?_
      refine ap (.bool false) rfl rfl rfl (pu_move rfl (AEv.tmp rfl)) ?_
      refine an rfl rfl rfl rfl rfl rfl rfl rfl ?_
      refine an rfl rfl rfl rfl rfl rfl rfl rfl ?_
      refine an rfl rfl rfl rfl rfl rfl rfl rfl ?_
      refine ap (.bool false) rfl rfl rfl (pu_pick (b := false) rfl (AEv.tmp rfl) (fun h => nomatch h) (fun _ => (AEv.bool _))) ?_
      refine ap (.bool false) rfl rfl rfl (pu_assign rfl (AEv.tmp rfl)) ?_
      refine aops_nil ?_
      subst h
      exact ⟨(), Weak.mkL [] (by decide) trivial ⟨AEv.tmp rfl, trivial⟩⟩
  · intro _
    have h := h50
    refine aw_ret ?_
    obtain rfl := some_of h
    exact ⟨[.bool s49], _, [], ⟨(AEv.tmp rfl), trivial⟩, (AV.Le.refl _), Weak.mkL [] (by decide) trivial trivial, ⟨rfl, rfl⟩⟩

theorem mewslaw43.ConnOrder.ok {out : Int} {l : List mewslaw43.Op} {r : Bool} (h : mewslaw43.ConnOrder out l = some r) : Go.Lift.Spec prog 7 [.int .u16 out, .sl .no 4 (l.map mewslaw43.Op.av)] [] (fun v H => v = .bool r ∧ H = []) := by
  unfold mewslaw43.ConnOrder at h
  refine Go.Lift.Spec.of_body (rs := [.tmp 4]) func7 rfl rfl (Nat.le_of_ble_eq_true rfl) rfl ?_
  refine aw_seq ?_
  refine aw_region ?_
  refine ap (.bool false) rfl rfl rfl (pu_assign rfl (AEv.bool _)) ?_
  refine aops_nil ?_
  refine aw_seq ?_
  refine aw_seq ?_
  refine aw_region ?_
  refine ap (.sl .no 4 (l.map mewslaw43.Op.av)) rfl rfl rfl (pu_move rfl (AEv.tmp rfl)) ?_
  obtain ⟨r646, r646e, h⟩ := bind_some h
  refine ac rfl rfl rfl (op_call (vs := [.sl .no 4 (l.map mewslaw43.Op.av)]) (H := []) rfl call24 ⟨(AEv.tmp rfl), trivial⟩ (List.Perm.refl _) (mewslaw43.far.ok r646e) ?_)
  rintro _ _ ⟨rfl, rfl⟩
  refine aops_nil ?_
  refine aw_cond (b := r646) (AEv.tmp rfl) (fun hb1290 => ?_) (fun hb1290 => ?_)
  · replace h := ite_t hb1290 h
    refine aw_seq ?_
    refine aw_region ?_
    obtain ⟨r647, r647e, h⟩ := bind_some h
    refine ac rfl rfl rfl (op_call (vs := []) (H := []) rfl call25 trivial (List.Perm.refl _) (mewslaw43.alive.ok r647e) ?_)
    rintro _ _ ⟨rfl, rfl⟩
    refine ap (.bool r647) rfl rfl rfl (pu_assign rfl (AEv.tmp rfl)) ?_
    refine aops_nil ?_
    refine aw_ret ?_
    obtain rfl := some_of h
    exact ⟨[.bool r647], _, [], ⟨(AEv.tmp rfl), trivial⟩, (AV.Le.refl _), Weak.mkL [] (by decide) trivial trivial, ⟨rfl, rfl⟩⟩
  · replace h := ite_fb hb1290 h
    refine aw_skip ?_
    refine aw_seq ?_
    refine aw_region ?_
    refine ap (.int .u16 out) rfl rfl rfl (pu_move rfl (AEv.tmp rfl)) ?_
    refine ap (.int .u16 (out.tmod 200)) rfl rfl rfl (pu_rem rfl (AEv.tmp rfl) (AEv.int _ _) (by decide)) ?_
    refine ap (.int .i64 (IntKind.wrap .i64 (out.tmod 200))) rfl rfl rfl (pu_conv rfl underlying49 underlying3 (AEv.tmp rfl)) ?_
    refine ap (.agg [.str ([] : List UInt8), .str ([] : List UInt8), .int .i64 0, .int .i64 0, .int .i64 0, .int .i64 0, .int .i64 (IntKind.wrap .i64 (out.tmod 200)), .int .i64 0, .int .i64 0, .int .i64 0, .int .i64 0, .int .i64 0, .int .i64 0, .int .i64 0]) rfl rfl rfl (pu_build (zs := [.str ([] : List UInt8), .str ([] : List UInt8), .int .i64 0, .int .i64 0, .int .i64 0, .int .i64 0, .int .i64 0, .int .i64 0, .int .i64 0, .int .i64 0, .int .i64 0, .int .i64 0, .int .i64 0, .int .i64 0]) (szs := [1, 1, 1, 1, 1, 1, 1, 1, 1, 1, 1, 3]) (aparts := [(6, .int .i64 (IntKind.wrap .i64 (out.tmod 200)))]) (cs := [.str ([] : List UInt8), .str ([] : List UInt8), .int .i64 0, .int .i64 0, .int .i64 0, .int .i64 0, .int .i64 (IntKind.wrap .i64 (out.tmod 200)), .int .i64 0, .int .i64 0, .int .i64 0, .int .i64 0, .int .i64 0, .int .i64 0, .int .i64 0]) rfl underlying53 zeroValue53 rfl ⟨sizeOf9, sizeOf9, sizeOf3, sizeOf3, sizeOf3, sizeOf3, sizeOf3, sizeOf3, sizeOf3, sizeOf3, sizeOf3, sizeOf23, trivial⟩ ⟨rfl, (AEv.tmp rfl), trivial⟩ rfl) ?_
    refine ac rfl rfl rfl (op_alloc (cs := [.str ([] : List UInt8), .str ([] : List UInt8), .int .i64 0, .int .i64 0, .int .i64 0, .int .i64 0, .int .i64 0, .int .i64 0, .int .i64 0, .int .i64 0, .int .i64 0, .int .i64 0, .int .i64 0, .int .i64 0]) (v := .agg [.str ([] : List UInt8), .str ([] : List UInt8), .int .i64 0, .int .i64 0, .int .i64 0, .int .i64 0, .int .i64 0, .int .i64 0, .int .i64 0, .int .i64 0, .int .i64 0, .int .i64 0, .int .i64 0, .int .i64 0]) rfl zeroValue53 rfl rfl rfl ?_)
    intro p648
    refine ac0 rfl rfl (op_store (i := 0) (cs' := [.str ([] : List UInt8), .str ([] : List UInt8), .int .i64 0, .int .i64 0, .int .i64 0, .int .i64 0, .int .i64 (IntKind.wrap .i64 (out.tmod 200)), .int .i64 0, .int .i64 0, .int .i64 0, .int .i64 0, .int .i64 0, .int .i64 0, .int .i64 0]) rfl sizeOf53 (AEv.tmp rfl) (v := .agg [.str ([] : List UInt8), .str ([] : List UInt8), .int .i64 0, .int .i64 0, .int .i64 0, .int .i64 0, .int .i64 (IntKind.wrap .i64 (out.tmod 200)), .int .i64 0, .int .i64 0, .int .i64 0, .int .i64 0, .int .i64 0, .int .i64 0, .int .i64 0]) (AEv.tmp rfl) rfl rfl rfl (Nat.le_of_ble_eq_true rfl) rfl ?_)
    refine aops_nil ?_
    refine aw_seq ?_
    refine aw_region ?_
    obtain ⟨r649, r649e, h⟩ := bind_some h
    refine ac rfl rfl rfl (op_call (vs := [.int .i64 0]) (H := []) rfl call26 ⟨(AEv.int _ _), trivial⟩ (List.Perm.refl _) (conn.Open.ok r649e) ?_)
    rintro _ _ ⟨rfl, rfl⟩
    refine ac rfl rfl rfl (op_alloc (cs := [.int .i64 0, .int .i64 0, .str ([] : List UInt8), .sl .full 1 (([] : List (List UInt8)).map AV.str), .int .i64 0, .int .i64 0, .bool false, .int .i64 0, .int .i64 0, .int .i64 0, .sl .full 2 (([] : List api.Held).map api.Held.av), .str ([] : List UInt8), .int .i64 0, .bool false, .bool false]) (v := .agg [.int .i64 0, .int .i64 0, .str ([] : List UInt8), .sl .full 1 (([] : List (List UInt8)).map AV.str), .int .i64 0, .int .i64 0, .bool false, .int .i64 0, .int .i64 0, .int .i64 0, .sl .full 2 (([] : List api.Held).map api.Held.av), .str ([] : List UInt8), .int .i64 0, .bool false, .bool false]) rfl zeroValue56 rfl rfl rfl ?_)
    intro p650
    refine ac0 rfl rfl (op_store (i := 0) (cs' := (api.Conn.ct .full .full r649)) rfl sizeOf56 (AEv.tmp rfl) (v := .agg (api.Conn.ct .full .full r649)) (AEv.tmp rfl) rfl rfl rfl (Nat.le_of_ble_eq_true rfl) rfl ?_)
    refine aops_nil ?_
    refine aw_seq ?_
    refine aw_region ?_
    refine ap (.str ([] : List UInt8)) rfl rfl rfl (pu_assign rfl (AEv.const rfl)) ?_
    refine ap (.str ([] : List UInt8)) rfl rfl rfl (pu_assign rfl (AEv.const rfl)) ?_
    refine aops_nil ?_
    refine aw_seq ?_
    refine aw_region ?_
    refine ap (.int .i64 0) rfl rfl rfl (pu_assign rfl (AEv.int _ _)) ?_
    refine aops_nil ?_
    refine aw_seq ?_
    refine aw_region ?_
    refine ap (.sl .full 2 (([] : List api.Held).map api.Held.av)) rfl rfl rfl (pu_assign rfl (AEv.nil 2 (by decide))) ?_
    refine aops_nil ?_
    obtain ⟨s1289, s1289e, h969⟩ := bind_some h
    refine aw_join (σ := Unit) (ν := Unit) (fun u v => []) (fun u v => []) (fun u => s1289 = .inl u) ?_ ?_
    · intro s968
      intro _
      rintro rfl
      have h := onSum_inl h969
      refine aw_seq ?_
      refine aw_region ?_
      obtain ⟨r1288, r1288e, h⟩ := bind_some h
      refine ac rfl rfl rfl (op_call (vs := []) (H := []) rfl call25 trivial (List.Perm.refl _) (mewslaw43.alive.ok r1288e) ?_)
      rintro _ _ ⟨rfl, rfl⟩
      refine ap (.bool r1288) rfl rfl rfl (pu_assign rfl (AEv.tmp rfl)) ?_
      refine aops_nil ?_
      refine aw_ret ?_
      obtain rfl := some_of h
      exact ⟨[.bool r1288], _, [], ⟨(AEv.tmp rfl), trivial⟩, (AV.Le.refl _), Weak.mkL [] (by decide) trivial trivial, ⟨rfl, rfl⟩⟩
    · have h := s1289e
      refine aw_seq ?_
      refine aw_region ?_
      refine ap (.sl .no 4 (l.map mewslaw43.Op.av)) rfl rfl rfl (pu_move rfl (AEv.tmp rfl)) ?_
      refine ap (.int .i64 (l.length : Int)) rfl rfl rfl (pu_lenM rfl underlying50 (AEv.tmp rfl)) ?_
      refine ap (.int .i64 0) rfl rfl rfl (pu_move rfl (AEv.int _ _)) ?_
      refine aops_nil ?_
      refine aw_block ?_
      refine aw_claim 10 (AEv.tmp rfl) fun t1287 => ?_
      refine aw_while (σ := mewslaw43.ConnOrder.S0) (ν := Nat) (mewslaw43.ConnOrder.body0 l out) (fun s1181 v => [(5, .ptr p648 0), (6, .ptr p650 0), (7, .str s1181.said), (8, .str s1181.came), (9, .int .i64 s1181.durable), (10, .sl (.own v) 2 (s1181.helds.map api.Held.av)), (26, .sl .no 4 (l.map mewslaw43.Op.av)), (27, .int .i64 (l.length : Int)), (28, .int .i64 s1181.t28)]) (fun s1181 v => [(p648, .cells [.str ([] : List UInt8), .str ([] : List UInt8), .int .i64 0, .int .i64 0, .int .i64 0, .int .i64 0, .int .i64 (IntKind.wrap .i64 (out.tmod 200)), .int .i64 0, .int .i64 0, .int .i64 0, .int .i64 0, .int .i64 0, .int .i64 0, .int .i64 0]), (p650, .cells [.int .i64 s1181.c, .int .i64 s1181.c2, .str s1181.c3, .sl .no 1 (s1181.c4.map AV.str), .int .i64 s1181.c5, .int .i64 s1181.c6, .bool s1181.c7, .int .i64 s1181.c8, .int .i64 s1181.c9, .int .i64 s1181.c10, .sl .no 2 (s1181.c11.map api.Held.av), .str s1181.c12, .int .i64 s1181.c13, .bool s1181.c14, .bool s1181.c15]), (v, .spare)]) ⟨([] : List UInt8), ([] : List UInt8), 0, ([] : List api.Held), 0, r649.Born, r649.Tenant, r649.In.Rest, r649.In.Args, r649.In.Left, r649.In.Size, r649.In.Body, r649.In.Need, r649.In.Dead, r649.Asked, r649.Held, r649.Out, r649.Taken, r649.Shut, r649.Closed⟩ t1287 _ h (Weak.mkL [2, 1, 0] (by decide) ⟨⟨_, rfl, (CellsLe.refl _), rfl⟩, ⟨_, rfl, ⟨(AV.Le.refl _), (AV.Le.refl _), (AV.Le.refl _), (AV.Le.forget _ _ _), (AV.Le.refl _), (AV.Le.refl _), (AV.Le.refl _), (AV.Le.refl _), (AV.Le.refl _), (AV.Le.refl _), (AV.Le.forget _ _ _), (AV.Le.refl _), (AV.Le.refl _), (AV.Le.refl _), (AV.Le.refl _), trivial⟩, rfl⟩, ⟨_, rfl, rfl⟩, trivial⟩ ⟨AEv.tmp rfl, AEv.tmp rfl, AEv.tmp rfl, AEv.tmp rfl, AEv.tmp rfl, AEv.tmp rfl, AEv.tmp rfl, AEv.tmp rfl, AEv.tmp rfl, trivial⟩) ?_
      rintro s1181 n1182 x1184 h hx1183
      unfold mewslaw43.ConnOrder.body0 at h
      refine aw_seq ?_
      refine aw_region ?_
      refine ap (.bool (decide (s1181.t28 < (l.length : Int)))) rfl rfl rfl (pu_int (v := .bool (decide (s1181.t28 < (l.length : Int)))) rfl rfl (AEv.tmp rfl) (AEv.tmp rfl) rfl) ?_
      refine aops_nil ?_
      refine aw_seq ?_
      refine aw_cond (b := decide (s1181.t28 < (l.length : Int))) (AEv.tmp rfl) (fun hb1286 => ?_) (fun hb1286 => ?_)
      · replace h := ite_t (dec_t hb1286) h
        refine aw_skip ?_
        refine aw_seq ?_
        refine aw_block ?_
        refine aw_seq ?_
        refine aw_region ?_
        obtain ⟨c1186, h⟩ := need_of h
        refine ap (.vptr [.int .i64 (ix l s1181.t28).Kind, .str (ix l s1181.t28).S, .int .i64 (ix l s1181.t28).N, .int .i64 (ix l s1181.t28).M]) rfl rfl rfl (pu_indexAddrM rfl underlying50 sizeOf59 (AEv.tmp rfl) (AEv.tmp rfl) c1186 rfl) ?_
        refine ac rfl rfl rfl (op_loadVN rfl isAgg59 sizeOf59 (AEv.tmp rfl) (Nat.le_of_ble_eq_true rfl) rfl ?_)
        refine ac rfl rfl rfl (op_alloc (cs := [.int .i64 0, .str ([] : List UInt8), .int .i64 0, .int .i64 0]) (v := .agg [.int .i64 0, .str ([] : List UInt8), .int .i64 0, .int .i64 0]) rfl zeroValue59 rfl rfl rfl ?_)
        intro p1187
        refine ac0 rfl rfl (op_store (i := 0) (cs' := (mewslaw43.Op.ct (ix l s1181.t28))) rfl sizeOf59 (AEv.tmp rfl) (v := .agg (mewslaw43.Op.ct (ix l s1181.t28))) (AEv.tmp rfl) rfl rfl rfl (Nat.le_of_ble_eq_true rfl) rfl ?_)
        refine aops_nil ?_
        obtain ⟨s1209, s1209e, h1211⟩ := bind_some h
        refine aw_meet (ν := Nat) (fun v => [(5, .ptr p648 0), (6, .ptr p650 0), (7, .str s1209.1), (8, .str s1209.2.1), (9, .int .i64 s1209.2.2.1), (10, .sl (.own v) 2 (s1209.2.2.2.1.map api.Held.av)), (26, .sl .no 4 (l.map mewslaw43.Op.av)), (27, .int .i64 (l.length : Int)), (28, .int .i64 s1181.t28)]) (fun v => [(p648, .cells [.str ([] : List UInt8), .str ([] : List UInt8), .int .i64 0, .int .i64 0, .int .i64 0, .int .i64 0, .int .i64 (IntKind.wrap .i64 (out.tmod 200)), .int .i64 0, .int .i64 0, .int .i64 0, .int .i64 0, .int .i64 0, .int .i64 0, .int .i64 0]), (p650, .cells [.int .i64 s1209.2.2.2.2.1, .int .i64 s1209.2.2.2.2.2.1, .str s1209.2.2.2.2.2.2.1, .sl .no 1 (s1209.2.2.2.2.2.2.2.1.map AV.str), .int .i64 s1209.2.2.2.2.2.2.2.2.1, .int .i64 s1209.2.2.2.2.2.2.2.2.2.1, .bool s1209.2.2.2.2.2.2.2.2.2.2.1, .int .i64 s1209.2.2.2.2.2.2.2.2.2.2.2.1, .int .i64 s1209.2.2.2.2.2.2.2.2.2.2.2.2.1, .int .i64 s1209.2.2.2.2.2.2.2.2.2.2.2.2.2.1, .sl .no 2 (s1209.2.2.2.2.2.2.2.2.2.2.2.2.2.2.1.map api.Held.av), .str s1209.2.2.2.2.2.2.2.2.2.2.2.2.2.2.2.1, .int .i64 s1209.2.2.2.2.2.2.2.2.2.2.2.2.2.2.2.2.1, .bool s1209.2.2.2.2.2.2.2.2.2.2.2.2.2.2.2.2.2.1, .bool s1209.2.2.2.2.2.2.2.2.2.2.2.2.2.2.2.2.2.2]), (v, .spare)]) ?_ ?_
        · have h := s1209e
          refine aw_seq ?_
          refine aw_region ?_
          refine ap (.ptr p1187 0) rfl rfl rfl (pu_fieldAddr rfl underlying59 rfl sizeOf3 (by decide) (AEv.tmp rfl) rfl) ?_
          refine ac rfl rfl rfl (op_load1 (i := 0) rfl isAgg3 (AEv.tmp rfl) rfl rfl ?_)
          refine aops_nil ?_
          refine aw_block ?_
          refine aw_seq ?_
          refine aw_region ?_
          refine ap (.bool (decide ((ix l s1181.t28).Kind = 2))) rfl rfl rfl (pu_int (v := .bool (decide ((ix l s1181.t28).Kind = 2))) rfl rfl (AEv.tmp rfl) (AEv.int _ _) rfl) ?_
          refine ap (.bool (decide ((ix l s1181.t28).Kind = 2))) rfl rfl rfl (pu_assign rfl (AEv.tmp rfl)) ?_
          refine aops_nil ?_
          refine aw_cond (b := decide ((ix l s1181.t28).Kind = 2)) (AEv.tmp rfl) (fun hb1233 => ?_) (fun hb1233 => ?_)
          · replace h := ite_t (dec_t hb1233) h
            obtain ⟨s1217, s1217e, h1219⟩ := bind_some h
            refine aw_meet (ν := Nat) (fun v => [(5, .ptr p648 0), (6, .ptr p650 0), (7, .str s1217.1), (8, .str s1181.came), (9, .int .i64 s1181.durable), (10, .sl (.own v) 2 (s1217.2.map api.Held.av)), (12, .ptr p1187 0), (26, .sl .no 4 (l.map mewslaw43.Op.av)), (27, .int .i64 (l.length : Int)), (28, .int .i64 s1181.t28)]) (fun v => [(p648, .cells [.str ([] : List UInt8), .str ([] : List UInt8), .int .i64 0, .int .i64 0, .int .i64 0, .int .i64 0, .int .i64 (IntKind.wrap .i64 (out.tmod 200)), .int .i64 0, .int .i64 0, .int .i64 0, .int .i64 0, .int .i64 0, .int .i64 0, .int .i64 0]), (p650, .cells [.int .i64 s1181.c, .int .i64 s1181.c2, .str s1181.c3, .sl .no 1 (s1181.c4.map AV.str), .int .i64 s1181.c5, .int .i64 s1181.c6, .bool s1181.c7, .int .i64 s1181.c8, .int .i64 s1181.c9, .int .i64 s1181.c10, .sl .no 2 (s1181.c11.map api.Held.av), .str s1181.c12, .int .i64 s1181.c13, .bool s1181.c14, .bool s1181.c15]), (v, .spare), (p1187, .cells (mewslaw43.Op.ct (ix l s1181.t28)))]) ?_ ?_
            · have h := s1217e
              refine aw_seq ?_
              refine aw_region ?_
              refine ap (.ptr p650 14) rfl rfl rfl (pu_fieldAddr rfl underlying56 rfl sizeOf4 (by decide) (AEv.tmp rfl) rfl) ?_
              refine ac rfl rfl rfl (op_load1 (i := 2) rfl isAgg4 (AEv.tmp rfl) rfl rfl ?_)
              refine ap (.bool (!s1181.c15)) rfl rfl rfl (pu_not rfl (AEv.tmp rfl)) ?_
              refine aops_nil ?_
              refine aw_cond (b := (!s1181.c15)) (AEv.tmp rfl) (fun hb1224 => ?_) (fun hb1224 => ?_)
              · replace h := ite_t hb1224 h
                refine aw_seq ?_
                refine aw_region ?_
                refine ap (.str s1181.said) rfl rfl rfl (pu_move rfl (AEv.tmp rfl)) ?_
                refine ap (.ptr p1187 1) rfl rfl rfl (pu_fieldAddr rfl underlying59 rfl sizeOf9 (by decide) (AEv.tmp rfl) rfl) ?_
                refine ac rfl rfl rfl (op_load1 (i := 0) rfl isAgg9 (AEv.tmp rfl) rfl rfl ?_)
                obtain ⟨c1221, h⟩ := need_of h
                refine ap (.str (s1181.said ++ (ix l s1181.t28).S)) rfl rfl rfl (pu_strAdd rfl (AEv.tmp rfl) (AEv.tmp rfl) c1221) ?_
                refine ap (.str (s1181.said ++ (ix l s1181.t28).S)) rfl rfl rfl (pu_assign rfl (AEv.tmp rfl)) ?_
                refine aops_nil ?_
                refine aw_region ?_
                refine ap (.sl (.own n1182) 2 (s1181.helds.map api.Held.av)) rfl rfl rfl (pu_move rfl (AEv.tmp rfl)) ?_
                refine ap (.ptr p1187 2) rfl rfl rfl (pu_fieldAddr rfl underlying59 rfl sizeOf3 (by decide) (AEv.tmp rfl) rfl) ?_
                refine ac rfl rfl rfl (op_load1 (i := 0) rfl isAgg3 (AEv.tmp rfl) rfl rfl ?_)
                refine ap (.ptr p1187 1) rfl rfl rfl (pu_fieldAddr rfl underlying59 rfl sizeOf9 (by decide) (AEv.tmp rfl) rfl) ?_
                refine ac rfl rfl rfl (op_load1 (i := 0) rfl isAgg9 (AEv.tmp rfl) rfl rfl ?_)
                refine ap (.agg [.int .i64 (ix l s1181.t28).N, .str (ix l s1181.t28).S]) rfl rfl rfl (pu_build (zs := [.int .i64 0, .str ([] : List UInt8)]) (szs := [1, 1]) (aparts := [(0, .int .i64 (ix l s1181.t28).N), (1, .str (ix l s1181.t28).S)]) (cs := [.int .i64 (ix l s1181.t28).N, .str (ix l s1181.t28).S]) rfl underlying61 zeroValue61 rfl ⟨sizeOf3, sizeOf9, trivial⟩ ⟨rfl, (AEv.tmp rfl), ⟨rfl, (AEv.tmp rfl), trivial⟩⟩ rfl) ?_
                refine ac rfl rfl rfl (op_buildSlice (xs := ([({ Need := (ix l s1181.t28).N, S := (ix l s1181.t28).S } : api.Held)] : List api.Held).map api.Held.av) (aparts := [(0, .agg [.int .i64 (ix l s1181.t28).N, .str (ix l s1181.t28).S])]) rfl underlying54 sizeOf61 zeroValue61 (by decide) (by decide) ⟨rfl, (AEv.tmp rfl), trivial⟩ rfl rfl rfl ?_)
                obtain ⟨c1222, h⟩ := need_of h
                refine ac rfl rfl rfl (op_appendOM (q := 3) rfl underlying54 underlying54 (.inl rfl) typeInfo61 rfl rfl rfl (by decide) (AEv.tmp rfl) rfl (given_sl (AEv.tmp rfl)) c1222 ?_)
                intro t1223
                refine ap (.sl (.own t1223) 2 ((s1181.helds ++ [({ Need := (ix l s1181.t28).N, S := (ix l s1181.t28).S } : api.Held)]).map api.Held.av)) rfl rfl rfl (pu_assign rfl (AEv.tmp rfl)) ?_
                refine aops_nil ?_
                obtain rfl := some_of h
                exact ⟨t1223, Weak.mkL [1, 2, 3, 0] (by decide) ⟨⟨_, rfl, (CellsLe.refl _), rfl⟩, ⟨_, rfl, (CellsLe.refl _), rfl⟩, ⟨_, rfl, rfl⟩, ⟨_, rfl, (CellsLe.refl _), rfl⟩, trivial⟩ ⟨AEv.tmp rfl, AEv.tmp rfl, (AEv.le (AEv.tmp rfl) (AV.Le.refl _)), AEv.tmp rfl, AEv.tmp rfl, (AEv.le (AEv.tmp rfl) (AV.Le.refl _)), AEv.tmp rfl, AEv.tmp rfl, AEv.tmp rfl, AEv.tmp rfl, trivial⟩⟩
              · replace h := ite_fb hb1224 h
                refine aw_skip ?_
                obtain rfl := some_of h
                exact ⟨n1182, Weak.mkL [1, 2, 3, 0] (by decide) ⟨⟨_, rfl, (CellsLe.refl _), rfl⟩, ⟨_, rfl, (CellsLe.refl _), rfl⟩, ⟨_, rfl, rfl⟩, ⟨_, rfl, (CellsLe.refl _), rfl⟩, trivial⟩ ⟨AEv.tmp rfl, AEv.tmp rfl, AEv.tmp rfl, AEv.tmp rfl, AEv.tmp rfl, AEv.tmp rfl, AEv.tmp rfl, AEv.tmp rfl, AEv.tmp rfl, AEv.tmp rfl, trivial⟩⟩
            · intro n1218
              have h := h1219
              refine aw_region ?_
              refine ac rfl rfl rfl (op_loadN (i := 1) rfl isAgg56 sizeOf56 (AEv.tmp rfl) rfl (Nat.le_of_ble_eq_true rfl) rfl ?_)
              refine ap (.ptr p1187 1) rfl rfl rfl (pu_fieldAddr rfl underlying59 rfl sizeOf9 (by decide) (AEv.tmp rfl) rfl) ?_
              refine ac rfl rfl rfl (op_load1 (i := 3) rfl isAgg9 (AEv.tmp rfl) rfl rfl ?_)
              refine ap (.ptr p1187 2) rfl rfl rfl (pu_fieldAddr rfl underlying59 rfl sizeOf3 (by decide) (AEv.tmp rfl) rfl) ?_
              refine ac rfl rfl rfl (op_load1 (i := 3) rfl isAgg3 (AEv.tmp rfl) rfl rfl ?_)
              refine ap (.int .i64 s1181.durable) rfl rfl rfl (pu_move rfl (AEv.tmp rfl)) ?_
              refine ac rfl rfl rfl (op_loadN (i := 0) rfl isAgg53 sizeOf53 (AEv.tmp rfl) rfl (Nat.le_of_ble_eq_true rfl) rfl ?_)
              obtain ⟨r1225, r1225e, h⟩ := bind_some h
              refine ac rfl rfl rfl (op_call (vs := [.agg [.int .i64 s1181.c, .int .i64 s1181.c2, .str s1181.c3, .sl .no 1 (s1181.c4.map AV.str), .int .i64 s1181.c5, .int .i64 s1181.c6, .bool s1181.c7, .int .i64 s1181.c8, .int .i64 s1181.c9, .int .i64 s1181.c10, .sl .no 2 (s1181.c11.map api.Held.av), .str s1181.c12, .int .i64 s1181.c13, .bool s1181.c14, .bool s1181.c15], .str (ix l s1181.t28).S, .int .i64 (ix l s1181.t28).N, .int .i64 s1181.durable, .agg [.str ([] : List UInt8), .str ([] : List UInt8), .int .i64 0, .int .i64 0, .int .i64 0, .int .i64 0, .int .i64 (IntKind.wrap .i64 (out.tmod 200)), .int .i64 0, .int .i64 0, .int .i64 0, .int .i64 0, .int .i64 0, .int .i64 0, .int .i64 0]]) (H := []) rfl call27 ⟨(AEv.tmp rfl), (AEv.tmp rfl), (AEv.tmp rfl), (AEv.tmp rfl), (AEv.tmp rfl), trivial⟩ (List.Perm.refl _) (conn.Say.ok r1225e) ?_)
              rintro _ _ ⟨rfl, rfl⟩
              refine ac0 rfl rfl (op_store (i := 1) (cs' := (api.Conn.ct .no .no r1225)) rfl sizeOf56 (AEv.tmp rfl) (v := .agg (api.Conn.ct .no .no r1225)) (AEv.tmp rfl) rfl rfl rfl (Nat.le_of_ble_eq_true rfl) rfl ?_)
              refine aops_nil ?_
              obtain rfl := some_of h
              exact ⟨n1218, Weak.mkL [0, 1, 2] (by decide) ⟨⟨_, rfl, (CellsLe.refl _), rfl⟩, ⟨_, rfl, (CellsLe.refl _), rfl⟩, ⟨_, rfl, rfl⟩, trivial⟩ ⟨AEv.tmp rfl, AEv.tmp rfl, AEv.tmp rfl, AEv.tmp rfl, AEv.tmp rfl, AEv.tmp rfl, AEv.tmp rfl, AEv.tmp rfl, AEv.tmp rfl, trivial⟩⟩
          · replace h := ite_f (dec_f hb1233) h
            refine aw_seq ?_
            refine aw_region ?_
            refine ap (.bool (decide ((ix l s1181.t28).Kind = 3))) rfl rfl rfl (pu_int (v := .bool (decide ((ix l s1181.t28).Kind = 3))) rfl rfl (AEv.tmp rfl) (AEv.int _ _) rfl) ?_
            refine ap (.bool (decide ((ix l s1181.t28).Kind = 3))) rfl rfl rfl (pu_assign rfl (AEv.tmp rfl)) ?_
            refine aops_nil ?_
            refine aw_cond (b := decide ((ix l s1181.t28).Kind = 3)) (AEv.tmp rfl) (fun hb1232 => ?_) (fun hb1232 => ?_)
            · replace h := ite_t (dec_t hb1232) h
              refine aw_seq ?_
              refine aw_region ?_
              refine ap (.int .i64 s1181.durable) rfl rfl rfl (pu_move rfl (AEv.tmp rfl)) ?_
              refine ap (.ptr p1187 3) rfl rfl rfl (pu_fieldAddr rfl underlying59 rfl sizeOf3 (by decide) (AEv.tmp rfl) rfl) ?_
              refine ac rfl rfl rfl (op_load1 (i := 0) rfl isAgg3 (AEv.tmp rfl) rfl rfl ?_)
              refine ap (.int .i64 (if s1181.durable < (ix l s1181.t28).M then (ix l s1181.t28).M else s1181.durable)) rfl rfl rfl (pu_max2 rfl (AEv.tmp rfl) (AEv.tmp rfl)) ?_
              refine ap (.int .i64 (if s1181.durable < (ix l s1181.t28).M then (ix l s1181.t28).M else s1181.durable)) rfl rfl rfl (pu_assign rfl (AEv.tmp rfl)) ?_
              refine aops_nil ?_
              refine aw_region ?_
              refine ac rfl rfl rfl (op_loadN (i := 2) rfl isAgg56 sizeOf56 (AEv.tmp rfl) rfl (Nat.le_of_ble_eq_true rfl) rfl ?_)
              refine ap (.int .i64 (if s1181.durable < (ix l s1181.t28).M then (ix l s1181.t28).M else s1181.durable)) rfl rfl rfl (pu_move rfl (AEv.tmp rfl)) ?_
              obtain ⟨r1226, r1226e, h⟩ := bind_some h
              refine ac rfl rfl rfl (op_call (vs := [.agg [.int .i64 s1181.c, .int .i64 s1181.c2, .str s1181.c3, .sl .no 1 (s1181.c4.map AV.str), .int .i64 s1181.c5, .int .i64 s1181.c6, .bool s1181.c7, .int .i64 s1181.c8, .int .i64 s1181.c9, .int .i64 s1181.c10, .sl .no 2 (s1181.c11.map api.Held.av), .str s1181.c12, .int .i64 s1181.c13, .bool s1181.c14, .bool s1181.c15], .int .i64 (if s1181.durable < (ix l s1181.t28).M then (ix l s1181.t28).M else s1181.durable)]) (H := []) rfl call28 ⟨(AEv.tmp rfl), (AEv.tmp rfl), trivial⟩ (List.Perm.refl _) (conn.Free.ok r1226e) ?_)
              rintro _ _ ⟨t1227, rfl, rfl⟩
              refine ac0 rfl rfl (op_store (i := 3) (cs' := (api.Conn.ct .no (.own t1227) r1226)) rfl sizeOf56 (AEv.tmp rfl) (v := .agg (api.Conn.ct .no (.own t1227) r1226)) (AEv.tmp rfl) rfl rfl rfl (Nat.le_of_ble_eq_true rfl) rfl ?_)
              refine aops_nil ?_
              obtain rfl := some_of h
              exact ⟨n1182, Weak.mkL [2, 3, 4] (by decide) ⟨⟨_, rfl, (CellsLe.refl _), rfl⟩, ⟨_, rfl, ⟨(AV.Le.refl _), (AV.Le.refl _), (AV.Le.refl _), (AV.Le.refl _), (AV.Le.refl _), (AV.Le.refl _), (AV.Le.refl _), (AV.Le.refl _), (AV.Le.refl _), (AV.Le.refl _), (AV.Le.forget _ _ _), (AV.Le.refl _), (AV.Le.refl _), (AV.Le.refl _), (AV.Le.refl _), trivial⟩, rfl⟩, ⟨_, rfl, rfl⟩, trivial⟩ ⟨AEv.tmp rfl, AEv.tmp rfl, AEv.tmp rfl, AEv.tmp rfl, (AEv.le (AEv.tmp rfl) (AV.Le.refl _)), AEv.tmp rfl, AEv.tmp rfl, AEv.tmp rfl, AEv.tmp rfl, trivial⟩⟩
            · replace h := ite_f (dec_f hb1232) h
              refine aw_seq ?_
              refine aw_region ?_
              refine ap (.bool (decide ((ix l s1181.t28).Kind = 4))) rfl rfl rfl (pu_int (v := .bool (decide ((ix l s1181.t28).Kind = 4))) rfl rfl (AEv.tmp rfl) (AEv.int _ _) rfl) ?_
              refine ap (.bool (decide ((ix l s1181.t28).Kind = 4))) rfl rfl rfl (pu_assign rfl (AEv.tmp rfl)) ?_
              refine aops_nil ?_
              refine aw_cond (b := decide ((ix l s1181.t28).Kind = 4)) (AEv.tmp rfl) (fun hb1231 => ?_) (fun hb1231 => ?_)
              · replace h := ite_t (dec_t hb1231) h
                refine aw_seq ?_
                refine aw_region ?_
                refine ac rfl rfl rfl (op_loadN (i := 2) rfl isAgg56 sizeOf56 (AEv.tmp rfl) rfl (Nat.le_of_ble_eq_true rfl) rfl ?_)
                refine ap (.ptr p1187 2) rfl rfl rfl (pu_fieldAddr rfl underlying59 rfl sizeOf3 (by decide) (AEv.tmp rfl) rfl) ?_
                refine ac rfl rfl rfl (op_load1 (i := 0) rfl isAgg3 (AEv.tmp rfl) rfl rfl ?_)
                obtain ⟨r1228, r1228e, h⟩ := bind_some h
                refine ac rfl rfl rfl (op_call (vs := [.agg [.int .i64 s1181.c, .int .i64 s1181.c2, .str s1181.c3, .sl .no 1 (s1181.c4.map AV.str), .int .i64 s1181.c5, .int .i64 s1181.c6, .bool s1181.c7, .int .i64 s1181.c8, .int .i64 s1181.c9, .int .i64 s1181.c10, .sl .no 2 (s1181.c11.map api.Held.av), .str s1181.c12, .int .i64 s1181.c13, .bool s1181.c14, .bool s1181.c15], .int .i64 (ix l s1181.t28).N]) (H := []) rfl call29 ⟨(AEv.tmp rfl), (AEv.tmp rfl), trivial⟩ (List.Perm.refl _) (conn.Take.ok r1228e) ?_)
                rintro _ _ ⟨rfl, rfl⟩
                refine ap (.tup [.agg (api.Conn.ct .no .no r1228.1), .str r1228.2]) rfl rfl rfl (pu_move rfl (AEv.tmp rfl)) ?_
                refine ap (.agg (api.Conn.ct .no .no r1228.1)) rfl rfl rfl (pu_extract rfl (AEv.tmp rfl) (Nat.le_of_ble_eq_true rfl) rfl) ?_
                refine ap (.str r1228.2) rfl rfl rfl (pu_extract rfl (AEv.tmp rfl) (Nat.le_of_ble_eq_true rfl) rfl) ?_
                refine ac rfl rfl rfl (op_alloc (cs := [.int .i64 0, .int .i64 0, .str ([] : List UInt8), .sl .full 1 (([] : List (List UInt8)).map AV.str), .int .i64 0, .int .i64 0, .bool false, .int .i64 0, .int .i64 0, .int .i64 0, .sl .full 2 (([] : List api.Held).map api.Held.av), .str ([] : List UInt8), .int .i64 0, .bool false, .bool false]) (v := .agg [.int .i64 0, .int .i64 0, .str ([] : List UInt8), .sl .full 1 (([] : List (List UInt8)).map AV.str), .int .i64 0, .int .i64 0, .bool false, .int .i64 0, .int .i64 0, .int .i64 0, .sl .full 2 (([] : List api.Held).map api.Held.av), .str ([] : List UInt8), .int .i64 0, .bool false, .bool false]) rfl zeroValue56 rfl rfl rfl ?_)
                intro p1229
                refine ac0 rfl rfl (op_store (i := 0) (cs' := (api.Conn.ct .no .no r1228.1)) rfl sizeOf56 (AEv.tmp rfl) (v := .agg (api.Conn.ct .no .no r1228.1)) (AEv.tmp rfl) rfl rfl rfl (Nat.le_of_ble_eq_true rfl) rfl ?_)
                refine ap (.str r1228.2) rfl rfl rfl (pu_assign rfl (AEv.tmp rfl)) ?_
                refine aops_nil ?_
                refine aw_seq ?_
                refine aw_region ?_
                refine ac rfl rfl rfl (op_loadN (i := 0) rfl isAgg56 sizeOf56 (AEv.tmp rfl) rfl (Nat.le_of_ble_eq_true rfl) rfl ?_)
                refine ac0 rfl rfl (op_store (i := 3) (cs' := (api.Conn.ct .no .no r1228.1)) rfl sizeOf56 (AEv.tmp rfl) (v := .agg (api.Conn.ct .no .no r1228.1)) (AEv.tmp rfl) rfl rfl rfl (Nat.le_of_ble_eq_true rfl) rfl ?_)
                refine aops_nil ?_
                refine aw_region ?_
                refine ap (.str s1181.came) rfl rfl rfl (pu_move rfl (AEv.tmp rfl)) ?_
                refine ap (.str r1228.2) rfl rfl rfl (pu_move rfl (AEv.tmp rfl)) ?_
                obtain ⟨c1230, h⟩ := need_of h
                refine ap (.str (s1181.came ++ r1228.2)) rfl rfl rfl (pu_strAdd rfl (AEv.tmp rfl) (AEv.tmp rfl) c1230) ?_
                refine ap (.str (s1181.came ++ r1228.2)) rfl rfl rfl (pu_assign rfl (AEv.tmp rfl)) ?_
                refine aops_nil ?_
                obtain rfl := some_of h
                exact ⟨n1182, Weak.mkL [2, 3, 4] (by decide) ⟨⟨_, rfl, (CellsLe.refl _), rfl⟩, ⟨_, rfl, (CellsLe.refl _), rfl⟩, ⟨_, rfl, rfl⟩, trivial⟩ ⟨AEv.tmp rfl, AEv.tmp rfl, AEv.tmp rfl, (AEv.le (AEv.tmp rfl) (AV.Le.refl _)), AEv.tmp rfl, AEv.tmp rfl, AEv.tmp rfl, AEv.tmp rfl, AEv.tmp rfl, trivial⟩⟩
              · replace h := ite_f (dec_f hb1231) h
                refine aw_skip ?_
                obtain rfl := some_of h
                exact ⟨n1182, Weak.mkL [1, 2, 3] (by decide) ⟨⟨_, rfl, (CellsLe.refl _), rfl⟩, ⟨_, rfl, (CellsLe.refl _), rfl⟩, ⟨_, rfl, rfl⟩, trivial⟩ ⟨AEv.tmp rfl, AEv.tmp rfl, AEv.tmp rfl, AEv.tmp rfl, AEv.tmp rfl, AEv.tmp rfl, AEv.tmp rfl, AEv.tmp rfl, AEv.tmp rfl, trivial⟩⟩
        · intro n1210
          have h := h1211
          refine aw_seq ?_
          obtain ⟨s1238, s1238e, h1239⟩ := bind_some h
          refine aw_meet (ν := Unit) (fun v => [(5, .ptr p648 0), (6, .ptr p650 0), (7, .str s1209.1), (8, .str s1209.2.1), (9, .int .i64 s1209.2.2.1), (10, .sl (.own n1210) 2 (s1209.2.2.2.1.map api.Held.av)), (26, .sl .no 4 (l.map mewslaw43.Op.av)), (27, .int .i64 (l.length : Int)), (28, .int .i64 s1181.t28), (100, .bool s1238)]) (fun v => [(p648, .cells [.str ([] : List UInt8), .str ([] : List UInt8), .int .i64 0, .int .i64 0, .int .i64 0, .int .i64 0, .int .i64 (IntKind.wrap .i64 (out.tmod 200)), .int .i64 0, .int .i64 0, .int .i64 0, .int .i64 0, .int .i64 0, .int .i64 0, .int .i64 0]), (p650, .cells [.int .i64 s1209.2.2.2.2.1, .int .i64 s1209.2.2.2.2.2.1, .str s1209.2.2.2.2.2.2.1, .sl .no 1 (s1209.2.2.2.2.2.2.2.1.map AV.str), .int .i64 s1209.2.2.2.2.2.2.2.2.1, .int .i64 s1209.2.2.2.2.2.2.2.2.2.1, .bool s1209.2.2.2.2.2.2.2.2.2.2.1, .int .i64 s1209.2.2.2.2.2.2.2.2.2.2.2.1, .int .i64 s1209.2.2.2.2.2.2.2.2.2.2.2.2.1, .int .i64 s1209.2.2.2.2.2.2.2.2.2.2.2.2.2.1, .sl .no 2 (s1209.2.2.2.2.2.2.2.2.2.2.2.2.2.2.1.map api.Held.av), .str s1209.2.2.2.2.2.2.2.2.2.2.2.2.2.2.2.1, .int .i64 s1209.2.2.2.2.2.2.2.2.2.2.2.2.2.2.2.2.1, .bool s1209.2.2.2.2.2.2.2.2.2.2.2.2.2.2.2.2.2.1, .bool s1209.2.2.2.2.2.2.2.2.2.2.2.2.2.2.2.2.2.2]), (n1210, .spare)]) ?_ ?_
          · have h := s1238e
            obtain ⟨r1241, r1241e, h⟩ := bind_some h
            rcases Bool.eq_false_or_eq_true (decide ((IntKind.wrap .i64 (out.tmod 200)) < r1241)) with hb1242 | hb1242
            · replace h := ite_t (dec_t hb1242) h
              refine aw_plan (by decide +kernel) [([], some 81, [6]), ([0], some 82, [81]), ([], some 83, [5]), ([2], some 84, [83]), ([1, 3], some 85, [82, 84]), ([4, 1], some 86, [85]), ([5], some 87, [8, 86]), ([6, 5], some 88, [87, 86]), ([5], some 89, [7, 86]), ([8, 5], some 90, [89, 86]), ([7, 9, 5], some 91, [88, 90, 86]), ([5, 10], some 92, [86, 91]), ([11, 5], some 93, [92]), ([12], some 94, [7, 93]), ([12], some 95, [8, 93]), ([14, 12], some 96, [95, 93]), ([13, 15, 12], some 97, [94, 96, 93]), ([12], some 98, [8, 93]), ([16, 17, 12], some 99, [97, 98, 93]), ([12, 18], some 100, [93, 99])] rfl [[], [0], [], [2], [0, 1, 2, 3], [0, 1, 2, 3, 4], [0, 1, 2, 3, 4, 5], [0, 1, 2, 3, 4, 5, 6], [0, 1, 2, 3, 4, 5], [0, 1, 2, 3, 4, 5, 8], [0, 1, 2, 3, 4, 5, 6, 7, 8, 9], [0, 1, 2, 3, 4, 5, 6, 7, 8, 9, 10], [0, 1, 2, 3, 4, 5, 6, 7, 8, 9, 10, 11], [0, 1, 2, 3, 4, 5, 6, 7, 8, 9, 10, 11, 12], [0, 1, 2, 3, 4, 5, 6, 7, 8, 9, 10, 11, 12], [0, 1, 2, 3, 4, 5, 6, 7, 8, 9, 10, 11, 12, 14], [0, 1, 2, 3, 4, 5, 6, 7, 8, 9, 10, 11, 12, 13, 14, 15], [0, 1, 2, 3, 4, 5, 6, 7, 8, 9, 10, 11, 12], [0, 1, 2, 3, 4, 5, 6, 7, 8, 9, 10, 11, 12, 13, 14, 15, 16, 17], [0, 1, 2, 3, 4, 5, 6, 7, 8, 9, 10, 11, 12, 13, 14, 15, 16, 17, 18]] [[(1, 0, false)], [], [], [(0, 0, false)], [], [], [], [], [], [], [], [], [], [], [], [], [], [], [], []] [[], [], []] [[[(p648, .cells [.str ([] : List UInt8), .str ([] : List UInt8), .int .i64 0, .int .i64 0, .int .i64 0, .int .i64 0, .int .i64 (IntKind.wrap .i64 (out.tmod 200)), .int .i64 0, .int .i64 0, .int .i64 0, .int .i64 0, .int .i64 0, .int .i64 0, .int .i64 0])]], [[(p650, .cells [.int .i64 s1209.2.2.2.2.1, .int .i64 s1209.2.2.2.2.2.1, .str s1209.2.2.2.2.2.2.1, .sl .no 1 (s1209.2.2.2.2.2.2.2.1.map AV.str), .int .i64 s1209.2.2.2.2.2.2.2.2.1, .int .i64 s1209.2.2.2.2.2.2.2.2.2.1, .bool s1209.2.2.2.2.2.2.2.2.2.2.1, .int .i64 s1209.2.2.2.2.2.2.2.2.2.2.2.1, .int .i64 s1209.2.2.2.2.2.2.2.2.2.2.2.2.1, .int .i64 s1209.2.2.2.2.2.2.2.2.2.2.2.2.2.1, .sl .no 2 (s1209.2.2.2.2.2.2.2.2.2.2.2.2.2.2.1.map api.Held.av), .str s1209.2.2.2.2.2.2.2.2.2.2.2.2.2.2.2.1, .int .i64 s1209.2.2.2.2.2.2.2.2.2.2.2.2.2.2.2.2.1, .bool s1209.2.2.2.2.2.2.2.2.2.2.2.2.2.2.2.2.2.1, .bool s1209.2.2.2.2.2.2.2.2.2.2.2.2.2.2.2.2.2.2])]], [[(n1210, .spare)]]] [.agg [.int .i64 s1209.2.2.2.2.1, .int .i64 s1209.2.2.2.2.2.1, .str s1209.2.2.2.2.2.2.1, .sl .no 1 (s1209.2.2.2.2.2.2.2.1.map AV.str), .int .i64 s1209.2.2.2.2.2.2.2.2.1, .int .i64 s1209.2.2.2.2.2.2.2.2.2.1, .bool s1209.2.2.2.2.2.2.2.2.2.2.1, .int .i64 s1209.2.2.2.2.2.2.2.2.2.2.2.1, .int .i64 s1209.2.2.2.2.2.2.2.2.2.2.2.2.1, .int .i64 s1209.2.2.2.2.2.2.2.2.2.2.2.2.2.1, .sl .no 2 (s1209.2.2.2.2.2.2.2.2.2.2.2.2.2.2.1.map api.Held.av), .str s1209.2.2.2.2.2.2.2.2.2.2.2.2.2.2.2.1, .int .i64 s1209.2.2.2.2.2.2.2.2.2.2.2.2.2.2.2.2.1, .bool s1209.2.2.2.2.2.2.2.2.2.2.2.2.2.2.2.2.2.1, .bool s1209.2.2.2.2.2.2.2.2.2.2.2.2.2.2.2.2.2.2], .int .i64 r1241, .ptr p648 6, .int .i64 (IntKind.wrap .i64 (out.tmod 200)), .bool (decide ((IntKind.wrap .i64 (out.tmod 200)) < r1241)), .bool true, .lit undef, .lit undef, .lit undef, .lit undef, .lit undef, .bool true, .bool true, .lit undef, .lit undef, .lit undef, .lit undef, .lit undef, .lit undef, .bool true] (by decide +kernel) rfl rfl ?_ ?_
              · refine ⟨⟨[6], rfl, stepg_plain rfl (op_loadN (i := 0) rfl isAgg56 sizeOf56 (AEv.tmp rfl) rfl (Nat.le_of_ble_eq_true rfl) rfl ⟨rfl, rfl⟩)⟩, ?_⟩
                refine ⟨⟨[81], rfl, stepg_plain rfl (op_call (vs := [.agg [.int .i64 s1209.2.2.2.2.1, .int .i64 s1209.2.2.2.2.2.1, .str s1209.2.2.2.2.2.2.1, .sl .no 1 (s1209.2.2.2.2.2.2.2.1.map AV.str), .int .i64 s1209.2.2.2.2.2.2.2.2.1, .int .i64 s1209.2.2.2.2.2.2.2.2.2.1, .bool s1209.2.2.2.2.2.2.2.2.2.2.1, .int .i64 s1209.2.2.2.2.2.2.2.2.2.2.2.1, .int .i64 s1209.2.2.2.2.2.2.2.2.2.2.2.2.1, .int .i64 s1209.2.2.2.2.2.2.2.2.2.2.2.2.2.1, .sl .no 2 (s1209.2.2.2.2.2.2.2.2.2.2.2.2.2.2.1.map api.Held.av), .str s1209.2.2.2.2.2.2.2.2.2.2.2.2.2.2.2.1, .int .i64 s1209.2.2.2.2.2.2.2.2.2.2.2.2.2.2.2.2.1, .bool s1209.2.2.2.2.2.2.2.2.2.2.2.2.2.2.2.2.2.1, .bool s1209.2.2.2.2.2.2.2.2.2.2.2.2.2.2.2.2.2.2]]) (H := []) rfl call30 ⟨(AEv.tmp rfl), trivial⟩ (R := []) (List.Perm.refl _) (conn.Pending.ok r1241e) (by rintro _ _ ⟨rfl, rfl⟩; exact ⟨rfl, rfl⟩))⟩, ?_⟩
                refine ⟨⟨[5], rfl, stepg_pure rfl (pu_fieldAddr rfl underlying53 rfl sizeOf3 (by decide) (AEv.tmp rfl) rfl)⟩, ?_⟩
                refine ⟨⟨[83], rfl, stepg_plain rfl (op_load1 (i := 0) rfl isAgg3 (AEv.tmp rfl) rfl rfl ⟨rfl, rfl⟩)⟩, ?_⟩
                refine ⟨⟨[82, 84], rfl, stepg_pure rfl (pu_int (v := .bool (decide ((IntKind.wrap .i64 (out.tmod 200)) < r1241))) rfl rfl (AEv.tmp rfl) (AEv.tmp rfl) rfl)⟩, ?_⟩
                refine ⟨⟨[85], rfl, (stepg_pure rfl (pu_move rfl (AEv.tmp rfl))).cast (congrArg AV.bool hb1242)⟩, ?_⟩
                refine ⟨⟨[8, 86], rfl, stepg_pass rfl rfl rfl (by decide) rfl (by decide)⟩, ?_⟩
                refine ⟨⟨[86, 87], rfl, stepg_pass rfl rfl rfl (by decide) rfl (by decide)⟩, ?_⟩
                refine ⟨⟨[7, 86], rfl, stepg_pass rfl rfl rfl (by decide) rfl (by decide)⟩, ?_⟩
                refine ⟨⟨[86, 89], rfl, stepg_pass rfl rfl rfl (by decide) rfl (by decide)⟩, ?_⟩
                refine ⟨⟨[86, 88, 90], rfl, stepg_pass rfl rfl rfl (by decide) rfl (by decide)⟩, ?_⟩
                refine ⟨⟨[86, 91], rfl, stepg_pure rfl (pu_pick (b := true) rfl (AEv.tmp rfl) (fun _ => (AEv.bool _)) (fun h => nomatch h))⟩, ?_⟩
                refine ⟨⟨[92], rfl, stepg_pure rfl (pu_move rfl (AEv.tmp rfl))⟩, ?_⟩
                refine ⟨⟨[7, 93], rfl, stepg_pass rfl rfl rfl (by decide) rfl (by decide)⟩, ?_⟩
                refine ⟨⟨[8, 93], rfl, stepg_pass rfl rfl rfl (by decide) rfl (by decide)⟩, ?_⟩
                refine ⟨⟨[93, 95], rfl, stepg_pass rfl rfl rfl (by decide) rfl (by decide)⟩, ?_⟩
                refine ⟨⟨[93, 94, 96], rfl, stepg_pass rfl rfl rfl (by decide) rfl (by decide)⟩, ?_⟩
                refine ⟨⟨[8, 93], rfl, stepg_pass rfl rfl rfl (by decide) rfl (by decide)⟩, ?_⟩
                refine ⟨⟨[93, 97, 98], rfl, stepg_pass rfl rfl rfl (by decide) rfl (by decide)⟩, ?_⟩
                refine ⟨⟨[93, 99], rfl, stepg_pure rfl (pu_pick (b := true) rfl (AEv.tmp rfl) (fun _ => (AEv.bool _)) (fun h => nomatch h))⟩, ?_⟩
                trivial
              obtain rfl := some_of h
              exact ⟨(), Weak.mkL [0, 1, 2] (by decide) ⟨⟨_, rfl, (CellsLe.refl _), rfl⟩, ⟨_, rfl, (CellsLe.refl _), rfl⟩, ⟨_, rfl, rfl⟩, trivial⟩ ⟨AEv.tmp rfl, AEv.tmp rfl, AEv.tmp rfl, AEv.tmp rfl, AEv.tmp rfl, AEv.tmp rfl, AEv.tmp rfl, AEv.tmp rfl, AEv.tmp rfl, AEv.tmp rfl, trivial⟩⟩
            · replace h := ite_f (dec_f hb1242) h
              rcases Bool.eq_false_or_eq_true (decide ((s1209.1.length : Int) < (s1209.2.1.length : Int))) with hb1243 | hb1243
              · replace h := ite_t (dec_t hb1243) h
                refine aw_plan (by decide +kernel) [([], some 81, [6]), ([0], some 82, [81]), ([], some 83, [5]), ([2], some 84, [83]), ([1, 3], some 85, [82, 84]), ([4, 1], some 86, [85]), ([5], some 87, [8, 86]), ([6, 5], some 88, [87, 86]), ([5], some 89, [7, 86]), ([8, 5], some 90, [89, 86]), ([7, 9, 5], some 91, [88, 90, 86]), ([5, 10], some 92, [86, 91]), ([11, 5], some 93, [92]), ([12], some 94, [7, 93]), ([12], some 95, [8, 93]), ([14, 12], some 96, [95, 93]), ([13, 15, 12], some 97, [94, 96, 93]), ([12], some 98, [8, 93]), ([16, 17, 12], some 99, [97, 98, 93]), ([12, 18], some 100, [93, 99])] rfl [[], [0], [], [2], [0, 1, 2, 3], [0, 1, 2, 3, 4], [0, 1, 2, 3, 4, 5], [0, 1, 2, 3, 4, 5, 6], [0, 1, 2, 3, 4, 5], [0, 1, 2, 3, 4, 5, 8], [0, 1, 2, 3, 4, 5, 6, 7, 8, 9], [0, 1, 2, 3, 4, 5, 6, 7, 8, 9, 10], [0, 1, 2, 3, 4, 5, 6, 7, 8, 9, 10, 11], [0, 1, 2, 3, 4, 5, 6, 7, 8, 9, 10, 11, 12], [0, 1, 2, 3, 4, 5, 6, 7, 8, 9, 10, 11, 12], [0, 1, 2, 3, 4, 5, 6, 7, 8, 9, 10, 11, 12, 14], [0, 1, 2, 3, 4, 5, 6, 7, 8, 9, 10, 11, 12, 13, 14, 15], [0, 1, 2, 3, 4, 5, 6, 7, 8, 9, 10, 11, 12], [0, 1, 2, 3, 4, 5, 6, 7, 8, 9, 10, 11, 12, 13, 14, 15, 16, 17], [0, 1, 2, 3, 4, 5, 6, 7, 8, 9, 10, 11, 12, 13, 14, 15, 16, 17, 18]] [[(1, 0, false)], [], [], [(0, 0, false)], [], [], [], [], [], [], [], [], [], [], [], [], [], [], [], []] [[], [], []] [[[(p648, .cells [.str ([] : List UInt8), .str ([] : List UInt8), .int .i64 0, .int .i64 0, .int .i64 0, .int .i64 0, .int .i64 (IntKind.wrap .i64 (out.tmod 200)), .int .i64 0, .int .i64 0, .int .i64 0, .int .i64 0, .int .i64 0, .int .i64 0, .int .i64 0])]], [[(p650, .cells [.int .i64 s1209.2.2.2.2.1, .int .i64 s1209.2.2.2.2.2.1, .str s1209.2.2.2.2.2.2.1, .sl .no 1 (s1209.2.2.2.2.2.2.2.1.map AV.str), .int .i64 s1209.2.2.2.2.2.2.2.2.1, .int .i64 s1209.2.2.2.2.2.2.2.2.2.1, .bool s1209.2.2.2.2.2.2.2.2.2.2.1, .int .i64 s1209.2.2.2.2.2.2.2.2.2.2.2.1, .int .i64 s1209.2.2.2.2.2.2.2.2.2.2.2.2.1, .int .i64 s1209.2.2.2.2.2.2.2.2.2.2.2.2.2.1, .sl .no 2 (s1209.2.2.2.2.2.2.2.2.2.2.2.2.2.2.1.map api.Held.av), .str s1209.2.2.2.2.2.2.2.2.2.2.2.2.2.2.2.1, .int .i64 s1209.2.2.2.2.2.2.2.2.2.2.2.2.2.2.2.2.1, .bool s1209.2.2.2.2.2.2.2.2.2.2.2.2.2.2.2.2.2.1, .bool s1209.2.2.2.2.2.2.2.2.2.2.2.2.2.2.2.2.2.2])]], [[(n1210, .spare)]]] [.agg [.int .i64 s1209.2.2.2.2.1, .int .i64 s1209.2.2.2.2.2.1, .str s1209.2.2.2.2.2.2.1, .sl .no 1 (s1209.2.2.2.2.2.2.2.1.map AV.str), .int .i64 s1209.2.2.2.2.2.2.2.2.1, .int .i64 s1209.2.2.2.2.2.2.2.2.2.1, .bool s1209.2.2.2.2.2.2.2.2.2.2.1, .int .i64 s1209.2.2.2.2.2.2.2.2.2.2.2.1, .int .i64 s1209.2.2.2.2.2.2.2.2.2.2.2.2.1, .int .i64 s1209.2.2.2.2.2.2.2.2.2.2.2.2.2.1, .sl .no 2 (s1209.2.2.2.2.2.2.2.2.2.2.2.2.2.2.1.map api.Held.av), .str s1209.2.2.2.2.2.2.2.2.2.2.2.2.2.2.2.1, .int .i64 s1209.2.2.2.2.2.2.2.2.2.2.2.2.2.2.2.2.1, .bool s1209.2.2.2.2.2.2.2.2.2.2.2.2.2.2.2.2.2.1, .bool s1209.2.2.2.2.2.2.2.2.2.2.2.2.2.2.2.2.2.2], .int .i64 r1241, .ptr p648 6, .int .i64 (IntKind.wrap .i64 (out.tmod 200)), .bool (decide ((IntKind.wrap .i64 (out.tmod 200)) < r1241)), .bool false, .str s1209.2.1, .int .i64 (s1209.2.1.length : Int), .str s1209.1, .int .i64 (s1209.1.length : Int), .bool (decide ((s1209.1.length : Int) < (s1209.2.1.length : Int))), .bool (decide ((s1209.1.length : Int) < (s1209.2.1.length : Int))), .bool true, .lit undef, .lit undef, .lit undef, .lit undef, .lit undef, .lit undef, .bool true] (by decide +kernel) rfl rfl ?_ ?_
                · refine ⟨⟨[6], rfl, stepg_plain rfl (op_loadN (i := 0) rfl isAgg56 sizeOf56 (AEv.tmp rfl) rfl (Nat.le_of_ble_eq_true rfl) rfl ⟨rfl, rfl⟩)⟩, ?_⟩
                  refine ⟨⟨[81], rfl, stepg_plain rfl (op_call (vs := [.agg [.int .i64 s1209.2.2.2.2.1, .int .i64 s1209.2.2.2.2.2.1, .str s1209.2.2.2.2.2.2.1, .sl .no 1 (s1209.2.2.2.2.2.2.2.1.map AV.str), .int .i64 s1209.2.2.2.2.2.2.2.2.1, .int .i64 s1209.2.2.2.2.2.2.2.2.2.1, .bool s1209.2.2.2.2.2.2.2.2.2.2.1, .int .i64 s1209.2.2.2.2.2.2.2.2.2.2.2.1, .int .i64 s1209.2.2.2.2.2.2.2.2.2.2.2.2.1, .int .i64 s1209.2.2.2.2.2.2.2.2.2.2.2.2.2.1, .sl .no 2 (s1209.2.2.2.2.2.2.2.2.2.2.2.2.2.2.1.map api.Held.av), .str s1209.2.2.2.2.2.2.2.2.2.2.2.2.2.2.2.1, .int .i64 s1209.2.2.2.2.2.2.2.2.2.2.2.2.2.2.2.2.1, .bool s1209.2.2.2.2.2.2.2.2.2.2.2.2.2.2.2.2.2.1, .bool s1209.2.2.2.2.2.2.2.2.2.2.2.2.2.2.2.2.2.2]]) (H := []) rfl call30 ⟨(AEv.tmp rfl), trivial⟩ (R := []) (List.Perm.refl _) (conn.Pending.ok r1241e) (by rintro _ _ ⟨rfl, rfl⟩; exact ⟨rfl, rfl⟩))⟩, ?_⟩
                  refine ⟨⟨[5], rfl, stepg_pure rfl (pu_fieldAddr rfl underlying53 rfl sizeOf3 (by decide) (AEv.tmp rfl) rfl)⟩, ?_⟩
                  refine ⟨⟨[83], rfl, stepg_plain rfl (op_load1 (i := 0) rfl isAgg3 (AEv.tmp rfl) rfl rfl ⟨rfl, rfl⟩)⟩, ?_⟩
                  refine ⟨⟨[82, 84], rfl, stepg_pure rfl (pu_int (v := .bool (decide ((IntKind.wrap .i64 (out.tmod 200)) < r1241))) rfl rfl (AEv.tmp rfl) (AEv.tmp rfl) rfl)⟩, ?_⟩
                  refine ⟨⟨[85], rfl, (stepg_pure rfl (pu_move rfl (AEv.tmp rfl))).cast (congrArg AV.bool hb1242)⟩, ?_⟩
                  refine ⟨⟨[8, 86], rfl, stepg_guardP rfl rfl rfl (by decide) rfl (pu_move rfl (AEv.tmp rfl))⟩, ?_⟩
                  refine ⟨⟨[86, 87], rfl, stepg_guardP rfl rfl rfl (by decide) rfl (pu_strLen rfl underlying9 (AEv.tmp rfl))⟩, ?_⟩
                  refine ⟨⟨[7, 86], rfl, stepg_guardP rfl rfl rfl (by decide) rfl (pu_move rfl (AEv.tmp rfl))⟩, ?_⟩
                  refine ⟨⟨[86, 89], rfl, stepg_guardP rfl rfl rfl (by decide) rfl (pu_strLen rfl underlying9 (AEv.tmp rfl))⟩, ?_⟩
                  refine ⟨⟨[86, 88, 90], rfl, stepg_guardP rfl rfl rfl (by decide) rfl (pu_int (v := .bool (decide ((s1209.1.length : Int) < (s1209.2.1.length : Int)))) rfl rfl (AEv.tmp rfl) (AEv.tmp rfl) rfl)⟩, ?_⟩
                  refine ⟨⟨[86, 91], rfl, stepg_pure rfl (pu_pick (b := false) rfl (AEv.tmp rfl) (fun h => nomatch h) (fun _ => (AEv.tmp rfl)))⟩, ?_⟩
                  refine ⟨⟨[92], rfl, (stepg_pure rfl (pu_move rfl (AEv.tmp rfl))).cast (congrArg AV.bool hb1243)⟩, ?_⟩
                  refine ⟨⟨[7, 93], rfl, stepg_pass rfl rfl rfl (by decide) rfl (by decide)⟩, ?_⟩
                  refine ⟨⟨[8, 93], rfl, stepg_pass rfl rfl rfl (by decide) rfl (by decide)⟩, ?_⟩
                  refine ⟨⟨[93, 95], rfl, stepg_pass rfl rfl rfl (by decide) rfl (by decide)⟩, ?_⟩
                  refine ⟨⟨[93, 94, 96], rfl, stepg_pass rfl rfl rfl (by decide) rfl (by decide)⟩, ?_⟩
                  refine ⟨⟨[8, 93], rfl, stepg_pass rfl rfl rfl (by decide) rfl (by decide)⟩, ?_⟩
                  refine ⟨⟨[93, 97, 98], rfl, stepg_pass rfl rfl rfl (by decide) rfl (by decide)⟩, ?_⟩
                  refine ⟨⟨[93, 99], rfl, stepg_pure rfl (pu_pick (b := true) rfl (AEv.tmp rfl) (fun _ => (AEv.bool _)) (fun h => nomatch h))⟩, ?_⟩
                  trivial
                obtain rfl := some_of h
                exact ⟨(), Weak.mkL [0, 1, 2] (by decide) ⟨⟨_, rfl, (CellsLe.refl _), rfl⟩, ⟨_, rfl, (CellsLe.refl _), rfl⟩, ⟨_, rfl, rfl⟩, trivial⟩ ⟨AEv.tmp rfl, AEv.tmp rfl, AEv.tmp rfl, AEv.tmp rfl, AEv.tmp rfl, AEv.tmp rfl, AEv.tmp rfl, AEv.tmp rfl, AEv.tmp rfl, AEv.tmp rfl, trivial⟩⟩
              · replace h := ite_f (dec_f hb1243) h
                obtain ⟨c1244, h⟩ := need_of h
                refine aw_plan (by decide +kernel) [([], some 81, [6]), ([0], some 82, [81]), ([], some 83, [5]), ([2], some 84, [83]), ([1, 3], some 85, [82, 84]), ([4, 1], some 86, [85]), ([5], some 87, [8, 86]), ([6, 5], some 88, [87, 86]), ([5], some 89, [7, 86]), ([8, 5], some 90, [89, 86]), ([7, 9, 5], some 91, [88, 90, 86]), ([5, 10], some 92, [86, 91]), ([11, 5], some 93, [92]), ([12], some 94, [7, 93]), ([12], some 95, [8, 93]), ([14, 12], some 96, [95, 93]), ([13, 15, 12], some 97, [94, 96, 93]), ([12], some 98, [8, 93]), ([16, 17, 12], some 99, [97, 98, 93]), ([12, 18], some 100, [93, 99])] rfl [[], [0], [], [2], [0, 1, 2, 3], [0, 1, 2, 3, 4], [0, 1, 2, 3, 4, 5], [0, 1, 2, 3, 4, 5, 6], [0, 1, 2, 3, 4, 5], [0, 1, 2, 3, 4, 5, 8], [0, 1, 2, 3, 4, 5, 6, 7, 8, 9], [0, 1, 2, 3, 4, 5, 6, 7, 8, 9, 10], [0, 1, 2, 3, 4, 5, 6, 7, 8, 9, 10, 11], [0, 1, 2, 3, 4, 5, 6, 7, 8, 9, 10, 11, 12], [0, 1, 2, 3, 4, 5, 6, 7, 8, 9, 10, 11, 12], [0, 1, 2, 3, 4, 5, 6, 7, 8, 9, 10, 11, 12, 14], [0, 1, 2, 3, 4, 5, 6, 7, 8, 9, 10, 11, 12, 13, 14, 15], [0, 1, 2, 3, 4, 5, 6, 7, 8, 9, 10, 11, 12], [0, 1, 2, 3, 4, 5, 6, 7, 8, 9, 10, 11, 12, 13, 14, 15, 16, 17], [0, 1, 2, 3, 4, 5, 6, 7, 8, 9, 10, 11, 12, 13, 14, 15, 16, 17, 18]] [[(1, 0, false)], [], [], [(0, 0, false)], [], [], [], [], [], [], [], [], [], [], [], [], [], [], [], []] [[], [], []] [[[(p648, .cells [.str ([] : List UInt8), .str ([] : List UInt8), .int .i64 0, .int .i64 0, .int .i64 0, .int .i64 0, .int .i64 (IntKind.wrap .i64 (out.tmod 200)), .int .i64 0, .int .i64 0, .int .i64 0, .int .i64 0, .int .i64 0, .int .i64 0, .int .i64 0])]], [[(p650, .cells [.int .i64 s1209.2.2.2.2.1, .int .i64 s1209.2.2.2.2.2.1, .str s1209.2.2.2.2.2.2.1, .sl .no 1 (s1209.2.2.2.2.2.2.2.1.map AV.str), .int .i64 s1209.2.2.2.2.2.2.2.2.1, .int .i64 s1209.2.2.2.2.2.2.2.2.2.1, .bool s1209.2.2.2.2.2.2.2.2.2.2.1, .int .i64 s1209.2.2.2.2.2.2.2.2.2.2.2.1, .int .i64 s1209.2.2.2.2.2.2.2.2.2.2.2.2.1, .int .i64 s1209.2.2.2.2.2.2.2.2.2.2.2.2.2.1, .sl .no 2 (s1209.2.2.2.2.2.2.2.2.2.2.2.2.2.2.1.map api.Held.av), .str s1209.2.2.2.2.2.2.2.2.2.2.2.2.2.2.2.1, .int .i64 s1209.2.2.2.2.2.2.2.2.2.2.2.2.2.2.2.2.1, .bool s1209.2.2.2.2.2.2.2.2.2.2.2.2.2.2.2.2.2.1, .bool s1209.2.2.2.2.2.2.2.2.2.2.2.2.2.2.2.2.2.2])]], [[(n1210, .spare)]]] [.agg [.int .i64 s1209.2.2.2.2.1, .int .i64 s1209.2.2.2.2.2.1, .str s1209.2.2.2.2.2.2.1, .sl .no 1 (s1209.2.2.2.2.2.2.2.1.map AV.str), .int .i64 s1209.2.2.2.2.2.2.2.2.1, .int .i64 s1209.2.2.2.2.2.2.2.2.2.1, .bool s1209.2.2.2.2.2.2.2.2.2.2.1, .int .i64 s1209.2.2.2.2.2.2.2.2.2.2.2.1, .int .i64 s1209.2.2.2.2.2.2.2.2.2.2.2.2.1, .int .i64 s1209.2.2.2.2.2.2.2.2.2.2.2.2.2.1, .sl .no 2 (s1209.2.2.2.2.2.2.2.2.2.2.2.2.2.2.1.map api.Held.av), .str s1209.2.2.2.2.2.2.2.2.2.2.2.2.2.2.2.1, .int .i64 s1209.2.2.2.2.2.2.2.2.2.2.2.2.2.2.2.2.1, .bool s1209.2.2.2.2.2.2.2.2.2.2.2.2.2.2.2.2.2.1, .bool s1209.2.2.2.2.2.2.2.2.2.2.2.2.2.2.2.2.2.2], .int .i64 r1241, .ptr p648 6, .int .i64 (IntKind.wrap .i64 (out.tmod 200)), .bool (decide ((IntKind.wrap .i64 (out.tmod 200)) < r1241)), .bool false, .str s1209.2.1, .int .i64 (s1209.2.1.length : Int), .str s1209.1, .int .i64 (s1209.1.length : Int), .bool (decide ((s1209.1.length : Int) < (s1209.2.1.length : Int))), .bool (decide ((s1209.1.length : Int) < (s1209.2.1.length : Int))), .bool false, .str s1209.1, .str s1209.2.1, .int .i64 (s1209.2.1.length : Int), .str (sub s1209.1 0 (s1209.2.1.length : Int)), .str s1209.2.1, .bool (!decide ((sub s1209.1 0 (s1209.2.1.length : Int)) = s1209.2.1)), .bool (!decide ((sub s1209.1 0 (s1209.2.1.length : Int)) = s1209.2.1))] (by decide +kernel) rfl rfl ?_ ?_
                · refine ⟨⟨[6], rfl, stepg_plain rfl (op_loadN (i := 0) rfl isAgg56 sizeOf56 (AEv.tmp rfl) rfl (Nat.le_of_ble_eq_true rfl) rfl ⟨rfl, rfl⟩)⟩, ?_⟩
                  refine ⟨⟨[81], rfl, stepg_plain rfl (op_call (vs := [.agg [.int .i64 s1209.2.2.2.2.1, .int .i64 s1209.2.2.2.2.2.1, .str s1209.2.2.2.2.2.2.1, .sl .no 1 (s1209.2.2.2.2.2.2.2.1.map AV.str), .int .i64 s1209.2.2.2.2.2.2.2.2.1, .int .i64 s1209.2.2.2.2.2.2.2.2.2.1, .bool s1209.2.2.2.2.2.2.2.2.2.2.1, .int .i64 s1209.2.2.2.2.2.2.2.2.2.2.2.1, .int .i64 s1209.2.2.2.2.2.2.2.2.2.2.2.2.1, .int .i64 s1209.2.2.2.2.2.2.2.2.2.2.2.2.2.1, .sl .no 2 (s1209.2.2.2.2.2.2.2.2.2.2.2.2.2.2.1.map api.Held.av), .str s1209.2.2.2.2.2.2.2.2.2.2.2.2.2.2.2.1, .int .i64 s1209.2.2.2.2.2.2.2.2.2.2.2.2.2.2.2.2.1, .bool s1209.2.2.2.2.2.2.2.2.2.2.2.2.2.2.2.2.2.1, .bool s1209.2.2.2.2.2.2.2.2.2.2.2.2.2.2.2.2.2.2]]) (H := []) rfl call30 ⟨(AEv.tmp rfl), trivial⟩ (R := []) (List.Perm.refl _) (conn.Pending.ok r1241e) (by rintro _ _ ⟨rfl, rfl⟩; exact ⟨rfl, rfl⟩))⟩, ?_⟩
                  refine ⟨⟨[5], rfl, stepg_pure rfl (pu_fieldAddr rfl underlying53 rfl sizeOf3 (by decide) (AEv.tmp rfl) rfl)⟩, ?_⟩
                  refine ⟨⟨[83], rfl, stepg_plain rfl (op_load1 (i := 0) rfl isAgg3 (AEv.tmp rfl) rfl rfl ⟨rfl, rfl⟩)⟩, ?_⟩
                  refine ⟨⟨[82, 84], rfl, stepg_pure rfl (pu_int (v := .bool (decide ((IntKind.wrap .i64 (out.tmod 200)) < r1241))) rfl rfl (AEv.tmp rfl) (AEv.tmp rfl) rfl)⟩, ?_⟩
                  refine ⟨⟨[85], rfl, (stepg_pure rfl (pu_move rfl (AEv.tmp rfl))).cast (congrArg AV.bool hb1242)⟩, ?_⟩
                  refine ⟨⟨[8, 86], rfl, stepg_guardP rfl rfl rfl (by decide) rfl (pu_move rfl (AEv.tmp rfl))⟩, ?_⟩
                  refine ⟨⟨[86, 87], rfl, stepg_guardP rfl rfl rfl (by decide) rfl (pu_strLen rfl underlying9 (AEv.tmp rfl))⟩, ?_⟩
                  refine ⟨⟨[7, 86], rfl, stepg_guardP rfl rfl rfl (by decide) rfl (pu_move rfl (AEv.tmp rfl))⟩, ?_⟩
                  refine ⟨⟨[86, 89], rfl, stepg_guardP rfl rfl rfl (by decide) rfl (pu_strLen rfl underlying9 (AEv.tmp rfl))⟩, ?_⟩
                  refine ⟨⟨[86, 88, 90], rfl, stepg_guardP rfl rfl rfl (by decide) rfl (pu_int (v := .bool (decide ((s1209.1.length : Int) < (s1209.2.1.length : Int)))) rfl rfl (AEv.tmp rfl) (AEv.tmp rfl) rfl)⟩, ?_⟩
                  refine ⟨⟨[86, 91], rfl, stepg_pure rfl (pu_pick (b := false) rfl (AEv.tmp rfl) (fun h => nomatch h) (fun _ => (AEv.tmp rfl)))⟩, ?_⟩
                  refine ⟨⟨[92], rfl, (stepg_pure rfl (pu_move rfl (AEv.tmp rfl))).cast (congrArg AV.bool hb1243)⟩, ?_⟩
                  refine ⟨⟨[7, 93], rfl, stepg_guardP rfl rfl rfl (by decide) rfl (pu_move rfl (AEv.tmp rfl))⟩, ?_⟩
                  refine ⟨⟨[8, 93], rfl, stepg_guardP rfl rfl rfl (by decide) rfl (pu_move rfl (AEv.tmp rfl))⟩, ?_⟩
                  refine ⟨⟨[93, 95], rfl, stepg_guardP rfl rfl rfl (by decide) rfl (pu_strLen rfl underlying9 (AEv.tmp rfl))⟩, ?_⟩
                  refine ⟨⟨[93, 94, 96], rfl, stepg_guardP rfl rfl rfl (by decide) rfl (pu_strSliceM rfl underlying9 (AEv.tmp rfl) rfl ⟨_, (AEv.tmp rfl)⟩ c1244)⟩, ?_⟩
                  refine ⟨⟨[8, 93], rfl, stepg_guardP rfl rfl rfl (by decide) rfl (pu_move rfl (AEv.tmp rfl))⟩, ?_⟩
                  refine ⟨⟨[93, 97, 98], rfl, stepg_guardP rfl rfl rfl (by decide) rfl (pu_str (v := .bool (!decide ((sub s1209.1 0 (s1209.2.1.length : Int)) = s1209.2.1))) rfl rfl (AEv.tmp rfl) (AEv.tmp rfl) rfl)⟩, ?_⟩
                  refine ⟨⟨[93, 99], rfl, stepg_pure rfl (pu_pick (b := false) rfl (AEv.tmp rfl) (fun h => nomatch h) (fun _ => (AEv.tmp rfl)))⟩, ?_⟩
                  trivial
                obtain rfl := some_of h
                exact ⟨(), Weak.mkL [0, 1, 2] (by decide) ⟨⟨_, rfl, (CellsLe.refl _), rfl⟩, ⟨_, rfl, (CellsLe.refl _), rfl⟩, ⟨_, rfl, rfl⟩, trivial⟩ ⟨AEv.tmp rfl, AEv.tmp rfl, AEv.tmp rfl, AEv.tmp rfl, AEv.tmp rfl, AEv.tmp rfl, AEv.tmp rfl, AEv.tmp rfl, AEv.tmp rfl, AEv.tmp rfl, trivial⟩⟩
          · intro _
            have h := h1239
            refine aw_cond (b := s1238) (AEv.tmp rfl) (fun hb1285 => ?_) (fun hb1285 => ?_)
            · replace h := ite_t hb1285 h
              refine aw_seq ?_
              refine aw_region ?_
              refine ap (.bool false) rfl rfl rfl (pu_assign rfl (AEv.bool _)) ?_
              refine aops_nil ?_
              refine aw_ret ?_
              obtain rfl := some_of h
              have h := congrArg some (hx1183 _ rfl)
              obtain rfl := some_of h
              have h := onSum_inr h969
              obtain rfl := some_of h
              exact ⟨[.bool false], _, [], ⟨(AEv.tmp rfl), trivial⟩, (AV.Le.refl _), Weak.mkL [] (by decide) trivial trivial, ⟨rfl, rfl⟩⟩
            · replace h := ite_fb hb1285 h
              refine aw_skip ?_
              refine aw_seq ?_
              refine aw_region ?_
              refine ap (.int .i64 0) rfl rfl rfl (pu_assign rfl (AEv.int _ _)) ?_
              refine aops_nil ?_
              obtain ⟨s1263, s1263e, h1264⟩ := bind_some h
              refine aw_meet (ν := Unit) (fun v => [(5, .ptr p648 0), (6, .ptr p650 0), (7, .str s1209.1), (8, .str s1209.2.1), (9, .int .i64 s1209.2.2.1), (10, .sl (.own n1210) 2 (s1209.2.2.2.1.map api.Held.av)), (15, .int .i64 s1263), (26, .sl .no 4 (l.map mewslaw43.Op.av)), (27, .int .i64 (l.length : Int)), (28, .int .i64 s1181.t28)]) (fun v => [(p648, .cells [.str ([] : List UInt8), .str ([] : List UInt8), .int .i64 0, .int .i64 0, .int .i64 0, .int .i64 0, .int .i64 (IntKind.wrap .i64 (out.tmod 200)), .int .i64 0, .int .i64 0, .int .i64 0, .int .i64 0, .int .i64 0, .int .i64 0, .int .i64 0]), (p650, .cells [.int .i64 s1209.2.2.2.2.1, .int .i64 s1209.2.2.2.2.2.1, .str s1209.2.2.2.2.2.2.1, .sl .no 1 (s1209.2.2.2.2.2.2.2.1.map AV.str), .int .i64 s1209.2.2.2.2.2.2.2.2.1, .int .i64 s1209.2.2.2.2.2.2.2.2.2.1, .bool s1209.2.2.2.2.2.2.2.2.2.2.1, .int .i64 s1209.2.2.2.2.2.2.2.2.2.2.2.1, .int .i64 s1209.2.2.2.2.2.2.2.2.2.2.2.2.1, .int .i64 s1209.2.2.2.2.2.2.2.2.2.2.2.2.2.1, .sl .no 2 (s1209.2.2.2.2.2.2.2.2.2.2.2.2.2.2.1.map api.Held.av), .str s1209.2.2.2.2.2.2.2.2.2.2.2.2.2.2.2.1, .int .i64 s1209.2.2.2.2.2.2.2.2.2.2.2.2.2.2.2.2.1, .bool s1209.2.2.2.2.2.2.2.2.2.2.2.2.2.2.2.2.2.1, .bool s1209.2.2.2.2.2.2.2.2.2.2.2.2.2.2.2.2.2.2]), (n1210, .spare)]) ?_ ?_
              · have h := s1263e
                refine aw_seq ?_
                refine aw_region ?_
                refine ap (.sl (.own n1210) 2 (s1209.2.2.2.1.map api.Held.av)) rfl rfl rfl (pu_move rfl (AEv.tmp rfl)) ?_
                refine ap (.int .i64 (s1209.2.2.2.1.length : Int)) rfl rfl rfl (pu_lenM rfl underlying54 (AEv.tmp rfl)) ?_
                refine ap (.int .i64 0) rfl rfl rfl (pu_move rfl (AEv.int _ _)) ?_
                refine aops_nil ?_
                refine aw_block ?_
                refine aw_while (σ := mewslaw43.ConnOrder.S3) (ν := Unit) (mewslaw43.ConnOrder.body3 s1209) (fun s1276 v => [(5, .ptr p648 0), (6, .ptr p650 0), (7, .str s1209.1), (8, .str s1209.2.1), (9, .int .i64 s1209.2.2.1), (10, .sl (.own n1210) 2 (s1209.2.2.2.1.map api.Held.av)), (15, .int .i64 s1276.safe), (26, .sl .no 4 (l.map mewslaw43.Op.av)), (27, .int .i64 (l.length : Int)), (28, .int .i64 s1181.t28), (101, .sl (.own n1210) 2 (s1209.2.2.2.1.map api.Held.av)), (102, .int .i64 (s1209.2.2.2.1.length : Int)), (103, .int .i64 s1276.t103)]) (fun s1276 v => [(p648, .cells [.str ([] : List UInt8), .str ([] : List UInt8), .int .i64 0, .int .i64 0, .int .i64 0, .int .i64 0, .int .i64 (IntKind.wrap .i64 (out.tmod 200)), .int .i64 0, .int .i64 0, .int .i64 0, .int .i64 0, .int .i64 0, .int .i64 0, .int .i64 0]), (p650, .cells [.int .i64 s1209.2.2.2.2.1, .int .i64 s1209.2.2.2.2.2.1, .str s1209.2.2.2.2.2.2.1, .sl .no 1 (s1209.2.2.2.2.2.2.2.1.map AV.str), .int .i64 s1209.2.2.2.2.2.2.2.2.1, .int .i64 s1209.2.2.2.2.2.2.2.2.2.1, .bool s1209.2.2.2.2.2.2.2.2.2.2.1, .int .i64 s1209.2.2.2.2.2.2.2.2.2.2.2.1, .int .i64 s1209.2.2.2.2.2.2.2.2.2.2.2.2.1, .int .i64 s1209.2.2.2.2.2.2.2.2.2.2.2.2.2.1, .sl .no 2 (s1209.2.2.2.2.2.2.2.2.2.2.2.2.2.2.1.map api.Held.av), .str s1209.2.2.2.2.2.2.2.2.2.2.2.2.2.2.2.1, .int .i64 s1209.2.2.2.2.2.2.2.2.2.2.2.2.2.2.2.2.1, .bool s1209.2.2.2.2.2.2.2.2.2.2.2.2.2.2.2.2.2.1, .bool s1209.2.2.2.2.2.2.2.2.2.2.2.2.2.2.2.2.2.2]), (n1210, .spare)]) ⟨0, 0⟩ () _ h (Weak.mkL [0, 1, 2] (by decide) ⟨⟨_, rfl, (CellsLe.refl _), rfl⟩, ⟨_, rfl, (CellsLe.refl _), rfl⟩, ⟨_, rfl, rfl⟩, trivial⟩ ⟨AEv.tmp rfl, AEv.tmp rfl, AEv.tmp rfl, AEv.tmp rfl, AEv.tmp rfl, AEv.tmp rfl, AEv.tmp rfl, AEv.tmp rfl, AEv.tmp rfl, AEv.tmp rfl, AEv.tmp rfl, AEv.tmp rfl, AEv.tmp rfl, trivial⟩) ?_
                rintro s1276 _ x1278 h hx1277
                unfold mewslaw43.ConnOrder.body3 at h
                refine aw_seq ?_
                refine aw_region ?_
                refine ap (.bool (decide (s1276.t103 < (s1209.2.2.2.1.length : Int)))) rfl rfl rfl (pu_int (v := .bool (decide (s1276.t103 < (s1209.2.2.2.1.length : Int)))) rfl rfl (AEv.tmp rfl) (AEv.tmp rfl) rfl) ?_
                refine aops_nil ?_
                refine aw_seq ?_
                refine aw_cond (b := decide (s1276.t103 < (s1209.2.2.2.1.length : Int))) (AEv.tmp rfl) (fun hb1283 => ?_) (fun hb1283 => ?_)
                · replace h := ite_t (dec_t hb1283) h
                  refine aw_skip ?_
                  refine aw_seq ?_
                  refine aw_block ?_
                  refine aw_seq ?_
                  refine aw_region ?_
                  obtain ⟨c1280, h⟩ := need_of h
                  refine ap (.vptr [.int .i64 (ix s1209.2.2.2.1 s1276.t103).Need, .str (ix s1209.2.2.2.1 s1276.t103).S]) rfl rfl rfl (pu_indexAddrM rfl underlying54 sizeOf61 (AEv.tmp rfl) (AEv.tmp rfl) c1280 rfl) ?_
                  refine ac rfl rfl rfl (op_loadVN rfl isAgg61 sizeOf61 (AEv.tmp rfl) (Nat.le_of_ble_eq_true rfl) rfl ?_)
                  refine ac rfl rfl rfl (op_alloc (cs := [.int .i64 0, .str ([] : List UInt8)]) (v := .agg [.int .i64 0, .str ([] : List UInt8)]) rfl zeroValue61 rfl rfl rfl ?_)
                  intro p1281
                  refine ac0 rfl rfl (op_store (i := 0) (cs' := [.int .i64 (ix s1209.2.2.2.1 s1276.t103).Need, .str (ix s1209.2.2.2.1 s1276.t103).S]) rfl sizeOf61 (AEv.tmp rfl) (v := .agg [.int .i64 (ix s1209.2.2.2.1 s1276.t103).Need, .str (ix s1209.2.2.2.1 s1276.t103).S]) (AEv.tmp rfl) rfl rfl rfl (Nat.le_of_ble_eq_true rfl) rfl ?_)
                  refine aops_nil ?_
                  refine aw_seq ?_
                  refine aw_seq ?_
                  refine aw_region ?_
                  refine ap (.ptr p1281 0) rfl rfl rfl (pu_fieldAddr rfl underlying61 rfl sizeOf3 (by decide) (AEv.tmp rfl) rfl) ?_
                  refine ac rfl rfl rfl (op_load1 (i := 0) rfl isAgg3 (AEv.tmp rfl) rfl rfl ?_)
                  refine ap (.int .i64 s1209.2.2.1) rfl rfl rfl (pu_move rfl (AEv.tmp rfl)) ?_
                  refine ap (.bool (decide (s1209.2.2.1 < (ix s1209.2.2.2.1 s1276.t103).Need))) rfl rfl rfl (pu_int (v := .bool (decide (s1209.2.2.1 < (ix s1209.2.2.2.1 s1276.t103).Need))) rfl rfl (AEv.tmp rfl) (AEv.tmp rfl) rfl) ?_
                  refine aops_nil ?_
                  refine aw_cond (b := decide (s1209.2.2.1 < (ix s1209.2.2.2.1 s1276.t103).Need)) (AEv.tmp rfl) (fun hb1282 => ?_) (fun hb1282 => ?_)
                  · replace h := ite_t (dec_t hb1282) h
                    refine aw_exit ?_
                    obtain rfl := some_of h
                    have h := congrArg some (hx1277 _ rfl)
                    obtain rfl := some_of h
                    exact ⟨(), Weak.mkL [1, 2, 3] (by decide) ⟨⟨_, rfl, (CellsLe.refl _), rfl⟩, ⟨_, rfl, (CellsLe.refl _), rfl⟩, ⟨_, rfl, rfl⟩, trivial⟩ ⟨AEv.tmp rfl, AEv.tmp rfl, AEv.tmp rfl, AEv.tmp rfl, AEv.tmp rfl, AEv.tmp rfl, AEv.tmp rfl, AEv.tmp rfl, AEv.tmp rfl, AEv.tmp rfl, trivial⟩⟩
                  · replace h := ite_f (dec_f hb1282) h
                    refine aw_skip ?_
                    refine aw_region ?_
                    refine ap (.int .i64 s1276.safe) rfl rfl rfl (pu_move rfl (AEv.tmp rfl)) ?_
                    refine ap (.ptr p1281 1) rfl rfl rfl (pu_fieldAddr rfl underlying61 rfl sizeOf9 (by decide) (AEv.tmp rfl) rfl) ?_
                    refine ac rfl rfl rfl (op_load1 (i := 0) rfl isAgg9 (AEv.tmp rfl) rfl rfl ?_)
                    refine ap (.int .i64 ((ix s1209.2.2.2.1 s1276.t103).S.length : Int)) rfl rfl rfl (pu_strLen rfl underlying9 (AEv.tmp rfl)) ?_
                    refine ap (.int .i64 (IntKind.wrap .i64 (s1276.safe + ((ix s1209.2.2.2.1 s1276.t103).S.length : Int)))) rfl rfl rfl (pu_int (v := .int .i64 (IntKind.wrap .i64 (s1276.safe + ((ix s1209.2.2.2.1 s1276.t103).S.length : Int)))) rfl rfl (AEv.tmp rfl) (AEv.tmp rfl) rfl) ?_
                    refine ap (.int .i64 (IntKind.wrap .i64 (s1276.safe + ((ix s1209.2.2.2.1 s1276.t103).S.length : Int)))) rfl rfl rfl (pu_assign rfl (AEv.tmp rfl)) ?_
                    refine aops_nil ?_
                    refine aw_region ?_
                    refine ap (.int .i64 (IntKind.wrap .i64 (s1276.t103 + 1))) rfl rfl rfl (pu_int (v := .int .i64 (IntKind.wrap .i64 (s1276.t103 + 1))) rfl rfl (AEv.tmp rfl) (AEv.int _ _) rfl) ?_
                    refine ap (.int .i64 (IntKind.wrap .i64 (s1276.t103 + 1))) rfl rfl rfl (pu_move rfl (AEv.tmp rfl)) ?_
                    refine aops_nil ?_
                    obtain rfl := some_of h
                    exact ⟨_, (), rfl, Weak.mkL [1, 2, 3] (by decide) ⟨⟨_, rfl, (CellsLe.refl _), rfl⟩, ⟨_, rfl, (CellsLe.refl _), rfl⟩, ⟨_, rfl, rfl⟩, trivial⟩ ⟨AEv.tmp rfl, AEv.tmp rfl, AEv.tmp rfl, AEv.tmp rfl, AEv.tmp rfl, AEv.tmp rfl, (AEv.le (AEv.tmp rfl) (AV.Le.refl _)), AEv.tmp rfl, AEv.tmp rfl, AEv.tmp rfl, AEv.tmp rfl, AEv.tmp rfl, (AEv.le (AEv.tmp rfl) (AV.Le.refl _)), trivial⟩⟩
                · replace h := ite_f (dec_f hb1283) h
                  refine aw_exit ?_
                  obtain rfl := some_of h
                  have h := congrArg some (hx1277 _ rfl)
                  obtain rfl := some_of h
                  exact ⟨(), Weak.mkL [0, 1, 2] (by decide) ⟨⟨_, rfl, (CellsLe.refl _), rfl⟩, ⟨_, rfl, (CellsLe.refl _), rfl⟩, ⟨_, rfl, rfl⟩, trivial⟩ ⟨AEv.tmp rfl, AEv.tmp rfl, AEv.tmp rfl, AEv.tmp rfl, AEv.tmp rfl, AEv.tmp rfl, AEv.tmp rfl, AEv.tmp rfl, AEv.tmp rfl, AEv.tmp rfl, trivial⟩⟩
              · intro _
                have h := h1264
                refine aw_seq ?_
                refine aw_region ?_
                refine ap (.str s1209.2.1) rfl rfl rfl (pu_move rfl (AEv.tmp rfl)) ?_
                refine ap (.int .i64 (s1209.2.1.length : Int)) rfl rfl rfl (pu_strLen rfl underlying9 (AEv.tmp rfl)) ?_
                refine ap (.ptr p650 11) rfl rfl rfl (pu_fieldAddr rfl underlying56 rfl sizeOf9 (by decide) (AEv.tmp rfl) rfl) ?_
                refine ac rfl rfl rfl (op_load1 (i := 1) rfl isAgg9 (AEv.tmp rfl) rfl rfl ?_)
                refine ap (.int .i64 (s1209.2.2.2.2.2.2.2.2.2.2.2.2.2.2.2.1.length : Int)) rfl rfl rfl (pu_strLen rfl underlying9 (AEv.tmp rfl)) ?_
                refine ap (.int .i64 (IntKind.wrap .i64 ((s1209.2.1.length : Int) + (s1209.2.2.2.2.2.2.2.2.2.2.2.2.2.2.2.1.length : Int)))) rfl rfl rfl (pu_int (v := .int .i64 (IntKind.wrap .i64 ((s1209.2.1.length : Int) + (s1209.2.2.2.2.2.2.2.2.2.2.2.2.2.2.2.1.length : Int)))) rfl rfl (AEv.tmp rfl) (AEv.tmp rfl) rfl) ?_
                refine ap (.int .i64 s1263) rfl rfl rfl (pu_move rfl (AEv.tmp rfl)) ?_
                refine ap (.bool (decide (s1263 < (IntKind.wrap .i64 ((s1209.2.1.length : Int) + (s1209.2.2.2.2.2.2.2.2.2.2.2.2.2.2.2.1.length : Int)))))) rfl rfl rfl (pu_int (v := .bool (decide (s1263 < (IntKind.wrap .i64 ((s1209.2.1.length : Int) + (s1209.2.2.2.2.2.2.2.2.2.2.2.2.2.2.2.1.length : Int)))))) rfl rfl (AEv.tmp rfl) (AEv.tmp rfl) rfl) ?_
                refine aops_nil ?_
                refine aw_cond (b := decide (s1263 < (IntKind.wrap .i64 ((s1209.2.1.length : Int) + (s1209.2.2.2.2.2.2.2.2.2.2.2.2.2.2.2.1.length : Int))))) (AEv.tmp rfl) (fun hb1284 => ?_) (fun hb1284 => ?_)
                · replace h := ite_t (dec_t hb1284) h
                  refine aw_seq ?_
                  refine aw_region ?_
                  refine ap (.bool false) rfl rfl rfl (pu_assign rfl (AEv.bool _)) ?_
                  refine aops_nil ?_
                  refine aw_ret ?_
                  obtain rfl := some_of h
                  have h := congrArg some (hx1183 _ rfl)
                  obtain rfl := some_of h
                  have h := onSum_inr h969
                  obtain rfl := some_of h
                  exact ⟨[.bool false], _, [], ⟨(AEv.tmp rfl), trivial⟩, (AV.Le.refl _), Weak.mkL [] (by decide) trivial trivial, ⟨rfl, rfl⟩⟩
                · replace h := ite_f (dec_f hb1284) h
                  refine aw_skip ?_
                  refine aw_region ?_
                  refine ap (.int .i64 (IntKind.wrap .i64 (s1181.t28 + 1))) rfl rfl rfl (pu_int (v := .int .i64 (IntKind.wrap .i64 (s1181.t28 + 1))) rfl rfl (AEv.tmp rfl) (AEv.int _ _) rfl) ?_
                  refine ap (.int .i64 (IntKind.wrap .i64 (s1181.t28 + 1))) rfl rfl rfl (pu_move rfl (AEv.tmp rfl)) ?_
                  refine aops_nil ?_
                  obtain rfl := some_of h
                  exact ⟨_, n1210, rfl, Weak.mkL [0, 1, 2] (by decide) ⟨⟨_, rfl, (CellsLe.refl _), rfl⟩, ⟨_, rfl, (CellsLe.refl _), rfl⟩, ⟨_, rfl, rfl⟩, trivial⟩ ⟨AEv.tmp rfl, AEv.tmp rfl, AEv.tmp rfl, AEv.tmp rfl, AEv.tmp rfl, AEv.tmp rfl, AEv.tmp rfl, AEv.tmp rfl, (AEv.le (AEv.tmp rfl) (AV.Le.refl _)), trivial⟩⟩
      · replace h := ite_f (dec_f hb1286) h
        refine aw_exit ?_
        obtain rfl := some_of h
        have h := congrArg some (hx1183 _ rfl)
        exact ⟨(), (), (some_of h).symm, Weak.mkL [] (by decide) trivial trivial⟩

end Go.Pu
