/- Printed by lift.py: the functions come to them. -/
import Derived.Test.YtbegfakopnaagaaHP
import Derived.Test.YtbegfakopnaagaaProg
set_option maxRecDepth 100000
set_option maxHeartbeats 0
namespace Go.Pu
open Go.Lift Go.Proofs.Try

theorem hash.size.ok {b : Int} {r : Int} (h : hash.size b = some r) : Go.Lift.Spec prog 65 [.int .i64 b] [] (fun v H => v = .int .i64 r ∧ H = []) := by
  unfold hash.size at h
  refine Go.Lift.Spec.of_body (rs := [.tmp 2]) func65 rfl rfl (Nat.le_of_ble_eq_true rfl) rfl ?_
  refine aw_seq ?_
  refine aw_region ?_
  refine ap (.int .i64 0) rfl rfl rfl (pu_assign rfl (AEv.int _ _)) ?_
  refine aops_nil ?_
  refine aw_seq ?_
  refine aw_region ?_
  refine ap (.int .i64 b) rfl rfl rfl (pu_move rfl (AEv.tmp rfl)) ?_
  refine ap (.int .i64 (if b < 0 then 0 else b)) rfl rfl rfl (pu_max2 rfl (AEv.tmp rfl) (AEv.int _ _)) ?_
  refine ap (.int .i64 (if 16 < (if b < 0 then 0 else b) then 16 else (if b < 0 then 0 else b))) rfl rfl rfl (pu_min2 rfl (AEv.tmp rfl) (AEv.int _ _)) ?_
  refine ap (.int .i64 (if 16 < (if b < 0 then 0 else b) then 16 else (if b < 0 then 0 else b))) rfl rfl rfl (pu_assign rfl (AEv.tmp rfl)) ?_
  refine aops_nil ?_
  refine aw_ret ?_
  obtain rfl := some_of h
  exact ⟨[.int .i64 (if 16 < (if b < 0 then 0 else b) then 16 else (if b < 0 then 0 else b))], _, [], ⟨(AEv.tmp rfl), trivial⟩, (AV.Le.refl _), Weak.mkL [] (by decide) trivial trivial, ⟨rfl, rfl⟩⟩

theorem hash.low.ok {n_ : Int} {b : Int} {r : Int} (h : hash.low n_ b = some r) : Go.Lift.Spec prog 67 [.int .u64 n_, .int .i64 b] [] (fun v H => v = .int .u64 r ∧ H = []) := by
  unfold hash.low at h
  refine Go.Lift.Spec.of_body (rs := [.tmp 4]) func67 rfl rfl (Nat.le_of_ble_eq_true rfl) rfl ?_
  refine aw_seq ?_
  refine aw_region ?_
  refine ap (.int .u64 0) rfl rfl rfl (pu_assign rfl (AEv.int _ _)) ?_
  refine aops_nil ?_
  refine aw_seq ?_
  refine aw_region ?_
  refine ap (.int .u64 n_) rfl rfl rfl (pu_move rfl (AEv.tmp rfl)) ?_
  refine ap (.int .i64 b) rfl rfl rfl (pu_move rfl (AEv.tmp rfl)) ?_
  obtain ⟨r3, r3e, h⟩ := bind_some h
  refine ac rfl rfl rfl (op_call (vs := [.int .i64 b]) (H := []) rfl call65 ⟨(AEv.tmp rfl), trivial⟩ (List.Perm.refl _) (hash.size.ok r3e) ?_)
  rintro _ _ ⟨rfl, rfl⟩
  obtain ⟨c4, h⟩ := need_of h
  refine ap (.int .u64 (IntKind.wrap .u64 (1 * 2 ^ min (Int.toNat r3) (IntKind.bits .u64)))) rfl rfl rfl (pu_shl rfl (AEv.int _ _) (AEv.tmp rfl) c4) ?_
  refine ap (.int .u64 (IntKind.wrap .u64 ((IntKind.wrap .u64 (1 * 2 ^ min (Int.toNat r3) (IntKind.bits .u64))) - 1))) rfl rfl rfl (pu_int (v := .int .u64 (IntKind.wrap .u64 ((IntKind.wrap .u64 (1 * 2 ^ min (Int.toNat r3) (IntKind.bits .u64))) - 1))) rfl rfl (AEv.tmp rfl) (AEv.int _ _) rfl) ?_
  refine ap (.int .u64 (Go.bits .and .u64 n_ (IntKind.wrap .u64 ((IntKind.wrap .u64 (1 * 2 ^ min (Int.toNat r3) (IntKind.bits .u64))) - 1)))) rfl rfl rfl (pu_int (v := .int .u64 (Go.bits .and .u64 n_ (IntKind.wrap .u64 ((IntKind.wrap .u64 (1 * 2 ^ min (Int.toNat r3) (IntKind.bits .u64))) - 1)))) rfl rfl (AEv.tmp rfl) (AEv.tmp rfl) rfl) ?_
  refine ap (.int .u64 (Go.bits .and .u64 n_ (IntKind.wrap .u64 ((IntKind.wrap .u64 (1 * 2 ^ min (Int.toNat r3) (IntKind.bits .u64))) - 1)))) rfl rfl rfl (pu_assign rfl (AEv.tmp rfl)) ?_
  refine aops_nil ?_
  refine aw_ret ?_
  obtain rfl := some_of h
  exact ⟨[.int .u64 (Go.bits .and .u64 n_ (IntKind.wrap .u64 ((IntKind.wrap .u64 (1 * 2 ^ min (Int.toNat r3) (IntKind.bits .u64))) - 1)))], _, [], ⟨(AEv.tmp rfl), trivial⟩, (AV.Le.refl _), Weak.mkL [] (by decide) trivial trivial, ⟨rfl, rfl⟩⟩

theorem bits.ReverseBytes64.ok {x_ : Int} {r : Int} (h : bits.ReverseBytes64 x_ = some r) : Go.Lift.Spec prog 86 [.int .u64 x_] [] (fun v H => v = .int .u64 r ∧ H = []) := by
  unfold bits.ReverseBytes64 at h
  refine Go.Lift.Spec.of_body (rs := [.tmp 2]) func86 rfl rfl (Nat.le_of_ble_eq_true rfl) rfl ?_
  refine aw_seq ?_
  refine aw_region ?_
  refine ap (.int .u64 0) rfl rfl rfl (pu_assign rfl (AEv.int _ _)) ?_
  refine aops_nil ?_
  refine aw_seq ?_
  refine aw_region ?_
  refine ap (.int .u64 x_) rfl rfl rfl (pu_move rfl (AEv.tmp rfl)) ?_
  refine ap (.int .u64 (x_ / 2 ^ min (Int.toNat 8) (IntKind.bits .u64))) rfl rfl rfl (pu_shr rfl (AEv.tmp rfl) (AEv.int _ _) (by decide)) ?_
  refine ap (.int .u64 (Go.bits .and .u64 (x_ / 2 ^ min (Int.toNat 8) (IntKind.bits .u64)) 71777214294589695)) rfl rfl rfl (pu_int (v := .int .u64 (Go.bits .and .u64 (x_ / 2 ^ min (Int.toNat 8) (IntKind.bits .u64)) 71777214294589695)) rfl rfl (AEv.tmp rfl) (AEv.int _ _) rfl) ?_
  refine ap (.int .u64 x_) rfl rfl rfl (pu_move rfl (AEv.tmp rfl)) ?_
  refine ap (.int .u64 (Go.bits .and .u64 x_ 71777214294589695)) rfl rfl rfl (pu_int (v := .int .u64 (Go.bits .and .u64 x_ 71777214294589695)) rfl rfl (AEv.tmp rfl) (AEv.int _ _) rfl) ?_
  refine ap (.int .u64 (IntKind.wrap .u64 ((Go.bits .and .u64 x_ 71777214294589695) * 2 ^ min (Int.toNat 8) (IntKind.bits .u64)))) rfl rfl rfl (pu_shl rfl (AEv.tmp rfl) (AEv.int _ _) (by decide)) ?_
  obtain ⟨x4, x4e, h⟩ := letO_of h
  refine ap (.int .u64 x4) rfl rfl rfl ((pu_int (v := .int .u64 (Go.bits .or .u64 (Go.bits .and .u64 (x_ / 2 ^ min (Int.toNat 8) (IntKind.bits .u64)) 71777214294589695) (IntKind.wrap .u64 ((Go.bits .and .u64 x_ 71777214294589695) * 2 ^ min (Int.toNat 8) (IntKind.bits .u64))))) rfl rfl (AEv.tmp rfl) (AEv.tmp rfl) rfl).eq (congrArg (AV.int .u64) x4e.symm)) ?_
  refine ap (.int .u64 x4) rfl rfl rfl (pu_assign rfl (AEv.tmp rfl)) ?_
  refine aops_nil ?_
  refine aw_seq ?_
  refine aw_region ?_
  refine ap (.int .u64 x4) rfl rfl rfl (pu_move rfl (AEv.tmp rfl)) ?_
  refine ap (.int .u64 (x4 / 2 ^ min (Int.toNat 16) (IntKind.bits .u64))) rfl rfl rfl (pu_shr rfl (AEv.tmp rfl) (AEv.int _ _) (by decide)) ?_
  refine ap (.int .u64 (Go.bits .and .u64 (x4 / 2 ^ min (Int.toNat 16) (IntKind.bits .u64)) 281470681808895)) rfl rfl rfl (pu_int (v := .int .u64 (Go.bits .and .u64 (x4 / 2 ^ min (Int.toNat 16) (IntKind.bits .u64)) 281470681808895)) rfl rfl (AEv.tmp rfl) (AEv.int _ _) rfl) ?_
  refine ap (.int .u64 x4) rfl rfl rfl (pu_move rfl (AEv.tmp rfl)) ?_
  refine ap (.int .u64 (Go.bits .and .u64 x4 281470681808895)) rfl rfl rfl (pu_int (v := .int .u64 (Go.bits .and .u64 x4 281470681808895)) rfl rfl (AEv.tmp rfl) (AEv.int _ _) rfl) ?_
  refine ap (.int .u64 (IntKind.wrap .u64 ((Go.bits .and .u64 x4 281470681808895) * 2 ^ min (Int.toNat 16) (IntKind.bits .u64)))) rfl rfl rfl (pu_shl rfl (AEv.tmp rfl) (AEv.int _ _) (by decide)) ?_
  obtain ⟨x5, x5e, h⟩ := letO_of h
  refine ap (.int .u64 x5) rfl rfl rfl ((pu_int (v := .int .u64 (Go.bits .or .u64 (Go.bits .and .u64 (x4 / 2 ^ min (Int.toNat 16) (IntKind.bits .u64)) 281470681808895) (IntKind.wrap .u64 ((Go.bits .and .u64 x4 281470681808895) * 2 ^ min (Int.toNat 16) (IntKind.bits .u64))))) rfl rfl (AEv.tmp rfl) (AEv.tmp rfl) rfl).eq (congrArg (AV.int .u64) x5e.symm)) ?_
  refine ap (.int .u64 x5) rfl rfl rfl (pu_assign rfl (AEv.tmp rfl)) ?_
  refine aops_nil ?_
  refine aw_seq ?_
  refine aw_region ?_
  refine ap (.int .u64 x5) rfl rfl rfl (pu_move rfl (AEv.tmp rfl)) ?_
  refine ap (.int .u64 (x5 / 2 ^ min (Int.toNat 32) (IntKind.bits .u64))) rfl rfl rfl (pu_shr rfl (AEv.tmp rfl) (AEv.int _ _) (by decide)) ?_
  refine ap (.int .u64 x5) rfl rfl rfl (pu_move rfl (AEv.tmp rfl)) ?_
  refine ap (.int .u64 (IntKind.wrap .u64 (x5 * 2 ^ min (Int.toNat 32) (IntKind.bits .u64)))) rfl rfl rfl (pu_shl rfl (AEv.tmp rfl) (AEv.int _ _) (by decide)) ?_
  obtain ⟨x6, x6e, h⟩ := letO_of h
  refine ap (.int .u64 x6) rfl rfl rfl ((pu_int (v := .int .u64 (Go.bits .or .u64 (x5 / 2 ^ min (Int.toNat 32) (IntKind.bits .u64)) (IntKind.wrap .u64 (x5 * 2 ^ min (Int.toNat 32) (IntKind.bits .u64))))) rfl rfl (AEv.tmp rfl) (AEv.tmp rfl) rfl).eq (congrArg (AV.int .u64) x6e.symm)) ?_
  refine ap (.int .u64 x6) rfl rfl rfl (pu_assign rfl (AEv.tmp rfl)) ?_
  refine aops_nil ?_
  refine aw_ret ?_
  obtain rfl := some_of h
  exact ⟨[.int .u64 x6], _, [], ⟨(AEv.tmp rfl), trivial⟩, (AV.Le.refl _), Weak.mkL [] (by decide) trivial trivial, ⟨rfl, rfl⟩⟩

theorem bits.Reverse64.ok {x_ : Int} {r : Int} (h : bits.Reverse64 x_ = some r) : Go.Lift.Spec prog 66 [.int .u64 x_] [] (fun v H => v = .int .u64 r ∧ H = []) := by
  unfold bits.Reverse64 at h
  refine Go.Lift.Spec.of_body (rs := [.tmp 2]) func66 rfl rfl (Nat.le_of_ble_eq_true rfl) rfl ?_
  refine aw_seq ?_
  refine aw_region ?_
  refine ap (.int .u64 0) rfl rfl rfl (pu_assign rfl (AEv.int _ _)) ?_
  refine aops_nil ?_
  refine aw_seq ?_
  refine aw_region ?_
  refine ap (.int .u64 x_) rfl rfl rfl (pu_move rfl (AEv.tmp rfl)) ?_
  refine ap (.int .u64 (x_ / 2 ^ min (Int.toNat 1) (IntKind.bits .u64))) rfl rfl rfl (pu_shr rfl (AEv.tmp rfl) (AEv.int _ _) (by decide)) ?_
  refine ap (.int .u64 (Go.bits .and .u64 (x_ / 2 ^ min (Int.toNat 1) (IntKind.bits .u64)) 6148914691236517205)) rfl rfl rfl (pu_int (v := .int .u64 (Go.bits .and .u64 (x_ / 2 ^ min (Int.toNat 1) (IntKind.bits .u64)) 6148914691236517205)) rfl rfl (AEv.tmp rfl) (AEv.int _ _) rfl) ?_
  refine ap (.int .u64 x_) rfl rfl rfl (pu_move rfl (AEv.tmp rfl)) ?_
  refine ap (.int .u64 (Go.bits .and .u64 x_ 6148914691236517205)) rfl rfl rfl (pu_int (v := .int .u64 (Go.bits .and .u64 x_ 6148914691236517205)) rfl rfl (AEv.tmp rfl) (AEv.int _ _) rfl) ?_
  refine ap (.int .u64 (IntKind.wrap .u64 ((Go.bits .and .u64 x_ 6148914691236517205) * 2 ^ min (Int.toNat 1) (IntKind.bits .u64)))) rfl rfl rfl (pu_shl rfl (AEv.tmp rfl) (AEv.int _ _) (by decide)) ?_
  obtain ⟨x5, x5e, h⟩ := letO_of h
  refine ap (.int .u64 x5) rfl rfl rfl ((pu_int (v := .int .u64 (Go.bits .or .u64 (Go.bits .and .u64 (x_ / 2 ^ min (Int.toNat 1) (IntKind.bits .u64)) 6148914691236517205) (IntKind.wrap .u64 ((Go.bits .and .u64 x_ 6148914691236517205) * 2 ^ min (Int.toNat 1) (IntKind.bits .u64))))) rfl rfl (AEv.tmp rfl) (AEv.tmp rfl) rfl).eq (congrArg (AV.int .u64) x5e.symm)) ?_
  refine ap (.int .u64 x5) rfl rfl rfl (pu_assign rfl (AEv.tmp rfl)) ?_
  refine aops_nil ?_
  refine aw_seq ?_
  refine aw_region ?_
  refine ap (.int .u64 x5) rfl rfl rfl (pu_move rfl (AEv.tmp rfl)) ?_
  refine ap (.int .u64 (x5 / 2 ^ min (Int.toNat 2) (IntKind.bits .u64))) rfl rfl rfl (pu_shr rfl (AEv.tmp rfl) (AEv.int _ _) (by decide)) ?_
  refine ap (.int .u64 (Go.bits .and .u64 (x5 / 2 ^ min (Int.toNat 2) (IntKind.bits .u64)) 3689348814741910323)) rfl rfl rfl (pu_int (v := .int .u64 (Go.bits .and .u64 (x5 / 2 ^ min (Int.toNat 2) (IntKind.bits .u64)) 3689348814741910323)) rfl rfl (AEv.tmp rfl) (AEv.int _ _) rfl) ?_
  refine ap (.int .u64 x5) rfl rfl rfl (pu_move rfl (AEv.tmp rfl)) ?_
  refine ap (.int .u64 (Go.bits .and .u64 x5 3689348814741910323)) rfl rfl rfl (pu_int (v := .int .u64 (Go.bits .and .u64 x5 3689348814741910323)) rfl rfl (AEv.tmp rfl) (AEv.int _ _) rfl) ?_
  refine ap (.int .u64 (IntKind.wrap .u64 ((Go.bits .and .u64 x5 3689348814741910323) * 2 ^ min (Int.toNat 2) (IntKind.bits .u64)))) rfl rfl rfl (pu_shl rfl (AEv.tmp rfl) (AEv.int _ _) (by decide)) ?_
  obtain ⟨x6, x6e, h⟩ := letO_of h
  refine ap (.int .u64 x6) rfl rfl rfl ((pu_int (v := .int .u64 (Go.bits .or .u64 (Go.bits .and .u64 (x5 / 2 ^ min (Int.toNat 2) (IntKind.bits .u64)) 3689348814741910323) (IntKind.wrap .u64 ((Go.bits .and .u64 x5 3689348814741910323) * 2 ^ min (Int.toNat 2) (IntKind.bits .u64))))) rfl rfl (AEv.tmp rfl) (AEv.tmp rfl) rfl).eq (congrArg (AV.int .u64) x6e.symm)) ?_
  refine ap (.int .u64 x6) rfl rfl rfl (pu_assign rfl (AEv.tmp rfl)) ?_
  refine aops_nil ?_
  refine aw_seq ?_
  refine aw_region ?_
  refine ap (.int .u64 x6) rfl rfl rfl (pu_move rfl (AEv.tmp rfl)) ?_
  refine ap (.int .u64 (x6 / 2 ^ min (Int.toNat 4) (IntKind.bits .u64))) rfl rfl rfl (pu_shr rfl (AEv.tmp rfl) (AEv.int _ _) (by decide)) ?_
  refine ap (.int .u64 (Go.bits .and .u64 (x6 / 2 ^ min (Int.toNat 4) (IntKind.bits .u64)) 1085102592571150095)) rfl rfl rfl (pu_int (v := .int .u64 (Go.bits .and .u64 (x6 / 2 ^ min (Int.toNat 4) (IntKind.bits .u64)) 1085102592571150095)) rfl rfl (AEv.tmp rfl) (AEv.int _ _) rfl) ?_
  refine ap (.int .u64 x6) rfl rfl rfl (pu_move rfl (AEv.tmp rfl)) ?_
  refine ap (.int .u64 (Go.bits .and .u64 x6 1085102592571150095)) rfl rfl rfl (pu_int (v := .int .u64 (Go.bits .and .u64 x6 1085102592571150095)) rfl rfl (AEv.tmp rfl) (AEv.int _ _) rfl) ?_
  refine ap (.int .u64 (IntKind.wrap .u64 ((Go.bits .and .u64 x6 1085102592571150095) * 2 ^ min (Int.toNat 4) (IntKind.bits .u64)))) rfl rfl rfl (pu_shl rfl (AEv.tmp rfl) (AEv.int _ _) (by decide)) ?_
  obtain ⟨x7, x7e, h⟩ := letO_of h
  refine ap (.int .u64 x7) rfl rfl rfl ((pu_int (v := .int .u64 (Go.bits .or .u64 (Go.bits .and .u64 (x6 / 2 ^ min (Int.toNat 4) (IntKind.bits .u64)) 1085102592571150095) (IntKind.wrap .u64 ((Go.bits .and .u64 x6 1085102592571150095) * 2 ^ min (Int.toNat 4) (IntKind.bits .u64))))) rfl rfl (AEv.tmp rfl) (AEv.tmp rfl) rfl).eq (congrArg (AV.int .u64) x7e.symm)) ?_
  refine ap (.int .u64 x7) rfl rfl rfl (pu_assign rfl (AEv.tmp rfl)) ?_
  refine aops_nil ?_
  refine aw_seq ?_
  refine aw_region ?_
  refine ap (.int .u64 x7) rfl rfl rfl (pu_move rfl (AEv.tmp rfl)) ?_
  obtain ⟨r8, r8e, h⟩ := bind_some h
  refine ac rfl rfl rfl (op_call (vs := [.int .u64 x7]) (H := []) rfl call86 ⟨(AEv.tmp rfl), trivial⟩ (List.Perm.refl _) (bits.ReverseBytes64.ok r8e) ?_)
  rintro _ _ ⟨rfl, rfl⟩
  refine ap (.int .u64 r8) rfl rfl rfl (pu_assign rfl (AEv.tmp rfl)) ?_
  refine aops_nil ?_
  refine aw_ret ?_
  obtain rfl := some_of h
  exact ⟨[.int .u64 r8], _, [], ⟨(AEv.tmp rfl), trivial⟩, (AV.Le.refl _), Weak.mkL [] (by decide) trivial trivial, ⟨rfl, rfl⟩⟩

theorem hash.Turn.ok {n_ : Int} {b : Int} {r : Int} (h : hash.Turn n_ b = some r) : Go.Lift.Spec prog 16 [.int .u64 n_, .int .i64 b] [] (fun v H => v = .int .u64 r ∧ H = []) := by
  unfold hash.Turn at h
  refine Go.Lift.Spec.of_body (rs := [.tmp 4]) func16 rfl rfl (Nat.le_of_ble_eq_true rfl) rfl ?_
  refine aw_seq ?_
  refine aw_region ?_
  refine ap (.int .u64 0) rfl rfl rfl (pu_assign rfl (AEv.int _ _)) ?_
  refine aops_nil ?_
  refine aw_seq ?_
  refine aw_seq ?_
  refine aw_region ?_
  refine ap (.int .i64 b) rfl rfl rfl (pu_move rfl (AEv.tmp rfl)) ?_
  obtain ⟨r7, r7e, h⟩ := bind_some h
  refine ac rfl rfl rfl (op_call (vs := [.int .i64 b]) (H := []) rfl call65 ⟨(AEv.tmp rfl), trivial⟩ (List.Perm.refl _) (hash.size.ok r7e) ?_)
  rintro _ _ ⟨rfl, rfl⟩
  refine ap (.bool (decide (r7 = 0))) rfl rfl rfl (pu_int (v := .bool (decide (r7 = 0))) rfl rfl (AEv.tmp rfl) (AEv.int _ _) rfl) ?_
  refine aops_nil ?_
  refine aw_cond (b := decide (r7 = 0)) (AEv.tmp rfl) (fun hb12 => ?_) (fun hb12 => ?_)
  · replace h := ite_t (dec_t hb12) h
    refine aw_seq ?_
    refine aw_region ?_
    refine ap (.int .u64 0) rfl rfl rfl (pu_assign rfl (AEv.int _ _)) ?_
    refine aops_nil ?_
    refine aw_ret ?_
    obtain rfl := some_of h
    exact ⟨[.int .u64 0], _, [], ⟨(AEv.tmp rfl), trivial⟩, (AV.Le.refl _), Weak.mkL [] (by decide) trivial trivial, ⟨rfl, rfl⟩⟩
  · replace h := ite_f (dec_f hb12) h
    refine aw_skip ?_
    refine aw_seq ?_
    refine aw_region ?_
    refine ap (.int .u64 n_) rfl rfl rfl (pu_move rfl (AEv.tmp rfl)) ?_
    refine ap (.int .i64 b) rfl rfl rfl (pu_move rfl (AEv.tmp rfl)) ?_
    obtain ⟨r8, r8e, h⟩ := bind_some h
    refine ac rfl rfl rfl (op_call (vs := [.int .u64 n_, .int .i64 b]) (H := []) rfl call67 ⟨(AEv.tmp rfl), (AEv.tmp rfl), trivial⟩ (List.Perm.refl _) (hash.low.ok r8e) ?_)
    rintro _ _ ⟨rfl, rfl⟩
    obtain ⟨r9, r9e, h⟩ := bind_some h
    refine ac rfl rfl rfl (op_call (vs := [.int .u64 r8]) (H := []) rfl call66 ⟨(AEv.tmp rfl), trivial⟩ (List.Perm.refl _) (bits.Reverse64.ok r9e) ?_)
    rintro _ _ ⟨rfl, rfl⟩
    refine ap (.int .i64 b) rfl rfl rfl (pu_move rfl (AEv.tmp rfl)) ?_
    obtain ⟨r10, r10e, h⟩ := bind_some h
    refine ac rfl rfl rfl (op_call (vs := [.int .i64 b]) (H := []) rfl call65 ⟨(AEv.tmp rfl), trivial⟩ (List.Perm.refl _) (hash.size.ok r10e) ?_)
    rintro _ _ ⟨rfl, rfl⟩
    refine ap (.int .i64 (IntKind.wrap .i64 (64 - r10))) rfl rfl rfl (pu_int (v := .int .i64 (IntKind.wrap .i64 (64 - r10))) rfl rfl (AEv.int _ _) (AEv.tmp rfl) rfl) ?_
    obtain ⟨c11, h⟩ := need_of h
    refine ap (.int .u64 (r9 / 2 ^ min (Int.toNat (IntKind.wrap .i64 (64 - r10))) (IntKind.bits .u64))) rfl rfl rfl (pu_shr rfl (AEv.tmp rfl) (AEv.tmp rfl) c11) ?_
    refine ap (.int .u64 (r9 / 2 ^ min (Int.toNat (IntKind.wrap .i64 (64 - r10))) (IntKind.bits .u64))) rfl rfl rfl (pu_assign rfl (AEv.tmp rfl)) ?_
    refine aops_nil ?_
    refine aw_ret ?_
    obtain rfl := some_of h
    exact ⟨[.int .u64 (r9 / 2 ^ min (Int.toNat (IntKind.wrap .i64 (64 - r10))) (IntKind.bits .u64))], _, [], ⟨(AEv.tmp rfl), trivial⟩, (AV.Le.refl _), Weak.mkL [] (by decide) trivial trivial, ⟨rfl, rfl⟩⟩

theorem mewsref06.Size.ok {b : Int} {r : Int} (h : mewsref06.Size b = some r) : Go.Lift.Spec prog 68 [.int .i64 b] [] (fun v H => v = .int .i64 r ∧ H = []) := by
  unfold mewsref06.Size at h
  refine Go.Lift.Spec.of_body (rs := [.tmp 2]) func68 rfl rfl (Nat.le_of_ble_eq_true rfl) rfl ?_
  refine aw_seq ?_
  refine aw_region ?_
  refine ap (.int .i64 0) rfl rfl rfl (pu_assign rfl (AEv.int _ _)) ?_
  refine aops_nil ?_
  refine aw_seq ?_
  refine aw_seq ?_
  refine aw_region ?_
  refine ap (.int .i64 b) rfl rfl rfl (pu_move rfl (AEv.tmp rfl)) ?_
  refine ap (.bool (decide (b < 0))) rfl rfl rfl (pu_int (v := .bool (decide (b < 0))) rfl rfl (AEv.tmp rfl) (AEv.int _ _) rfl) ?_
  refine aops_nil ?_
  refine aw_cond (b := decide (b < 0)) (AEv.tmp rfl) (fun hb4 => ?_) (fun hb4 => ?_)
  · replace h := ite_t (dec_t hb4) h
    refine aw_seq ?_
    refine aw_region ?_
    refine ap (.int .i64 0) rfl rfl rfl (pu_assign rfl (AEv.int _ _)) ?_
    refine aops_nil ?_
    refine aw_ret ?_
    obtain rfl := some_of h
    exact ⟨[.int .i64 0], _, [], ⟨(AEv.tmp rfl), trivial⟩, (AV.Le.refl _), Weak.mkL [] (by decide) trivial trivial, ⟨rfl, rfl⟩⟩
  · replace h := ite_f (dec_f hb4) h
    refine aw_skip ?_
    refine aw_seq ?_
    refine aw_seq ?_
    refine aw_region ?_
    refine ap (.int .i64 b) rfl rfl rfl (pu_move rfl (AEv.tmp rfl)) ?_
    refine ap (.bool (decide (16 < b))) rfl rfl rfl (pu_int (v := .bool (decide (16 < b))) rfl rfl (AEv.tmp rfl) (AEv.int _ _) rfl) ?_
    refine aops_nil ?_
    refine aw_cond (b := decide (16 < b)) (AEv.tmp rfl) (fun hb3 => ?_) (fun hb3 => ?_)
    · replace h := ite_t (dec_t hb3) h
      refine aw_seq ?_
      refine aw_region ?_
      refine ap (.int .i64 16) rfl rfl rfl (pu_assign rfl (AEv.int _ _)) ?_
      refine aops_nil ?_
      refine aw_ret ?_
      obtain rfl := some_of h
      exact ⟨[.int .i64 16], _, [], ⟨(AEv.tmp rfl), trivial⟩, (AV.Le.refl _), Weak.mkL [] (by decide) trivial trivial, ⟨rfl, rfl⟩⟩
    · replace h := ite_f (dec_f hb3) h
      refine aw_skip ?_
      refine aw_seq ?_
      refine aw_region ?_
      refine ap (.int .i64 b) rfl rfl rfl (pu_move rfl (AEv.tmp rfl)) ?_
      refine ap (.int .i64 b) rfl rfl rfl (pu_assign rfl (AEv.tmp rfl)) ?_
      refine aops_nil ?_
      refine aw_ret ?_
      obtain rfl := some_of h
      exact ⟨[.int .i64 b], _, [], ⟨(AEv.tmp rfl), trivial⟩, (AV.Le.refl _), Weak.mkL [] (by decide) trivial trivial, ⟨rfl, rfl⟩⟩

theorem mewsref06.Turn.ok {n_ : Int} {b : Int} {r : Int} (h : mewsref06.Turn n_ b = some r) : Go.Lift.Spec prog 17 [.int .u64 n_, .int .i64 b] [] (fun v H => v = .int .u64 r ∧ H = []) := by
  unfold mewsref06.Turn at h
  refine Go.Lift.Spec.of_body (rs := [.tmp 4]) func17 rfl rfl (Nat.le_of_ble_eq_true rfl) rfl ?_
  refine aw_seq ?_
  refine aw_region ?_
  refine ap (.int .u64 0) rfl rfl rfl (pu_assign rfl (AEv.int _ _)) ?_
  refine aops_nil ?_
  refine aw_seq ?_
  refine aw_region ?_
  refine ap (.int .u64 0) rfl rfl rfl (pu_assign rfl (AEv.int _ _)) ?_
  refine aops_nil ?_
  obtain ⟨s36, s36e, h37⟩ := bind_some h
  refine aw_meet (ν := Unit) (fun v => [(5, .int .u64 s36)]) (fun v => []) ?_ ?_
  · have h := s36e
    refine aw_seq ?_
    refine aw_region ?_
    refine ap (.int .i64 0) rfl rfl rfl (pu_assign rfl (AEv.int _ _)) ?_
    refine aops_nil ?_
    refine aw_block ?_
    refine aw_while (σ := mewsref06.Turn.S0) (ν := Unit) (mewsref06.Turn.body0 b) (fun s44 v => [(0, .int .u64 s44.n), (1, .int .i64 b), (5, .int .u64 s44.out), (6, .int .i64 s44.i)]) (fun s44 v => []) ⟨n_, 0, 0⟩ () _ h (Weak.mkL [] (by decide) trivial ⟨AEv.tmp rfl, AEv.tmp rfl, AEv.tmp rfl, AEv.tmp rfl, trivial⟩) ?_
    rintro s44 _ x46 h hx45
    unfold mewsref06.Turn.body0 at h
    refine aw_seq ?_
    refine aw_seq ?_
    refine aw_region ?_
    refine ap (.int .i64 s44.i) rfl rfl rfl (pu_move rfl (AEv.tmp rfl)) ?_
    refine ap (.int .i64 b) rfl rfl rfl (pu_move rfl (AEv.tmp rfl)) ?_
    obtain ⟨r47, r47e, h⟩ := bind_some h
    refine ac rfl rfl rfl (op_call (vs := [.int .i64 b]) (H := []) rfl call68 ⟨(AEv.tmp rfl), trivial⟩ (List.Perm.refl _) (mewsref06.Size.ok r47e) ?_)
    rintro _ _ ⟨rfl, rfl⟩
    refine ap (.bool (decide (s44.i < r47))) rfl rfl rfl (pu_int (v := .bool (decide (s44.i < r47))) rfl rfl (AEv.tmp rfl) (AEv.tmp rfl) rfl) ?_
    refine aops_nil ?_
    refine aw_cond (b := decide (s44.i < r47)) (AEv.tmp rfl) (fun hb48 => ?_) (fun hb48 => ?_)
    · replace h := ite_t (dec_t hb48) h
      refine aw_skip ?_
      refine aw_seq ?_
      refine aw_block ?_
      refine aw_seq ?_
      refine aw_region ?_
      refine ap (.int .u64 s44.out) rfl rfl rfl (pu_move rfl (AEv.tmp rfl)) ?_
      refine ap (.int .u64 (IntKind.wrap .u64 (s44.out * 2))) rfl rfl rfl (pu_int (v := .int .u64 (IntKind.wrap .u64 (s44.out * 2))) rfl rfl (AEv.tmp rfl) (AEv.int _ _) rfl) ?_
      refine ap (.int .u64 s44.n) rfl rfl rfl (pu_move rfl (AEv.tmp rfl)) ?_
      refine ap (.int .u64 (s44.n.tmod 2)) rfl rfl rfl (pu_rem rfl (AEv.tmp rfl) (AEv.int _ _) (by decide)) ?_
      refine ap (.int .u64 (IntKind.wrap .u64 ((IntKind.wrap .u64 (s44.out * 2)) + (s44.n.tmod 2)))) rfl rfl rfl (pu_int (v := .int .u64 (IntKind.wrap .u64 ((IntKind.wrap .u64 (s44.out * 2)) + (s44.n.tmod 2)))) rfl rfl (AEv.tmp rfl) (AEv.tmp rfl) rfl) ?_
      refine ap (.int .u64 (IntKind.wrap .u64 ((IntKind.wrap .u64 (s44.out * 2)) + (s44.n.tmod 2)))) rfl rfl rfl (pu_assign rfl (AEv.tmp rfl)) ?_
      refine aops_nil ?_
      refine aw_region ?_
      refine ap (.int .u64 s44.n) rfl rfl rfl (pu_move rfl (AEv.tmp rfl)) ?_
      refine ap (.int .u64 (IntKind.wrap .u64 (s44.n.tdiv 2))) rfl rfl rfl (pu_quo rfl (AEv.tmp rfl) (AEv.int _ _) (by decide)) ?_
      refine ap (.int .u64 (IntKind.wrap .u64 (s44.n.tdiv 2))) rfl rfl rfl (pu_assign rfl (AEv.tmp rfl)) ?_
      refine aops_nil ?_
      refine aw_region ?_
      refine ap (.int .i64 s44.i) rfl rfl rfl (pu_move rfl (AEv.tmp rfl)) ?_
      refine ap (.int .i64 (IntKind.wrap .i64 (s44.i + 1))) rfl rfl rfl (pu_int (v := .int .i64 (IntKind.wrap .i64 (s44.i + 1))) rfl rfl (AEv.tmp rfl) (AEv.int _ _) rfl) ?_
      refine ap (.int .i64 (IntKind.wrap .i64 (s44.i + 1))) rfl rfl rfl (pu_assign rfl (AEv.tmp rfl)) ?_
      refine aops_nil ?_
      obtain rfl := some_of h
      exact ⟨_, (), rfl, Weak.mkL [] (by decide) trivial ⟨(AEv.le (AEv.tmp rfl) (AV.Le.refl _)), AEv.tmp rfl, (AEv.le (AEv.tmp rfl) (AV.Le.refl _)), (AEv.le (AEv.tmp rfl) (AV.Le.refl _)), trivial⟩⟩
    · replace h := ite_f (dec_f hb48) h
      refine aw_exit ?_
      obtain rfl := some_of h
      have h := congrArg some (hx45 _ rfl)
      obtain rfl := some_of h
      exact ⟨(), Weak.mkL [] (by decide) trivial ⟨AEv.tmp rfl, trivial⟩⟩
  · intro _
    have h := h37
    refine aw_seq ?_
    refine aw_region ?_
    refine ap (.int .u64 s36) rfl rfl rfl (pu_move rfl (AEv.tmp rfl)) ?_
    refine ap (.int .u64 s36) rfl rfl rfl (pu_assign rfl (AEv.tmp rfl)) ?_
    refine aops_nil ?_
    refine aw_ret ?_
    obtain rfl := some_of h
    exact ⟨[.int .u64 s36], _, [], ⟨(AEv.tmp rfl), trivial⟩, (AV.Le.refl _), Weak.mkL [] (by decide) trivial trivial, ⟨rfl, rfl⟩⟩

theorem hash.Next.ok {cursor : Int} {b : Int} {r : Int} (h : hash.Next cursor b = some r) : Go.Lift.Spec prog 18 [.int .u64 cursor, .int .i64 b] [] (fun v H => v = .int .u64 r ∧ H = []) := by
  unfold hash.Next at h
  refine Go.Lift.Spec.of_body (rs := [.tmp 4]) func18 rfl rfl (Nat.le_of_ble_eq_true rfl) rfl ?_
  refine aw_seq ?_
  refine aw_region ?_
  refine ap (.int .u64 0) rfl rfl rfl (pu_assign rfl (AEv.int _ _)) ?_
  refine aops_nil ?_
  refine aw_seq ?_
  refine aw_region ?_
  refine ap (.int .u64 cursor) rfl rfl rfl (pu_move rfl (AEv.tmp rfl)) ?_
  refine ap (.int .i64 b) rfl rfl rfl (pu_move rfl (AEv.tmp rfl)) ?_
  obtain ⟨r3, r3e, h⟩ := bind_some h
  refine ac rfl rfl rfl (op_call (vs := [.int .u64 cursor, .int .i64 b]) (H := []) rfl call16 ⟨(AEv.tmp rfl), (AEv.tmp rfl), trivial⟩ (List.Perm.refl _) (hash.Turn.ok r3e) ?_)
  rintro _ _ ⟨rfl, rfl⟩
  refine ap (.int .u64 (IntKind.wrap .u64 (r3 + 1))) rfl rfl rfl (pu_int (v := .int .u64 (IntKind.wrap .u64 (r3 + 1))) rfl rfl (AEv.tmp rfl) (AEv.int _ _) rfl) ?_
  refine ap (.int .i64 b) rfl rfl rfl (pu_move rfl (AEv.tmp rfl)) ?_
  obtain ⟨r4, r4e, h⟩ := bind_some h
  refine ac rfl rfl rfl (op_call (vs := [.int .u64 (IntKind.wrap .u64 (r3 + 1)), .int .i64 b]) (H := []) rfl call16 ⟨(AEv.tmp rfl), (AEv.tmp rfl), trivial⟩ (List.Perm.refl _) (hash.Turn.ok r4e) ?_)
  rintro _ _ ⟨rfl, rfl⟩
  refine ap (.int .u64 r4) rfl rfl rfl (pu_assign rfl (AEv.tmp rfl)) ?_
  refine aops_nil ?_
  refine aw_ret ?_
  obtain rfl := some_of h
  exact ⟨[.int .u64 r4], _, [], ⟨(AEv.tmp rfl), trivial⟩, (AV.Le.refl _), Weak.mkL [] (by decide) trivial trivial, ⟨rfl, rfl⟩⟩

theorem mewsref06.Places.ok {b : Int} {r : Int} (h : mewsref06.Places b = some r) : Go.Lift.Spec prog 20 [.int .i64 b] [] (fun v H => v = .int .u64 r ∧ H = []) := by
  unfold mewsref06.Places at h
  refine Go.Lift.Spec.of_body (rs := [.tmp 2]) func20 rfl rfl (Nat.le_of_ble_eq_true rfl) rfl ?_
  refine aw_seq ?_
  refine aw_region ?_
  refine ap (.int .u64 0) rfl rfl rfl (pu_assign rfl (AEv.int _ _)) ?_
  refine aops_nil ?_
  refine aw_seq ?_
  refine aw_region ?_
  refine ap (.int .u64 1) rfl rfl rfl (pu_assign rfl (AEv.int _ _)) ?_
  refine aops_nil ?_
  obtain ⟨s36, s36e, h37⟩ := bind_some h
  refine aw_meet (ν := Unit) (fun v => [(3, .int .u64 s36)]) (fun v => []) ?_ ?_
  · have h := s36e
    refine aw_seq ?_
    refine aw_region ?_
    refine ap (.int .i64 0) rfl rfl rfl (pu_assign rfl (AEv.int _ _)) ?_
    refine aops_nil ?_
    refine aw_block ?_
    refine aw_while (σ := mewsref06.Places.S0) (ν := Unit) (mewsref06.Places.body0 b) (fun s44 v => [(0, .int .i64 b), (3, .int .u64 s44.n), (4, .int .i64 s44.i)]) (fun s44 v => []) ⟨1, 0⟩ () _ h (Weak.mkL [] (by decide) trivial ⟨AEv.tmp rfl, AEv.tmp rfl, AEv.tmp rfl, trivial⟩) ?_
    rintro s44 _ x46 h hx45
    unfold mewsref06.Places.body0 at h
    refine aw_seq ?_
    refine aw_seq ?_
    refine aw_region ?_
    refine ap (.int .i64 s44.i) rfl rfl rfl (pu_move rfl (AEv.tmp rfl)) ?_
    refine ap (.int .i64 b) rfl rfl rfl (pu_move rfl (AEv.tmp rfl)) ?_
    obtain ⟨r47, r47e, h⟩ := bind_some h
    refine ac rfl rfl rfl (op_call (vs := [.int .i64 b]) (H := []) rfl call68 ⟨(AEv.tmp rfl), trivial⟩ (List.Perm.refl _) (mewsref06.Size.ok r47e) ?_)
    rintro _ _ ⟨rfl, rfl⟩
    refine ap (.bool (decide (s44.i < r47))) rfl rfl rfl (pu_int (v := .bool (decide (s44.i < r47))) rfl rfl (AEv.tmp rfl) (AEv.tmp rfl) rfl) ?_
    refine aops_nil ?_
    refine aw_cond (b := decide (s44.i < r47)) (AEv.tmp rfl) (fun hb48 => ?_) (fun hb48 => ?_)
    · replace h := ite_t (dec_t hb48) h
      refine aw_skip ?_
      refine aw_seq ?_
      refine aw_block ?_
      refine aw_region ?_
      refine ap (.int .u64 s44.n) rfl rfl rfl (pu_move rfl (AEv.tmp rfl)) ?_
      refine ap (.int .u64 (IntKind.wrap .u64 (s44.n * 2))) rfl rfl rfl (pu_int (v := .int .u64 (IntKind.wrap .u64 (s44.n * 2))) rfl rfl (AEv.tmp rfl) (AEv.int _ _) rfl) ?_
      refine ap (.int .u64 (IntKind.wrap .u64 (s44.n * 2))) rfl rfl rfl (pu_assign rfl (AEv.tmp rfl)) ?_
      refine aops_nil ?_
      refine aw_region ?_
      refine ap (.int .i64 s44.i) rfl rfl rfl (pu_move rfl (AEv.tmp rfl)) ?_
      refine ap (.int .i64 (IntKind.wrap .i64 (s44.i + 1))) rfl rfl rfl (pu_int (v := .int .i64 (IntKind.wrap .i64 (s44.i + 1))) rfl rfl (AEv.tmp rfl) (AEv.int _ _) rfl) ?_
      refine ap (.int .i64 (IntKind.wrap .i64 (s44.i + 1))) rfl rfl rfl (pu_assign rfl (AEv.tmp rfl)) ?_
      refine aops_nil ?_
      obtain rfl := some_of h
      exact ⟨_, (), rfl, Weak.mkL [] (by decide) trivial ⟨AEv.tmp rfl, (AEv.le (AEv.tmp rfl) (AV.Le.refl _)), (AEv.le (AEv.tmp rfl) (AV.Le.refl _)), trivial⟩⟩
    · replace h := ite_f (dec_f hb48) h
      refine aw_exit ?_
      obtain rfl := some_of h
      have h := congrArg some (hx45 _ rfl)
      obtain rfl := some_of h
      exact ⟨(), Weak.mkL [] (by decide) trivial ⟨AEv.tmp rfl, trivial⟩⟩
  · intro _
    have h := h37
    refine aw_seq ?_
    refine aw_region ?_
    refine ap (.int .u64 s36) rfl rfl rfl (pu_move rfl (AEv.tmp rfl)) ?_
    refine ap (.int .u64 s36) rfl rfl rfl (pu_assign rfl (AEv.tmp rfl)) ?_
    refine aops_nil ?_
    refine aw_ret ?_
    obtain rfl := some_of h
    exact ⟨[.int .u64 s36], _, [], ⟨(AEv.tmp rfl), trivial⟩, (AV.Le.refl _), Weak.mkL [] (by decide) trivial trivial, ⟨rfl, rfl⟩⟩

theorem mewsref06.Next.ok {cursor : Int} {b : Int} {r : Int} (h : mewsref06.Next cursor b = some r) : Go.Lift.Spec prog 19 [.int .u64 cursor, .int .i64 b] [] (fun v H => v = .int .u64 r ∧ H = []) := by
  unfold mewsref06.Next at h
  refine Go.Lift.Spec.of_body (rs := [.tmp 4]) func19 rfl rfl (Nat.le_of_ble_eq_true rfl) rfl ?_
  refine aw_seq ?_
  refine aw_region ?_
  refine ap (.int .u64 0) rfl rfl rfl (pu_assign rfl (AEv.int _ _)) ?_
  refine aops_nil ?_
  refine aw_seq ?_
  refine aw_region ?_
  refine ap (.int .u64 cursor) rfl rfl rfl (pu_move rfl (AEv.tmp rfl)) ?_
  refine ap (.int .i64 b) rfl rfl rfl (pu_move rfl (AEv.tmp rfl)) ?_
  obtain ⟨r62, r62e, h⟩ := bind_some h
  refine ac rfl rfl rfl (op_call (vs := [.int .i64 b]) (H := []) rfl call20 ⟨(AEv.tmp rfl), trivial⟩ (List.Perm.refl _) (mewsref06.Places.ok r62e) ?_)
  rintro _ _ ⟨rfl, rfl⟩
  obtain ⟨c63, h⟩ := need_of h
  refine ap (.int .u64 (cursor.tmod r62)) rfl rfl rfl (pu_rem rfl (AEv.tmp rfl) (AEv.tmp rfl) c63) ?_
  refine ap (.int .u64 (cursor.tmod r62)) rfl rfl rfl (pu_assign rfl (AEv.tmp rfl)) ?_
  refine aops_nil ?_
  refine aw_seq ?_
  refine aw_region ?_
  refine ap (.int .i64 b) rfl rfl rfl (pu_move rfl (AEv.tmp rfl)) ?_
  obtain ⟨r64, r64e, h⟩ := bind_some h
  refine ac rfl rfl rfl (op_call (vs := [.int .i64 b]) (H := []) rfl call20 ⟨(AEv.tmp rfl), trivial⟩ (List.Perm.refl _) (mewsref06.Places.ok r64e) ?_)
  rintro _ _ ⟨rfl, rfl⟩
  refine ap (.int .u64 (IntKind.wrap .u64 (r64.tdiv 2))) rfl rfl rfl (pu_quo rfl (AEv.tmp rfl) (AEv.int _ _) (by decide)) ?_
  refine ap (.int .u64 (IntKind.wrap .u64 (r64.tdiv 2))) rfl rfl rfl (pu_assign rfl (AEv.tmp rfl)) ?_
  refine aops_nil ?_
  obtain ⟨s93, s93e, h94⟩ := bind_some h
  refine aw_meet (ν := Unit) (fun v => [(5, .int .u64 s93.1), (6, .int .u64 s93.2)]) (fun v => []) ?_ ?_
  · have h := s93e
    refine aw_block ?_
    refine aw_while (σ := mewsref06.Next.S0) (ν := Unit) mewsref06.Next.body0 (fun s113 v => [(5, .int .u64 s113.c), (6, .int .u64 s113.bit)]) (fun s113 v => []) ⟨cursor.tmod r62, IntKind.wrap .u64 (r64.tdiv 2)⟩ () _ h (Weak.mkL [] (by decide) trivial ⟨(AEv.le (AEv.tmp rfl) (AV.Le.refl _)), (AEv.le (AEv.tmp rfl) (AV.Le.refl _)), trivial⟩) ?_
    rintro s113 _ x115 h hx114
    unfold mewsref06.Next.body0 at h
    refine aw_seq ?_
    obtain ⟨s118, s118e, h119⟩ := bind_some h
    refine aw_meet (ν := Unit) (fun v => [(5, .int .u64 s113.c), (6, .int .u64 s113.bit), (22, .bool s118)]) (fun v => []) ?_ ?_
    · have h := s118e
      refine aw_region ?_
      refine ap (.int .u64 s113.bit) rfl rfl rfl (pu_move rfl (AEv.tmp rfl)) ?_
      refine ap (.bool (decide (0 < s113.bit))) rfl rfl rfl (pu_int (v := .bool (decide (0 < s113.bit))) rfl rfl (AEv.tmp rfl) (AEv.int _ _) rfl) ?_
      refine ap (.bool (decide (0 < s113.bit))) rfl rfl rfl (pu_move rfl (AEv.tmp rfl)) ?_
      rcases Bool.eq_false_or_eq_true (decide (0 < s113.bit)) with hb120 | hb120
      · replace h := ite_t (dec_t hb120) h
        refine aops_known 16 rfl hb120 ?_
        refine agp (.int .u64 s113.c) rfl rfl rfl rfl rfl rfl rfl (pu_move rfl (AEv.tmp rfl)) ?_
        refine agp (.int .u64 s113.bit) rfl rfl rfl rfl rfl rfl rfl (pu_move rfl (AEv.tmp rfl)) ?_
        obtain ⟨c121, h⟩ := need_of h
        refine agp (.int .u64 (IntKind.wrap .u64 (s113.c.tdiv s113.bit))) rfl rfl rfl rfl rfl rfl rfl (pu_quo rfl (AEv.tmp rfl) (AEv.tmp rfl) c121) ?_
        refine agp (.int .u64 ((IntKind.wrap .u64 (s113.c.tdiv s113.bit)).tmod 2)) rfl rfl rfl rfl rfl rfl rfl (pu_rem rfl (AEv.tmp rfl) (AEv.int _ _) (by decide)) ?_
        refine agp (.bool (decide (((IntKind.wrap .u64 (s113.c.tdiv s113.bit)).tmod 2) = 1))) rfl rfl rfl rfl rfl rfl rfl (pu_int (v := .bool (decide (((IntKind.wrap .u64 (s113.c.tdiv s113.bit)).tmod 2) = 1))) rfl rfl (AEv.tmp rfl) (AEv.int _ _) rfl) ?_
        refine ap (.bool (decide (((IntKind.wrap .u64 (s113.c.tdiv s113.bit)).tmod 2) = 1))) rfl rfl rfl (pu_pick (b := true) rfl (AEv.tmp rfl) (fun _ => (AEv.tmp rfl)) (fun h => nomatch h)) ?_
        refine aops_nil ?_
        obtain rfl := some_of h
        exact ⟨(), Weak.mkL [] (by decide) trivial ⟨AEv.tmp rfl, AEv.tmp rfl, (AEv.le (AEv.tmp rfl) (AV.Le.refl _)), trivial⟩⟩
      · replace h := ite_f (dec_f hb120) h
        refine aops_known 16 rfl hb120 ?_
        refine an rfl rfl rfl rfl rfl rfl rfl rfl ?_
        refine an rfl rfl rfl rfl rfl rfl rfl rfl ?_
        refine an rfl rfl rfl rfl rfl rfl rfl rfl ?_
        refine an rfl rfl rfl rfl rfl rfl rfl rfl ?_
        refine an rfl rfl rfl rfl rfl rfl rfl rfl ?_
        refine ap (.bool false) rfl rfl rfl (pu_pick (b := false) rfl (AEv.tmp rfl) (fun h => nomatch h) (fun _ => (AEv.bool _))) ?_
        refine aops_nil ?_
        obtain rfl := some_of h
        exact ⟨(), Weak.mkL [] (by decide) trivial ⟨AEv.tmp rfl, AEv.tmp rfl, AEv.tmp rfl, trivial⟩⟩
    · intro _
      have h := h119
      refine aw_cond (b := s118) (AEv.tmp rfl) (fun hb122 => ?_) (fun hb122 => ?_)
      · replace h := ite_t hb122 h
        refine aw_skip ?_
        refine aw_block ?_
        refine aw_seq ?_
        refine aw_region ?_
        refine ap (.int .u64 s113.c) rfl rfl rfl (pu_move rfl (AEv.tmp rfl)) ?_
        refine ap (.int .u64 s113.bit) rfl rfl rfl (pu_move rfl (AEv.tmp rfl)) ?_
        refine ap (.int .u64 (IntKind.wrap .u64 (s113.c - s113.bit))) rfl rfl rfl (pu_int (v := .int .u64 (IntKind.wrap .u64 (s113.c - s113.bit))) rfl rfl (AEv.tmp rfl) (AEv.tmp rfl) rfl) ?_
        refine ap (.int .u64 (IntKind.wrap .u64 (s113.c - s113.bit))) rfl rfl rfl (pu_assign rfl (AEv.tmp rfl)) ?_
        refine aops_nil ?_
        refine aw_region ?_
        refine ap (.int .u64 s113.bit) rfl rfl rfl (pu_move rfl (AEv.tmp rfl)) ?_
        refine ap (.int .u64 (IntKind.wrap .u64 (s113.bit.tdiv 2))) rfl rfl rfl (pu_quo rfl (AEv.tmp rfl) (AEv.int _ _) (by decide)) ?_
        refine ap (.int .u64 (IntKind.wrap .u64 (s113.bit.tdiv 2))) rfl rfl rfl (pu_assign rfl (AEv.tmp rfl)) ?_
        refine aops_nil ?_
        obtain rfl := some_of h
        exact ⟨_, (), rfl, Weak.mkL [] (by decide) trivial ⟨(AEv.le (AEv.tmp rfl) (AV.Le.refl _)), (AEv.le (AEv.tmp rfl) (AV.Le.refl _)), trivial⟩⟩
      · replace h := ite_fb hb122 h
        refine aw_exit ?_
        obtain rfl := some_of h
        have h := congrArg some (hx114 _ rfl)
        obtain rfl := some_of h
        exact ⟨(), Weak.mkL [] (by decide) trivial ⟨AEv.tmp rfl, AEv.tmp rfl, trivial⟩⟩
  · intro _
    have h := h94
    refine aw_seq ?_
    refine aw_region ?_
    refine ap (.int .u64 s93.1) rfl rfl rfl (pu_move rfl (AEv.tmp rfl)) ?_
    refine ap (.int .u64 s93.2) rfl rfl rfl (pu_move rfl (AEv.tmp rfl)) ?_
    refine ap (.int .u64 (IntKind.wrap .u64 (s93.1 + s93.2))) rfl rfl rfl (pu_int (v := .int .u64 (IntKind.wrap .u64 (s93.1 + s93.2))) rfl rfl (AEv.tmp rfl) (AEv.tmp rfl) rfl) ?_
    refine ap (.int .u64 (IntKind.wrap .u64 (s93.1 + s93.2))) rfl rfl rfl (pu_assign rfl (AEv.tmp rfl)) ?_
    refine aops_nil ?_
    refine aw_ret ?_
    obtain rfl := some_of h
    exact ⟨[.int .u64 (IntKind.wrap .u64 (s93.1 + s93.2))], _, [], ⟨(AEv.tmp rfl), trivial⟩, (AV.Le.refl _), Weak.mkL [] (by decide) trivial trivial, ⟨rfl, rfl⟩⟩

theorem hash.Walk.ok {b : Int} {r : List Int} (h : hash.Walk b = some r) : Go.Lift.Spec prog 22 [.int .i64 b] [] (fun v H => v = .sl .no 1 (r.map (AV.int .u64)) ∧ H = []) := by
  unfold hash.Walk at h
  refine Go.Lift.Spec.of_body (rs := [.tmp 2]) func22 rfl rfl (Nat.le_of_ble_eq_true rfl) rfl ?_
  refine aw_seq ?_
  refine aw_region ?_
  refine ap (.sl .full 1 (([] : List Int).map (AV.int .u64))) rfl rfl rfl (pu_assign rfl (AEv.nil 1 (by decide))) ?_
  refine aops_nil ?_
  refine aw_seq ?_
  refine aw_region ?_
  refine ap (.int .i64 b) rfl rfl rfl (pu_move rfl (AEv.tmp rfl)) ?_
  obtain ⟨r41, r41e, h⟩ := bind_some h
  refine ac rfl rfl rfl (op_call (vs := [.int .i64 b]) (H := []) rfl call65 ⟨(AEv.tmp rfl), trivial⟩ (List.Perm.refl _) (hash.size.ok r41e) ?_)
  rintro _ _ ⟨rfl, rfl⟩
  obtain ⟨c42, h⟩ := need_of h
  refine ap (.int .i64 (IntKind.wrap .i64 (1 * 2 ^ min (Int.toNat r41) (IntKind.bits .i64)))) rfl rfl rfl (pu_shl rfl (AEv.int _ _) (AEv.tmp rfl) c42) ?_
  obtain ⟨c43, h⟩ := need_of h
  refine ac rfl rfl rfl (op_makeVecM (f := (AV.int .u64)) (z := 0) rfl underlying27 typeInfo22 rfl rfl (by decide) rfl rfl (by decide) (AEv.tmp rfl) (AEv.tmp rfl) c43 ?_)
  intro p44
  refine ap (.vec p44) rfl rfl rfl (pu_assign rfl (AEv.tmp rfl)) ?_
  refine aops_nil ?_
  obtain ⟨s62, s62e, h63⟩ := bind_some h
  refine aw_meet (ν := Unit) (fun v => [(3, .vec p44)]) (fun v => [(p44, .vec 1 (s62.map (AV.int .u64)))]) ?_ ?_
  · have h := s62e
    refine aw_seq ?_
    refine aw_region ?_
    refine ap (.vec p44) rfl rfl rfl (pu_move rfl (AEv.tmp rfl)) ?_
    refine ac rfl rfl rfl (op_lenVecM (i := 0) rfl underlying27 (AEv.tmp rfl) rfl ?_)
    refine ap (.int .i64 0) rfl rfl rfl (pu_move rfl (AEv.int _ _)) ?_
    refine aops_nil ?_
    refine aw_block ?_
    refine aw_while (σ := hash.Walk.S0) (ν := Unit) (hash.Walk.body0 r41 b) (fun s74 v => [(0, .int .i64 b), (3, .vec p44), (10, .int .i64 ((List.replicate (Int.toNat (IntKind.wrap .i64 (1 * 2 ^ min (Int.toNat r41) (IntKind.bits .i64)))) (0 : Int)).length : Int)), (11, .int .i64 s74.t11)]) (fun s74 v => [(p44, .vec 1 (s74.v.map (AV.int .u64)))]) ⟨0, List.replicate (Int.toNat (IntKind.wrap .i64 (1 * 2 ^ min (Int.toNat r41) (IntKind.bits .i64)))) (0 : Int)⟩ () _ h (Weak.mkL [0] (by decide) ⟨⟨_, rfl, rfl⟩, trivial⟩ ⟨AEv.tmp rfl, AEv.tmp rfl, AEv.tmp rfl, AEv.tmp rfl, trivial⟩) ?_
    rintro s74 _ x76 h hx75
    unfold hash.Walk.body0 at h
    refine aw_seq ?_
    refine aw_region ?_
    refine ap (.bool (decide (s74.t11 < ((List.replicate (Int.toNat (IntKind.wrap .i64 (1 * 2 ^ min (Int.toNat r41) (IntKind.bits .i64)))) (0 : Int)).length : Int)))) rfl rfl rfl (pu_int (v := .bool (decide (s74.t11 < ((List.replicate (Int.toNat (IntKind.wrap .i64 (1 * 2 ^ min (Int.toNat r41) (IntKind.bits .i64)))) (0 : Int)).length : Int)))) rfl rfl (AEv.tmp rfl) (AEv.tmp rfl) rfl) ?_
    refine aops_nil ?_
    refine aw_seq ?_
    refine aw_cond (b := decide (s74.t11 < ((List.replicate (Int.toNat (IntKind.wrap .i64 (1 * 2 ^ min (Int.toNat r41) (IntKind.bits .i64)))) (0 : Int)).length : Int))) (AEv.tmp rfl) (fun hb80 => ?_) (fun hb80 => ?_)
    · replace h := ite_t (dec_t hb80) h
      refine aw_skip ?_
      refine aw_seq ?_
      refine aw_block ?_
      refine aw_seq ?_
      refine aw_region ?_
      refine ap (.int .i64 s74.t11) rfl rfl rfl (pu_move rfl (AEv.tmp rfl)) ?_
      refine ap (.int .i64 s74.t11) rfl rfl rfl (pu_assign rfl (AEv.tmp rfl)) ?_
      refine aops_nil ?_
      refine aw_region ?_
      refine ap (.vec p44) rfl rfl rfl (pu_move rfl (AEv.tmp rfl)) ?_
      refine ap (.int .i64 s74.t11) rfl rfl rfl (pu_move rfl (AEv.tmp rfl)) ?_
      refine ap (.int .i64 s74.t11) rfl rfl rfl (pu_move rfl (AEv.tmp rfl)) ?_
      refine ap (.int .u64 (IntKind.wrap .u64 s74.t11)) rfl rfl rfl (pu_conv rfl underlying3 underlying22 (AEv.tmp rfl)) ?_
      refine ap (.int .i64 b) rfl rfl rfl (pu_move rfl (AEv.tmp rfl)) ?_
      obtain ⟨r77, r77e, h⟩ := bind_some h
      refine ac rfl rfl rfl (op_call (vs := [.int .u64 (IntKind.wrap .u64 s74.t11), .int .i64 b]) (H := []) rfl call16 ⟨(AEv.tmp rfl), (AEv.tmp rfl), trivial⟩ (List.Perm.refl _) (hash.Turn.ok r77e) ?_)
      rintro _ _ ⟨rfl, rfl⟩
      obtain ⟨c78, h⟩ := need_of h
      refine ac rfl rfl rfl (op_indexAddrVecM rfl underlying27 sizeOf22 (AEv.tmp rfl) (j := 0) rfl (AEv.tmp rfl) c78 ?_)
      obtain ⟨c79, h⟩ := need_of h
      refine ac0 rfl rfl (op_storeEM (i := 0) (sz := 1) (y' := r77) rfl sizeOf22 (AEv.tmp rfl) (v := .int .u64 r77) (AEv.tmp rfl) rfl c79 rfl rfl (by decide) rfl ?_)
      refine aops_nil ?_
      refine aw_region ?_
      refine ap (.int .i64 (IntKind.wrap .i64 (s74.t11 + 1))) rfl rfl rfl (pu_int (v := .int .i64 (IntKind.wrap .i64 (s74.t11 + 1))) rfl rfl (AEv.tmp rfl) (AEv.int _ _) rfl) ?_
      refine ap (.int .i64 (IntKind.wrap .i64 (s74.t11 + 1))) rfl rfl rfl (pu_move rfl (AEv.tmp rfl)) ?_
      refine aops_nil ?_
      obtain rfl := some_of h
      exact ⟨_, (), rfl, Weak.mkL [0] (by decide) ⟨⟨_, rfl, rfl⟩, trivial⟩ ⟨AEv.tmp rfl, AEv.tmp rfl, AEv.tmp rfl, (AEv.le (AEv.tmp rfl) (AV.Le.refl _)), trivial⟩⟩
    · replace h := ite_f (dec_f hb80) h
      refine aw_exit ?_
      obtain rfl := some_of h
      have h := congrArg some (hx75 _ rfl)
      obtain rfl := some_of h
      exact ⟨(), Weak.mkL [0] (by decide) ⟨⟨_, rfl, rfl⟩, trivial⟩ ⟨AEv.tmp rfl, trivial⟩⟩
  · intro _
    have h := h63
    refine aw_seq ?_
    refine aw_region ?_
    refine ap (.vec p44) rfl rfl rfl (pu_move rfl (AEv.tmp rfl)) ?_
    refine ap (.vec p44) rfl rfl rfl (pu_assign rfl (AEv.tmp rfl)) ?_
    refine aops_nil ?_
    refine aw_publish 2 0 (AEv.tmp rfl) rfl ?_
    refine aw_ret ?_
    obtain rfl := some_of h
    exact ⟨[.sl .no 1 (s62.map (AV.int .u64))], _, [], ⟨(AEv.tmp rfl), trivial⟩, (AV.Le.refl _), Weak.mkL [] (by decide) trivial trivial, ⟨rfl, rfl⟩⟩

theorem hash.Of.ok {seed : Int} {s_ : List UInt8} {r : Int} (h : hash.Of seed s_ = some r) : Go.Lift.Spec prog 24 [.int .u64 seed, .str s_] [] (fun v H => v = .int .u64 r ∧ H = []) := by
  unfold hash.Of at h
  refine Go.Lift.Spec.of_body (rs := [.tmp 4]) func24 rfl rfl (Nat.le_of_ble_eq_true rfl) rfl ?_
  refine aw_seq ?_
  refine aw_region ?_
  refine ap (.int .u64 0) rfl rfl rfl (pu_assign rfl (AEv.int _ _)) ?_
  refine aops_nil ?_
  refine aw_seq ?_
  refine aw_region ?_
  refine ap (.int .u64 seed) rfl rfl rfl (pu_move rfl (AEv.tmp rfl)) ?_
  refine ap (.int .u64 (Go.bits .xor .u64 14695981039346656037 seed)) rfl rfl rfl (pu_int (v := .int .u64 (Go.bits .xor .u64 14695981039346656037 seed)) rfl rfl (AEv.int _ _) (AEv.tmp rfl) rfl) ?_
  refine ap (.int .u64 (Go.bits .xor .u64 14695981039346656037 seed)) rfl rfl rfl (pu_assign rfl (AEv.tmp rfl)) ?_
  refine aops_nil ?_
  obtain ⟨s69, s69e, h70⟩ := bind_some h
  refine aw_meet (ν := Unit) (fun v => [(5, .int .u64 s69)]) (fun v => []) ?_ ?_
  · have h := s69e
    refine aw_seq ?_
    refine aw_region ?_
    refine ap (.str s_) rfl rfl rfl (pu_move rfl (AEv.tmp rfl)) ?_
    refine ap (.int .i64 (s_.length : Int)) rfl rfl rfl (pu_strLen rfl underlying9 (AEv.tmp rfl)) ?_
    refine ap (.int .i64 0) rfl rfl rfl (pu_move rfl (AEv.int _ _)) ?_
    refine aops_nil ?_
    refine aw_block ?_
    refine aw_while (σ := hash.Of.S0) (ν := Unit) (hash.Of.body0 s_) (fun s78 v => [(1, .str s_), (5, .int .u64 s78.h), (12, .int .i64 (s_.length : Int)), (13, .int .i64 s78.t13)]) (fun s78 v => []) ⟨Go.bits .xor .u64 14695981039346656037 seed, 0⟩ () _ h (Weak.mkL [] (by decide) trivial ⟨AEv.tmp rfl, (AEv.le (AEv.tmp rfl) (AV.Le.refl _)), AEv.tmp rfl, AEv.tmp rfl, trivial⟩) ?_
    rintro s78 _ x80 h hx79
    unfold hash.Of.body0 at h
    refine aw_seq ?_
    refine aw_region ?_
    refine ap (.bool (decide (s78.t13 < (s_.length : Int)))) rfl rfl rfl (pu_int (v := .bool (decide (s78.t13 < (s_.length : Int)))) rfl rfl (AEv.tmp rfl) (AEv.tmp rfl) rfl) ?_
    refine aops_nil ?_
    refine aw_seq ?_
    refine aw_cond (b := decide (s78.t13 < (s_.length : Int))) (AEv.tmp rfl) (fun hb82 => ?_) (fun hb82 => ?_)
    · replace h := ite_t (dec_t hb82) h
      refine aw_skip ?_
      refine aw_seq ?_
      refine aw_block ?_
      refine aw_seq ?_
      refine aw_region ?_
      refine ap (.int .i64 s78.t13) rfl rfl rfl (pu_move rfl (AEv.tmp rfl)) ?_
      refine ap (.int .i64 s78.t13) rfl rfl rfl (pu_assign rfl (AEv.tmp rfl)) ?_
      refine aops_nil ?_
      refine aw_region ?_
      refine ap (.int .u64 s78.h) rfl rfl rfl (pu_move rfl (AEv.tmp rfl)) ?_
      refine ap (.str s_) rfl rfl rfl (pu_move rfl (AEv.tmp rfl)) ?_
      refine ap (.int .i64 s78.t13) rfl rfl rfl (pu_move rfl (AEv.tmp rfl)) ?_
      obtain ⟨c81, h⟩ := need_of h
      refine ap (.int .u8 (bix s_ s78.t13)) rfl rfl rfl (pu_strIdxM rfl underlying9 (AEv.tmp rfl) (AEv.tmp rfl) c81) ?_
      refine ap (.int .u64 (IntKind.wrap .u64 (bix s_ s78.t13))) rfl rfl rfl (pu_conv rfl underlying5 underlying22 (AEv.tmp rfl)) ?_
      refine ap (.int .u64 (Go.bits .xor .u64 s78.h (IntKind.wrap .u64 (bix s_ s78.t13)))) rfl rfl rfl (pu_int (v := .int .u64 (Go.bits .xor .u64 s78.h (IntKind.wrap .u64 (bix s_ s78.t13)))) rfl rfl (AEv.tmp rfl) (AEv.tmp rfl) rfl) ?_
      refine ap (.int .u64 (IntKind.wrap .u64 ((Go.bits .xor .u64 s78.h (IntKind.wrap .u64 (bix s_ s78.t13))) * 1099511628211))) rfl rfl rfl (pu_int (v := .int .u64 (IntKind.wrap .u64 ((Go.bits .xor .u64 s78.h (IntKind.wrap .u64 (bix s_ s78.t13))) * 1099511628211))) rfl rfl (AEv.tmp rfl) (AEv.int _ _) rfl) ?_
      refine ap (.int .u64 (IntKind.wrap .u64 ((Go.bits .xor .u64 s78.h (IntKind.wrap .u64 (bix s_ s78.t13))) * 1099511628211))) rfl rfl rfl (pu_assign rfl (AEv.tmp rfl)) ?_
      refine aops_nil ?_
      refine aw_region ?_
      refine ap (.int .i64 (IntKind.wrap .i64 (s78.t13 + 1))) rfl rfl rfl (pu_int (v := .int .i64 (IntKind.wrap .i64 (s78.t13 + 1))) rfl rfl (AEv.tmp rfl) (AEv.int _ _) rfl) ?_
      refine ap (.int .i64 (IntKind.wrap .i64 (s78.t13 + 1))) rfl rfl rfl (pu_move rfl (AEv.tmp rfl)) ?_
      refine aops_nil ?_
      obtain rfl := some_of h
      exact ⟨_, (), rfl, Weak.mkL [] (by decide) trivial ⟨AEv.tmp rfl, (AEv.le (AEv.tmp rfl) (AV.Le.refl _)), AEv.tmp rfl, (AEv.le (AEv.tmp rfl) (AV.Le.refl _)), trivial⟩⟩
    · replace h := ite_f (dec_f hb82) h
      refine aw_exit ?_
      obtain rfl := some_of h
      have h := congrArg some (hx79 _ rfl)
      obtain rfl := some_of h
      exact ⟨(), Weak.mkL [] (by decide) trivial ⟨AEv.tmp rfl, trivial⟩⟩
  · intro _
    have h := h70
    obtain ⟨s97, s97e, h98⟩ := bind_some h
    refine aw_meet (ν := Unit) (fun v => [(5, .int .u64 s97)]) (fun v => []) ?_ ?_
    · have h := s97e
      refine aw_seq ?_
      refine aw_region ?_
      refine ap (.agg [.int .u64 18397679294719823053, .int .u64 14181476777654086739, .int .u64 1]) rfl rfl rfl (pu_buildArr (zs := [.int .u64 0, .int .u64 0, .int .u64 0]) (aparts := [(0, .int .u64 18397679294719823053), (1, .int .u64 14181476777654086739), (2, .int .u64 1)]) (cs := [.int .u64 18397679294719823053, .int .u64 14181476777654086739, .int .u64 1]) rfl underlying87 sizeOf22 zeroValue87 rfl ⟨rfl, (AEv.int _ _), ⟨rfl, (AEv.int _ _), ⟨rfl, (AEv.int _ _), trivial⟩⟩⟩ rfl) ?_
      refine ap (.int .i64 0) rfl rfl rfl (pu_move rfl (AEv.int _ _)) ?_
      refine aops_nil ?_
      refine aw_block ?_
      refine aw_while (σ := hash.Of.S2) (ν := Unit) hash.Of.body2 (fun s107 v => [(5, .int .u64 s107.h), (24, .agg [.int .u64 18397679294719823053, .int .u64 14181476777654086739, .int .u64 1]), (25, .int .i64 s107.t25)]) (fun s107 v => []) ⟨s69, 0⟩ () _ h (Weak.mkL [] (by decide) trivial ⟨AEv.tmp rfl, AEv.tmp rfl, AEv.tmp rfl, trivial⟩) ?_
      rintro s107 _ x109 h hx108
      unfold hash.Of.body2 at h
      refine aw_seq ?_
      refine aw_region ?_
      refine ap (.bool (decide (s107.t25 < 3))) rfl rfl rfl (pu_int (v := .bool (decide (s107.t25 < 3))) rfl rfl (AEv.tmp rfl) (AEv.int _ _) rfl) ?_
      refine aops_nil ?_
      refine aw_seq ?_
      refine aw_cond (b := decide (s107.t25 < 3)) (AEv.tmp rfl) (fun hb112 => ?_) (fun hb112 => ?_)
      · replace h := ite_t (dec_t hb112) h
        refine aw_skip ?_
        refine aw_seq ?_
        refine aw_block ?_
        refine aw_seq ?_
        refine aw_region ?_
        obtain ⟨c110, h⟩ := need_of h
        refine ap (.int .u64 (ix ([18397679294719823053, 14181476777654086739, 1] : List Int) s107.t25)) rfl rfl rfl (pu_idxArrM (f := (AV.int .u64)) (ys := ([18397679294719823053, 14181476777654086739, 1] : List Int)) rfl underlying87 sizeOf22 isAgg22 (AEv.tmp rfl) (AEv.tmp rfl) rfl rfl c110) ?_
        refine ap (.int .u64 (ix ([18397679294719823053, 14181476777654086739, 1] : List Int) s107.t25)) rfl rfl rfl (pu_assign rfl (AEv.tmp rfl)) ?_
        refine aops_nil ?_
        refine aw_region ?_
        refine ap (.int .u64 s107.h) rfl rfl rfl (pu_move rfl (AEv.tmp rfl)) ?_
        refine ap (.int .u64 s107.h) rfl rfl rfl (pu_move rfl (AEv.tmp rfl)) ?_
        refine ap (.int .u64 (s107.h / 2 ^ min (Int.toNat 33) (IntKind.bits .u64))) rfl rfl rfl (pu_shr rfl (AEv.tmp rfl) (AEv.int _ _) (by decide)) ?_
        refine ap (.int .u64 (Go.bits .xor .u64 s107.h (s107.h / 2 ^ min (Int.toNat 33) (IntKind.bits .u64)))) rfl rfl rfl (pu_int (v := .int .u64 (Go.bits .xor .u64 s107.h (s107.h / 2 ^ min (Int.toNat 33) (IntKind.bits .u64)))) rfl rfl (AEv.tmp rfl) (AEv.tmp rfl) rfl) ?_
        refine ap (.int .u64 (ix ([18397679294719823053, 14181476777654086739, 1] : List Int) s107.t25)) rfl rfl rfl (pu_move rfl (AEv.tmp rfl)) ?_
        obtain ⟨x111, x111e, h⟩ := letO_of h
        refine ap (.int .u64 x111) rfl rfl rfl ((pu_int (v := .int .u64 (IntKind.wrap .u64 ((Go.bits .xor .u64 s107.h (s107.h / 2 ^ min (Int.toNat 33) (IntKind.bits .u64))) * (ix ([18397679294719823053, 14181476777654086739, 1] : List Int) s107.t25)))) rfl rfl (AEv.tmp rfl) (AEv.tmp rfl) rfl).eq (congrArg (AV.int .u64) x111e.symm)) ?_
        refine ap (.int .u64 x111) rfl rfl rfl (pu_assign rfl (AEv.tmp rfl)) ?_
        refine aops_nil ?_
        refine aw_region ?_
        refine ap (.int .i64 (IntKind.wrap .i64 (s107.t25 + 1))) rfl rfl rfl (pu_int (v := .int .i64 (IntKind.wrap .i64 (s107.t25 + 1))) rfl rfl (AEv.tmp rfl) (AEv.int _ _) rfl) ?_
        refine ap (.int .i64 (IntKind.wrap .i64 (s107.t25 + 1))) rfl rfl rfl (pu_move rfl (AEv.tmp rfl)) ?_
        refine aops_nil ?_
        obtain rfl := some_of h
        exact ⟨_, (), rfl, Weak.mkL [] (by decide) trivial ⟨AEv.tmp rfl, AEv.tmp rfl, (AEv.le (AEv.tmp rfl) (AV.Le.refl _)), trivial⟩⟩
      · replace h := ite_f (dec_f hb112) h
        refine aw_exit ?_
        obtain rfl := some_of h
        have h := congrArg some (hx108 _ rfl)
        obtain rfl := some_of h
        exact ⟨(), Weak.mkL [] (by decide) trivial ⟨AEv.tmp rfl, trivial⟩⟩
    · intro _
      have h := h98
      refine aw_seq ?_
      refine aw_region ?_
      refine ap (.int .u64 s97) rfl rfl rfl (pu_move rfl (AEv.tmp rfl)) ?_
      refine ap (.int .u64 s97) rfl rfl rfl (pu_assign rfl (AEv.tmp rfl)) ?_
      refine aops_nil ?_
      refine aw_ret ?_
      obtain rfl := some_of h
      exact ⟨[.int .u64 s97], _, [], ⟨(AEv.tmp rfl), trivial⟩, (AV.Le.refl _), Weak.mkL [] (by decide) trivial trivial, ⟨rfl, rfl⟩⟩

theorem mewslaw06.alive.ok  {r : Bool} (h : mewslaw06.alive = some r) : Go.Lift.Spec prog 21 [] [] (fun v H => v = .bool r ∧ H = []) := by
  unfold mewslaw06.alive at h
  refine Go.Lift.Spec.of_body (rs := [.tmp 0]) func21 rfl rfl (Nat.le_of_ble_eq_true rfl) rfl ?_
  refine aw_seq ?_
  refine aw_region ?_
  refine ap (.bool false) rfl rfl rfl (pu_assign rfl (AEv.bool _)) ?_
  refine aops_nil ?_
  refine aw_seq ?_
  refine aw_region ?_
  obtain ⟨r22, r22e, h⟩ := bind_some h
  refine ac rfl rfl rfl (op_call (vs := [.int .i64 2]) (H := []) rfl call22 ⟨(AEv.int _ _), trivial⟩ (List.Perm.refl _) (hash.Walk.ok r22e) ?_)
  rintro _ _ ⟨rfl, rfl⟩
  refine ap (.sl .no 1 (r22.map (AV.int .u64))) rfl rfl rfl (pu_assign rfl (AEv.tmp rfl)) ?_
  refine aops_nil ?_
  obtain ⟨s32, s32e, h33⟩ := bind_some h
  refine aw_meet (ν := Unit) (fun v => [(0, .bool s32)]) (fun v => []) ?_ ?_
  · have h := s32e
    refine aw_region ?_
    refine ap (.sl .no 1 (r22.map (AV.int .u64))) rfl rfl rfl (pu_move rfl (AEv.tmp rfl)) ?_
    refine ap (.int .i64 (r22.length : Int)) rfl rfl rfl (pu_lenM rfl underlying27 (AEv.tmp rfl)) ?_
    refine ap (.bool (decide ((r22.length : Int) = 4))) rfl rfl rfl (pu_int (v := .bool (decide ((r22.length : Int) = 4))) rfl rfl (AEv.tmp rfl) (AEv.int _ _) rfl) ?_
    refine ap (.bool (decide ((r22.length : Int) = 4))) rfl rfl rfl (pu_move rfl (AEv.tmp rfl)) ?_
    rcases Bool.eq_false_or_eq_true (decide ((r22.length : Int) = 4)) with hb34 | hb34
    · replace h := ite_t (dec_t hb34) h
      refine aops_known 6 rfl hb34 ?_
      refine agp (.sl .no 1 (r22.map (AV.int .u64))) rfl rfl rfl rfl rfl rfl rfl (pu_move rfl (AEv.tmp rfl)) ?_
      obtain ⟨c35, h⟩ := need_of h
      refine agp (.vptr [.int .u64 (ix r22 1)]) rfl rfl rfl rfl rfl rfl rfl (pu_indexAddrM rfl underlying27 sizeOf22 (AEv.tmp rfl) (AEv.int _ _) c35 rfl) ?_
      refine ag rfl rfl rfl rfl rfl rfl rfl (op_loadV1 rfl isAgg22 (AEv.tmp rfl) rfl ?_)
      refine agp (.bool (decide ((ix r22 1) = 2))) rfl rfl rfl rfl rfl rfl rfl (pu_int (v := .bool (decide ((ix r22 1) = 2))) rfl rfl (AEv.tmp rfl) (AEv.int _ _) rfl) ?_
      refine ap (.bool (decide ((ix r22 1) = 2))) rfl rfl rfl (pu_pick (b := true) rfl (AEv.tmp rfl) (fun _ => (AEv.tmp rfl)) (fun h => nomatch h)) ?_
      refine ap (.bool (decide ((ix r22 1) = 2))) rfl rfl rfl (pu_move rfl (AEv.tmp rfl)) ?_
      rcases Bool.eq_false_or_eq_true (decide ((ix r22 1) = 2)) with hb36 | hb36
      · replace h := ite_t (dec_t hb36) h
        refine aops_known 12 rfl hb36 ?_
        refine agp (.sl .no 1 (r22.map (AV.int .u64))) rfl rfl rfl rfl rfl rfl rfl (pu_move rfl (AEv.tmp rfl)) ?_
        obtain ⟨c37, h⟩ := need_of h
        refine agp (.vptr [.int .u64 (ix r22 2)]) rfl rfl rfl rfl rfl rfl rfl (pu_indexAddrM rfl underlying27 sizeOf22 (AEv.tmp rfl) (AEv.int _ _) c37 rfl) ?_
        refine ag rfl rfl rfl rfl rfl rfl rfl (op_loadV1 rfl isAgg22 (AEv.tmp rfl) rfl ?_)
        refine agp (.bool (decide ((ix r22 2) = 1))) rfl rfl rfl rfl rfl rfl rfl (pu_int (v := .bool (decide ((ix r22 2) = 1))) rfl rfl (AEv.tmp rfl) (AEv.int _ _) rfl) ?_
        refine ap (.bool (decide ((ix r22 2) = 1))) rfl rfl rfl (pu_pick (b := true) rfl (AEv.tmp rfl) (fun _ => (AEv.tmp rfl)) (fun h => nomatch h)) ?_
        refine ap (.bool (decide ((ix r22 2) = 1))) rfl rfl rfl (pu_move rfl (AEv.tmp rfl)) ?_
        rcases Bool.eq_false_or_eq_true (decide ((ix r22 2) = 1)) with hb38 | hb38
        · replace h := ite_t (dec_t hb38) h
          refine aops_known 18 rfl hb38 ?_
          obtain ⟨r39, r39e, h⟩ := bind_some h
          refine ag rfl rfl rfl rfl rfl rfl rfl (op_call (vs := [.int .u64 3, .int .i64 2]) (H := []) rfl call18 ⟨(AEv.int _ _), (AEv.int _ _), trivial⟩ (List.Perm.refl _) (hash.Next.ok r39e) ?_)
          rintro _ _ ⟨rfl, rfl⟩
          refine agp (.bool (decide (r39 = 0))) rfl rfl rfl rfl rfl rfl rfl (pu_int (v := .bool (decide (r39 = 0))) rfl rfl (AEv.tmp rfl) (AEv.int _ _) rfl) ?_
          refine ap (.bool (decide (r39 = 0))) rfl rfl rfl (pu_pick (b := true) rfl (AEv.tmp rfl) (fun _ => (AEv.tmp rfl)) (fun h => nomatch h)) ?_
          refine ap (.bool (decide (r39 = 0))) rfl rfl rfl (pu_move rfl (AEv.tmp rfl)) ?_
          rcases Bool.eq_false_or_eq_true (decide (r39 = 0)) with hb40 | hb40
          · replace h := ite_t (dec_t hb40) h
            refine aops_known 22 rfl hb40 ?_
            obtain ⟨r41, r41e, h⟩ := bind_some h
            refine ag rfl rfl rfl rfl rfl rfl rfl (op_call (vs := [.int .u64 1, .str [97]]) (H := []) rfl call24 ⟨(AEv.int _ _), (AEv.const rfl), trivial⟩ (List.Perm.refl _) (hash.Of.ok r41e) ?_)
            rintro _ _ ⟨rfl, rfl⟩
            obtain ⟨r42, r42e, h⟩ := bind_some h
            refine ag rfl rfl rfl rfl rfl rfl rfl (op_call (vs := [.int .u64 2, .str [97]]) (H := []) rfl call24 ⟨(AEv.int _ _), (AEv.const rfl), trivial⟩ (List.Perm.refl _) (hash.Of.ok r42e) ?_)
            rintro _ _ ⟨rfl, rfl⟩
            refine agp (.bool (!decide (r41 = r42))) rfl rfl rfl rfl rfl rfl rfl (pu_int (v := .bool (!decide (r41 = r42))) rfl rfl (AEv.tmp rfl) (AEv.tmp rfl) rfl) ?_
            refine ap (.bool (!decide (r41 = r42))) rfl rfl rfl (pu_pick (b := true) rfl (AEv.tmp rfl) (fun _ => (AEv.tmp rfl)) (fun h => nomatch h)) ?_
            refine ap (.bool (!decide (r41 = r42))) rfl rfl rfl (pu_assign rfl (AEv.tmp rfl)) ?_
            refine aops_nil ?_
            obtain rfl := some_of h
            exact ⟨(), Weak.mkL [] (by decide) trivial ⟨AEv.tmp rfl, trivial⟩⟩
          · replace h := ite_f (dec_f hb40) h
            refine aops_known 22 rfl hb40 ?_
            refine an rfl rfl rfl rfl rfl rfl rfl rfl ?_
            refine an rfl rfl rfl rfl rfl rfl rfl rfl ?_
            refine an rfl rfl rfl rfl rfl rfl rfl rfl ?_
            refine ap (.bool false) rfl rfl rfl (pu_pick (b := false) rfl (AEv.tmp rfl) (fun h => nomatch h) (fun _ => (AEv.bool _))) ?_
            refine ap (.bool false) rfl rfl rfl (pu_assign rfl (AEv.tmp rfl)) ?_
            refine aops_nil ?_
            obtain rfl := some_of h
            exact ⟨(), Weak.mkL [] (by decide) trivial ⟨AEv.tmp rfl, trivial⟩⟩
        · replace h := ite_f (dec_f hb38) h
          refine aops_known 18 rfl hb38 ?_
          refine an rfl rfl rfl rfl rfl rfl rfl rfl ?_
          refine an rfl rfl rfl rfl rfl rfl rfl rfl ?_
          refine ap (.bool false) rfl rfl rfl (pu_pick (b := false) rfl (AEv.tmp rfl) (fun h => nomatch h) (fun _ => (AEv.bool _))) ?_
          refine ap (.bool false) rfl rfl rfl (pu_move rfl (AEv.tmp rfl)) ?_
          refine an rfl rfl rfl rfl rfl rfl rfl rfl ?_
          refine an rfl rfl rfl rfl rfl rfl rfl rfl ?_
          refine an rfl rfl rfl rfl rfl rfl rfl rfl ?_
          refine ap (.bool false) rfl rfl rfl (pu_pick (b := false) rfl (AEv.tmp rfl) (fun h => nomatch h) (fun _ => (AEv.bool _))) ?_
          refine ap (.bool false) rfl rfl rfl (pu_assign rfl (AEv.tmp rfl)) ?_
          refine aops_nil ?_
          obtain rfl := some_of h
          exact ⟨(), Weak.mkL [] (by decide) trivial ⟨AEv.tmp rfl, trivial⟩⟩
      · replace h := ite_f (dec_f hb36) h
        refine aops_known 12 rfl hb36 ?_
        refine an rfl rfl rfl rfl rfl rfl rfl rfl ?_
        refine an rfl rfl rfl rfl rfl rfl rfl rfl ?_
        refine an rfl rfl rfl rfl rfl rfl rfl rfl ?_
        refine an rfl rfl rfl rfl rfl rfl rfl rfl ?_
        refine ap (.bool false) rfl rfl rfl (pu_pick (b := false) rfl (AEv.tmp rfl) (fun h => nomatch h) (fun _ => (AEv.bool _))) ?_
        refine ap (.bool false) rfl rfl rfl (pu_move rfl (AEv.tmp rfl)) ?_
        refine an rfl rfl rfl rfl rfl rfl rfl rfl ?_
        refine an rfl rfl rfl rfl rfl rfl rfl rfl ?_
        refine ap (.bool false) rfl rfl rfl (pu_pick (b := false) rfl (AEv.tmp rfl) (fun h => nomatch h) (fun _ => (AEv.bool _))) ?_
        refine ap (.bool false) rfl rfl rfl (pu_move rfl (AEv.tmp rfl)) ?_
        refine an rfl rfl rfl rfl rfl rfl rfl rfl ?_
        refine an rfl rfl rfl rfl rfl rfl rfl rfl ?_
        refine an rfl rfl rfl rfl rfl rfl rfl rfl ?_
        refine ap (.bool false) rfl rfl rfl (pu_pick (b := false) rfl (AEv.tmp rfl) (fun h => nomatch h) (fun _ => (AEv.bool _))) ?_
        refine ap (.bool false) rfl rfl rfl (pu_assign rfl (AEv.tmp rfl)) ?_
        refine aops_nil ?_
        obtain rfl := some_of h
        exact ⟨(), Weak.mkL [] (by decide) trivial ⟨AEv.tmp rfl, trivial⟩⟩
    · replace h := ite_f (dec_f hb34) h
      refine aops_known 6 rfl hb34 ?_
      refine an rfl rfl rfl rfl rfl rfl rfl rfl ?_
      refine an rfl rfl rfl rfl rfl rfl rfl rfl ?_
      refine an rfl rfl rfl rfl rfl rfl rfl rfl ?_
      refine an rfl rfl rfl rfl rfl rfl rfl rfl ?_
      refine ap (.bool false) rfl rfl rfl (pu_pick (b := false) rfl (AEv.tmp rfl) (fun h => nomatch h) (fun _ => (AEv.bool _))) ?_
      refine ap (.bool false) rfl rfl rfl (pu_move rfl (AEv.tmp rfl)) ?_
      refine an rfl rfl rfl rfl rfl rfl rfl rfl ?_
      refine an rfl rfl rfl rfl rfl rfl rfl rfl ?_
      refine an rfl rfl rfl rfl rfl rfl rfl rfl ?_
      refine an rfl rfl rfl rfl rfl rfl rfl rfl ?_
      refine ap (.bool false) rfl rfl rfl (pu_pick (b := false) rfl (AEv.tmp rfl) (fun h => nomatch h) (fun _ => (AEv.bool _))) ?_
      refine ap (.bool false) rfl rfl rfl (pu_move rfl (AEv.tmp rfl)) ?_
      refine an rfl rfl rfl rfl rfl rfl rfl rfl ?_
      refine an rfl rfl rfl rfl rfl rfl rfl rfl ?_
      refine ap (.bool false) rfl rfl rfl (pu_pick (b := false) rfl (AEv.tmp rfl) (fun h => nomatch h) (fun _ => (AEv.bool _))) ?_
      refine ap (.bool false) rfl rfl rfl (pu_move rfl (AEv.tmp rfl)) ?_
      refine an rfl rfl rfl rfl rfl rfl rfl rfl ?_
      refine an rfl rfl rfl rfl rfl rfl rfl rfl ?_
      refine an rfl rfl rfl rfl rfl rfl rfl rfl ?_
      refine ap (.bool false) rfl rfl rfl (pu_pick (b := false) rfl (AEv.tmp rfl) (fun h => nomatch h) (fun _ => (AEv.bool _))) ?_
      refine ap (.bool false) rfl rfl rfl (pu_assign rfl (AEv.tmp rfl)) ?_
      refine aops_nil ?_
      obtain rfl := some_of h
      exact ⟨(), Weak.mkL [] (by decide) trivial ⟨AEv.tmp rfl, trivial⟩⟩
  · intro _
    have h := h33
    refine aw_ret ?_
    obtain rfl := some_of h
    exact ⟨[.bool s32], _, [], ⟨(AEv.tmp rfl), trivial⟩, (AV.Le.refl _), Weak.mkL [] (by decide) trivial trivial, ⟨rfl, rfl⟩⟩

theorem mewslaw06.HashTurns.ok {n_ : Int} {b : Int} {r : Bool} (h : mewslaw06.HashTurns n_ b = some r) : Go.Lift.Spec prog 3 [.int .u64 n_, .int .i64 b] [] (fun v H => v = .bool r ∧ H = []) := by
  unfold mewslaw06.HashTurns at h
  refine Go.Lift.Spec.of_body (rs := [.tmp 4]) func3 rfl rfl (Nat.le_of_ble_eq_true rfl) rfl ?_
  refine aw_seq ?_
  refine aw_region ?_
  refine ap (.bool false) rfl rfl rfl (pu_assign rfl (AEv.bool _)) ?_
  refine aops_nil ?_
  obtain ⟨s39, s39e, h40⟩ := bind_some h
  refine aw_meet (ν := Unit) (fun v => [(4, .bool s39)]) (fun v => []) ?_ ?_
  · have h := s39e
    refine aw_region ?_
    refine ap (.int .u64 n_) rfl rfl rfl (pu_move rfl (AEv.tmp rfl)) ?_
    refine ap (.int .i64 b) rfl rfl rfl (pu_move rfl (AEv.tmp rfl)) ?_
    obtain ⟨r41, r41e, h⟩ := bind_some h
    refine ac rfl rfl rfl (op_call (vs := [.int .u64 n_, .int .i64 b]) (H := []) rfl call16 ⟨(AEv.tmp rfl), (AEv.tmp rfl), trivial⟩ (List.Perm.refl _) (hash.Turn.ok r41e) ?_)
    rintro _ _ ⟨rfl, rfl⟩
    refine ap (.int .u64 n_) rfl rfl rfl (pu_move rfl (AEv.tmp rfl)) ?_
    refine ap (.int .i64 b) rfl rfl rfl (pu_move rfl (AEv.tmp rfl)) ?_
    obtain ⟨r42, r42e, h⟩ := bind_some h
    refine ac rfl rfl rfl (op_call (vs := [.int .u64 n_, .int .i64 b]) (H := []) rfl call17 ⟨(AEv.tmp rfl), (AEv.tmp rfl), trivial⟩ (List.Perm.refl _) (mewsref06.Turn.ok r42e) ?_)
    rintro _ _ ⟨rfl, rfl⟩
    refine ap (.bool (decide (r41 = r42))) rfl rfl rfl (pu_int (v := .bool (decide (r41 = r42))) rfl rfl (AEv.tmp rfl) (AEv.tmp rfl) rfl) ?_
    refine ap (.bool (decide (r41 = r42))) rfl rfl rfl (pu_move rfl (AEv.tmp rfl)) ?_
    rcases Bool.eq_false_or_eq_true (decide (r41 = r42)) with hb43 | hb43
    · replace h := ite_t (dec_t hb43) h
      refine aops_known 12 rfl hb43 ?_
      refine agp (.int .u64 n_) rfl rfl rfl rfl rfl rfl rfl (pu_move rfl (AEv.tmp rfl)) ?_
      refine agp (.int .i64 b) rfl rfl rfl rfl rfl rfl rfl (pu_move rfl (AEv.tmp rfl)) ?_
      obtain ⟨r44, r44e, h⟩ := bind_some h
      refine ag rfl rfl rfl rfl rfl rfl rfl (op_call (vs := [.int .u64 n_, .int .i64 b]) (H := []) rfl call18 ⟨(AEv.tmp rfl), (AEv.tmp rfl), trivial⟩ (List.Perm.refl _) (hash.Next.ok r44e) ?_)
      rintro _ _ ⟨rfl, rfl⟩
      refine agp (.int .u64 n_) rfl rfl rfl rfl rfl rfl rfl (pu_move rfl (AEv.tmp rfl)) ?_
      refine agp (.int .i64 b) rfl rfl rfl rfl rfl rfl rfl (pu_move rfl (AEv.tmp rfl)) ?_
      obtain ⟨r45, r45e, h⟩ := bind_some h
      refine ag rfl rfl rfl rfl rfl rfl rfl (op_call (vs := [.int .u64 n_, .int .i64 b]) (H := []) rfl call19 ⟨(AEv.tmp rfl), (AEv.tmp rfl), trivial⟩ (List.Perm.refl _) (mewsref06.Next.ok r45e) ?_)
      rintro _ _ ⟨rfl, rfl⟩
      refine agp (.bool (decide (r44 = r45))) rfl rfl rfl rfl rfl rfl rfl (pu_int (v := .bool (decide (r44 = r45))) rfl rfl (AEv.tmp rfl) (AEv.tmp rfl) rfl) ?_
      refine ap (.bool (decide (r44 = r45))) rfl rfl rfl (pu_pick (b := true) rfl (AEv.tmp rfl) (fun _ => (AEv.tmp rfl)) (fun h => nomatch h)) ?_
      refine ap (.bool (decide (r44 = r45))) rfl rfl rfl (pu_move rfl (AEv.tmp rfl)) ?_
      rcases Bool.eq_false_or_eq_true (decide (r44 = r45)) with hb46 | hb46
      · replace h := ite_t (dec_t hb46) h
        refine aops_known 21 rfl hb46 ?_
        refine agp (.int .u64 n_) rfl rfl rfl rfl rfl rfl rfl (pu_move rfl (AEv.tmp rfl)) ?_
        refine agp (.int .i64 b) rfl rfl rfl rfl rfl rfl rfl (pu_move rfl (AEv.tmp rfl)) ?_
        obtain ⟨r47, r47e, h⟩ := bind_some h
        refine ag rfl rfl rfl rfl rfl rfl rfl (op_call (vs := [.int .u64 n_, .int .i64 b]) (H := []) rfl call16 ⟨(AEv.tmp rfl), (AEv.tmp rfl), trivial⟩ (List.Perm.refl _) (hash.Turn.ok r47e) ?_)
        rintro _ _ ⟨rfl, rfl⟩
        refine agp (.int .i64 b) rfl rfl rfl rfl rfl rfl rfl (pu_move rfl (AEv.tmp rfl)) ?_
        obtain ⟨r48, r48e, h⟩ := bind_some h
        refine ag rfl rfl rfl rfl rfl rfl rfl (op_call (vs := [.int .u64 r47, .int .i64 b]) (H := []) rfl call16 ⟨(AEv.tmp rfl), (AEv.tmp rfl), trivial⟩ (List.Perm.refl _) (hash.Turn.ok r48e) ?_)
        rintro _ _ ⟨rfl, rfl⟩
        refine agp (.int .u64 n_) rfl rfl rfl rfl rfl rfl rfl (pu_move rfl (AEv.tmp rfl)) ?_
        refine agp (.int .i64 b) rfl rfl rfl rfl rfl rfl rfl (pu_move rfl (AEv.tmp rfl)) ?_
        obtain ⟨r49, r49e, h⟩ := bind_some h
        refine ag rfl rfl rfl rfl rfl rfl rfl (op_call (vs := [.int .i64 b]) (H := []) rfl call20 ⟨(AEv.tmp rfl), trivial⟩ (List.Perm.refl _) (mewsref06.Places.ok r49e) ?_)
        rintro _ _ ⟨rfl, rfl⟩
        obtain ⟨c50, h⟩ := need_of h
        refine agp (.int .u64 (n_.tmod r49)) rfl rfl rfl rfl rfl rfl rfl (pu_rem rfl (AEv.tmp rfl) (AEv.tmp rfl) c50) ?_
        refine agp (.bool (decide (r48 = (n_.tmod r49)))) rfl rfl rfl rfl rfl rfl rfl (pu_int (v := .bool (decide (r48 = (n_.tmod r49)))) rfl rfl (AEv.tmp rfl) (AEv.tmp rfl) rfl) ?_
        refine ap (.bool (decide (r48 = (n_.tmod r49)))) rfl rfl rfl (pu_pick (b := true) rfl (AEv.tmp rfl) (fun _ => (AEv.tmp rfl)) (fun h => nomatch h)) ?_
        refine ap (.bool (decide (r48 = (n_.tmod r49)))) rfl rfl rfl (pu_move rfl (AEv.tmp rfl)) ?_
        rcases Bool.eq_false_or_eq_true (decide (r48 = (n_.tmod r49))) with hb51 | hb51
        · replace h := ite_t (dec_t hb51) h
          refine aops_known 33 rfl hb51 ?_
          obtain ⟨r52, r52e, h⟩ := bind_some h
          refine ag rfl rfl rfl rfl rfl rfl rfl (op_call (vs := []) (H := []) rfl call21 trivial (List.Perm.refl _) (mewslaw06.alive.ok r52e) ?_)
          rintro _ _ ⟨rfl, rfl⟩
          refine ap (.bool r52) rfl rfl rfl (pu_pick (b := true) rfl (AEv.tmp rfl) (fun _ => (AEv.tmp rfl)) (fun h => nomatch h)) ?_
          refine ap (.bool r52) rfl rfl rfl (pu_assign rfl (AEv.tmp rfl)) ?_
          refine aops_nil ?_
          obtain rfl := some_of h
          exact ⟨(), Weak.mkL [] (by decide) trivial ⟨AEv.tmp rfl, trivial⟩⟩
        · replace h := ite_f (dec_f hb51) h
          refine aops_known 33 rfl hb51 ?_
          refine an rfl rfl rfl rfl rfl rfl rfl rfl ?_
          refine ap (.bool false) rfl rfl rfl (pu_pick (b := false) rfl (AEv.tmp rfl) (fun h => nomatch h) (fun _ => (AEv.bool _))) ?_
          refine ap (.bool false) rfl rfl rfl (pu_assign rfl (AEv.tmp rfl)) ?_
          refine aops_nil ?_
          obtain rfl := some_of h
          exact ⟨(), Weak.mkL [] (by decide) trivial ⟨AEv.tmp rfl, trivial⟩⟩
      · replace h := ite_f (dec_f hb46) h
        refine aops_known 21 rfl hb46 ?_
        refine an rfl rfl rfl rfl rfl rfl rfl rfl ?_
        refine an rfl rfl rfl rfl rfl rfl rfl rfl ?_
        refine an rfl rfl rfl rfl rfl rfl rfl rfl ?_
        refine an rfl rfl rfl rfl rfl rfl rfl rfl ?_
        refine an rfl rfl rfl rfl rfl rfl rfl rfl ?_
        refine an rfl rfl rfl rfl rfl rfl rfl rfl ?_
        refine an rfl rfl rfl rfl rfl rfl rfl rfl ?_
        refine an rfl rfl rfl rfl rfl rfl rfl rfl ?_
        refine an rfl rfl rfl rfl rfl rfl rfl rfl ?_
        refine an rfl rfl rfl rfl rfl rfl rfl rfl ?_
        refine ap (.bool false) rfl rfl rfl (pu_pick (b := false) rfl (AEv.tmp rfl) (fun h => nomatch h) (fun _ => (AEv.bool _))) ?_
        refine ap (.bool false) rfl rfl rfl (pu_move rfl (AEv.tmp rfl)) ?_
        refine an rfl rfl rfl rfl rfl rfl rfl rfl ?_
        refine ap (.bool false) rfl rfl rfl (pu_pick (b := false) rfl (AEv.tmp rfl) (fun h => nomatch h) (fun _ => (AEv.bool _))) ?_
        refine ap (.bool false) rfl rfl rfl (pu_assign rfl (AEv.tmp rfl)) ?_
        refine aops_nil ?_
        obtain rfl := some_of h
        exact ⟨(), Weak.mkL [] (by decide) trivial ⟨AEv.tmp rfl, trivial⟩⟩
    · replace h := ite_f (dec_f hb43) h
      refine aops_known 12 rfl hb43 ?_
      refine an rfl rfl rfl rfl rfl rfl rfl rfl ?_
      refine an rfl rfl rfl rfl rfl rfl rfl rfl ?_
      refine an rfl rfl rfl rfl rfl rfl rfl rfl ?_
      refine an rfl rfl rfl rfl rfl rfl rfl rfl ?_
      refine an rfl rfl rfl rfl rfl rfl rfl rfl ?_
      refine an rfl rfl rfl rfl rfl rfl rfl rfl ?_
      refine an rfl rfl rfl rfl rfl rfl rfl rfl ?_
      refine ap (.bool false) rfl rfl rfl (pu_pick (b := false) rfl (AEv.tmp rfl) (fun h => nomatch h) (fun _ => (AEv.bool _))) ?_
      refine ap (.bool false) rfl rfl rfl (pu_move rfl (AEv.tmp rfl)) ?_
      refine an rfl rfl rfl rfl rfl rfl rfl rfl ?_
      refine an rfl rfl rfl rfl rfl rfl rfl rfl ?_
      refine an rfl rfl rfl rfl rfl rfl rfl rfl ?_
      refine an rfl rfl rfl rfl rfl rfl rfl rfl ?_
      refine an rfl rfl rfl rfl rfl rfl rfl rfl ?_
      refine an rfl rfl rfl rfl rfl rfl rfl rfl ?_
      refine an rfl rfl rfl rfl rfl rfl rfl rfl ?_
      refine an rfl rfl rfl rfl rfl rfl rfl rfl ?_
      refine an rfl rfl rfl rfl rfl rfl rfl rfl ?_
      refine an rfl rfl rfl rfl rfl rfl rfl rfl ?_
      refine ap (.bool false) rfl rfl rfl (pu_pick (b := false) rfl (AEv.tmp rfl) (fun h => nomatch h) (fun _ => (AEv.bool _))) ?_
      refine ap (.bool false) rfl rfl rfl (pu_move rfl (AEv.tmp rfl)) ?_
      refine an rfl rfl rfl rfl rfl rfl rfl rfl ?_
      refine ap (.bool false) rfl rfl rfl (pu_pick (b := false) rfl (AEv.tmp rfl) (fun h => nomatch h) (fun _ => (AEv.bool _))) ?_
      refine ap (.bool false) rfl rfl rfl (pu_assign rfl (AEv.tmp rfl)) ?_
      refine aops_nil ?_
      obtain rfl := some_of h
      exact ⟨(), Weak.mkL [] (by decide) trivial ⟨AEv.tmp rfl, trivial⟩⟩
  · intro _
    have h := h40
    refine aw_ret ?_
    obtain rfl := some_of h
    exact ⟨[.bool s39], _, [], ⟨(AEv.tmp rfl), trivial⟩, (AV.Le.refl _), Weak.mkL [] (by decide) trivial trivial, ⟨rfl, rfl⟩⟩

theorem mewslaw06.HashWalks.ok {b : Int} {r : Bool} (h : mewslaw06.HashWalks b = some r) : Go.Lift.Spec prog 4 [.int .i64 b] [] (fun v H => v = .bool r ∧ H = []) := by
  unfold mewslaw06.HashWalks at h
  refine Go.Lift.Spec.of_body (rs := [.tmp 2]) func4 rfl rfl (Nat.le_of_ble_eq_true rfl) rfl ?_
  refine aw_seq ?_
  refine aw_region ?_
  refine ap (.bool false) rfl rfl rfl (pu_assign rfl (AEv.bool _)) ?_
  refine aops_nil ?_
  refine aw_seq ?_
  refine aw_region ?_
  refine ap (.int .i64 b) rfl rfl rfl (pu_move rfl (AEv.tmp rfl)) ?_
  obtain ⟨r219, r219e, h⟩ := bind_some h
  refine ac rfl rfl rfl (op_call (vs := [.int .i64 b]) (H := []) rfl call22 ⟨(AEv.tmp rfl), trivial⟩ (List.Perm.refl _) (hash.Walk.ok r219e) ?_)
  rintro _ _ ⟨rfl, rfl⟩
  refine ap (.sl .no 1 (r219.map (AV.int .u64))) rfl rfl rfl (pu_assign rfl (AEv.tmp rfl)) ?_
  refine aops_nil ?_
  refine aw_seq ?_
  refine aw_region ?_
  refine ap (.int .i64 b) rfl rfl rfl (pu_move rfl (AEv.tmp rfl)) ?_
  obtain ⟨r220, r220e, h⟩ := bind_some h
  refine ac rfl rfl rfl (op_call (vs := [.int .i64 b]) (H := []) rfl call20 ⟨(AEv.tmp rfl), trivial⟩ (List.Perm.refl _) (mewsref06.Places.ok r220e) ?_)
  rintro _ _ ⟨rfl, rfl⟩
  refine ap (.int .u64 r220) rfl rfl rfl (pu_assign rfl (AEv.tmp rfl)) ?_
  refine aops_nil ?_
  refine aw_seq ?_
  obtain ⟨s222, s222e, h223⟩ := letO_of h
  refine aw_meet (ν := Unit) (fun v => [(0, .int .i64 b), (3, .sl .no 1 (r219.map (AV.int .u64))), (4, .int .u64 r220), (21, .bool s222)]) (fun v => []) ?_ ?_
  · have h := s222e.symm
    refine aw_region ?_
    refine ap (.sl .no 1 (r219.map (AV.int .u64))) rfl rfl rfl (pu_move rfl (AEv.tmp rfl)) ?_
    refine ap (.int .i64 (r219.length : Int)) rfl rfl rfl (pu_lenM rfl underlying27 (AEv.tmp rfl)) ?_
    refine ap (.bool (decide ((r219.length : Int) = 0))) rfl rfl rfl (pu_int (v := .bool (decide ((r219.length : Int) = 0))) rfl rfl (AEv.tmp rfl) (AEv.int _ _) rfl) ?_
    refine ap (.bool (decide ((r219.length : Int) = 0))) rfl rfl rfl (pu_move rfl (AEv.tmp rfl)) ?_
    rcases Bool.eq_false_or_eq_true (decide ((r219.length : Int) = 0)) with hb224 | hb224
    · replace h := ite_t (dec_t hb224) h
      refine aops_known 15 rfl hb224 ?_
      refine an rfl rfl rfl rfl rfl rfl rfl rfl ?_
      refine an rfl rfl rfl rfl rfl rfl rfl rfl ?_
      refine an rfl rfl rfl rfl rfl rfl rfl rfl ?_
      refine an rfl rfl rfl rfl rfl rfl rfl rfl ?_
      refine an rfl rfl rfl rfl rfl rfl rfl rfl ?_
      refine ap (.bool true) rfl rfl rfl (pu_pick (b := true) rfl (AEv.tmp rfl) (fun _ => (AEv.bool _)) (fun h => nomatch h)) ?_
      refine aops_nil ?_
      subst h
      exact ⟨(), Weak.mkL [] (by decide) trivial ⟨AEv.tmp rfl, AEv.tmp rfl, AEv.tmp rfl, AEv.tmp rfl, trivial⟩⟩
    · replace h := ite_f (dec_f hb224) h
      refine aops_known 15 rfl hb224 ?_
      refine agp (.sl .no 1 (r219.map (AV.int .u64))) rfl rfl rfl rfl rfl rfl rfl (pu_move rfl (AEv.tmp rfl)) ?_
      refine agp (.int .i64 (r219.length : Int)) rfl rfl rfl rfl rfl rfl rfl (pu_lenM rfl underlying27 (AEv.tmp rfl)) ?_
      refine agp (.int .u64 (IntKind.wrap .u64 (r219.length : Int))) rfl rfl rfl rfl rfl rfl rfl (pu_conv rfl underlying3 underlying22 (AEv.tmp rfl)) ?_
      refine agp (.int .u64 r220) rfl rfl rfl rfl rfl rfl rfl (pu_move rfl (AEv.tmp rfl)) ?_
      refine agp (.bool (!decide ((IntKind.wrap .u64 (r219.length : Int)) = r220))) rfl rfl rfl rfl rfl rfl rfl (pu_int (v := .bool (!decide ((IntKind.wrap .u64 (r219.length : Int)) = r220))) rfl rfl (AEv.tmp rfl) (AEv.tmp rfl) rfl) ?_
      refine ap (.bool (!decide ((IntKind.wrap .u64 (r219.length : Int)) = r220))) rfl rfl rfl (pu_pick (b := false) rfl (AEv.tmp rfl) (fun h => nomatch h) (fun _ => (AEv.tmp rfl))) ?_
      refine aops_nil ?_
      subst h
      exact ⟨(), Weak.mkL [] (by decide) trivial ⟨AEv.tmp rfl, AEv.tmp rfl, AEv.tmp rfl, AEv.tmp rfl, trivial⟩⟩
  · intro _
    have h := h223
    refine aw_cond (b := s222) (AEv.tmp rfl) (fun hb436 => ?_) (fun hb436 => ?_)
    · replace h := ite_t hb436 h
      refine aw_seq ?_
      refine aw_region ?_
      refine ap (.bool false) rfl rfl rfl (pu_assign rfl (AEv.bool _)) ?_
      refine aops_nil ?_
      refine aw_ret ?_
      obtain rfl := some_of h
      exact ⟨[.bool false], _, [], ⟨(AEv.tmp rfl), trivial⟩, (AV.Le.refl _), Weak.mkL [] (by decide) trivial trivial, ⟨rfl, rfl⟩⟩
    · replace h := ite_fb hb436 h
      refine aw_skip ?_
      refine aw_seq ?_
      refine aw_region ?_
      refine ap (.int .u64 r220) rfl rfl rfl (pu_move rfl (AEv.tmp rfl)) ?_
      obtain ⟨c225, h⟩ := need_of h
      refine ac rfl rfl rfl (op_makeVecM (f := AV.bool) (z := false) rfl underlying29 typeInfo4 rfl rfl (by decide) rfl rfl (by decide) (AEv.tmp rfl) (AEv.tmp rfl) c225 ?_)
      intro p226
      refine ap (.vec p226) rfl rfl rfl (pu_assign rfl (AEv.tmp rfl)) ?_
      refine aops_nil ?_
      obtain ⟨s435, s435e, h326⟩ := bind_some h
      refine aw_join (σ := Unit) (ν := Unit) (fun u v => [(0, .int .i64 b), (3, .sl .no 1 (r219.map (AV.int .u64)))]) (fun u v => []) (fun u => s435 = .inl u) ?_ ?_
      · intro s325
        intro _
        rintro rfl
        have h := onSum_inl h326
        obtain ⟨s429, s429e, h430⟩ := bind_some h
        refine aw_meet (ν := Unit) (fun v => [(2, .bool s429)]) (fun v => []) ?_ ?_
        · have h := s429e
          refine aw_region ?_
          refine ap (.sl .no 1 (r219.map (AV.int .u64))) rfl rfl rfl (pu_move rfl (AEv.tmp rfl)) ?_
          refine ap (.sl .no 1 (r219.map (AV.int .u64))) rfl rfl rfl (pu_move rfl (AEv.tmp rfl)) ?_
          refine ap (.int .i64 (r219.length : Int)) rfl rfl rfl (pu_lenM rfl underlying27 (AEv.tmp rfl)) ?_
          refine ap (.int .i64 (IntKind.wrap .i64 ((r219.length : Int) - 1))) rfl rfl rfl (pu_int (v := .int .i64 (IntKind.wrap .i64 ((r219.length : Int) - 1))) rfl rfl (AEv.tmp rfl) (AEv.int _ _) rfl) ?_
          obtain ⟨c431, h⟩ := need_of h
          refine ap (.vptr [.int .u64 (ix r219 (IntKind.wrap .i64 ((r219.length : Int) - 1)))]) rfl rfl rfl (pu_indexAddrM rfl underlying27 sizeOf22 (AEv.tmp rfl) (AEv.tmp rfl) c431 rfl) ?_
          refine ac rfl rfl rfl (op_loadV1 rfl isAgg22 (AEv.tmp rfl) rfl ?_)
          refine ap (.int .i64 b) rfl rfl rfl (pu_move rfl (AEv.tmp rfl)) ?_
          obtain ⟨r432, r432e, h⟩ := bind_some h
          refine ac rfl rfl rfl (op_call (vs := [.int .u64 (ix r219 (IntKind.wrap .i64 ((r219.length : Int) - 1))), .int .i64 b]) (H := []) rfl call18 ⟨(AEv.tmp rfl), (AEv.tmp rfl), trivial⟩ (List.Perm.refl _) (hash.Next.ok r432e) ?_)
          rintro _ _ ⟨rfl, rfl⟩
          refine ap (.bool (decide (r432 = 0))) rfl rfl rfl (pu_int (v := .bool (decide (r432 = 0))) rfl rfl (AEv.tmp rfl) (AEv.int _ _) rfl) ?_
          refine ap (.bool (decide (r432 = 0))) rfl rfl rfl (pu_move rfl (AEv.tmp rfl)) ?_
          rcases Bool.eq_false_or_eq_true (decide (r432 = 0)) with hb433 | hb433
          · replace h := ite_t (dec_t hb433) h
            refine aops_known 76 rfl hb433 ?_
            obtain ⟨r434, r434e, h⟩ := bind_some h
            refine ag rfl rfl rfl rfl rfl rfl rfl (op_call (vs := []) (H := []) rfl call21 trivial (List.Perm.refl _) (mewslaw06.alive.ok r434e) ?_)
            rintro _ _ ⟨rfl, rfl⟩
            refine ap (.bool r434) rfl rfl rfl (pu_pick (b := true) rfl (AEv.tmp rfl) (fun _ => (AEv.tmp rfl)) (fun h => nomatch h)) ?_
            refine ap (.bool r434) rfl rfl rfl (pu_assign rfl (AEv.tmp rfl)) ?_
            refine aops_nil ?_
            obtain rfl := some_of h
            exact ⟨(), Weak.mkL [] (by decide) trivial ⟨AEv.tmp rfl, trivial⟩⟩
          · replace h := ite_f (dec_f hb433) h
            refine aops_known 76 rfl hb433 ?_
            refine an rfl rfl rfl rfl rfl rfl rfl rfl ?_
            refine ap (.bool false) rfl rfl rfl (pu_pick (b := false) rfl (AEv.tmp rfl) (fun h => nomatch h) (fun _ => (AEv.bool _))) ?_
            refine ap (.bool false) rfl rfl rfl (pu_assign rfl (AEv.tmp rfl)) ?_
            refine aops_nil ?_
            obtain rfl := some_of h
            exact ⟨(), Weak.mkL [] (by decide) trivial ⟨AEv.tmp rfl, trivial⟩⟩
        · intro _
          have h := h430
          refine aw_ret ?_
          obtain rfl := some_of h
          exact ⟨[.bool s429], _, [], ⟨(AEv.tmp rfl), trivial⟩, (AV.Le.refl _), Weak.mkL [] (by decide) trivial trivial, ⟨rfl, rfl⟩⟩
      · have h := s435e
        refine aw_seq ?_
        refine aw_region ?_
        refine ap (.sl .no 1 (r219.map (AV.int .u64))) rfl rfl rfl (pu_move rfl (AEv.tmp rfl)) ?_
        refine ap (.int .i64 (r219.length : Int)) rfl rfl rfl (pu_lenM rfl underlying27 (AEv.tmp rfl)) ?_
        refine ap (.int .i64 0) rfl rfl rfl (pu_move rfl (AEv.int _ _)) ?_
        refine aops_nil ?_
        refine aw_block ?_
        refine aw_while (σ := mewslaw06.HashWalks.S0) (ν := Unit) (mewslaw06.HashWalks.body0 r219 r220 b) (fun s391 v => [(0, .int .i64 b), (3, .sl .no 1 (r219.map (AV.int .u64))), (4, .int .u64 r220), (5, .vec p226), (24, .sl .no 1 (r219.map (AV.int .u64))), (25, .int .i64 (r219.length : Int)), (26, .int .i64 s391.t26)]) (fun s391 v => [(p226, .vec 1 (s391.v.map AV.bool))]) ⟨0, List.replicate (Int.toNat r220) (false : Bool)⟩ () _ h (Weak.mkL [0] (by decide) ⟨⟨_, rfl, rfl⟩, trivial⟩ ⟨AEv.tmp rfl, AEv.tmp rfl, AEv.tmp rfl, AEv.tmp rfl, AEv.tmp rfl, AEv.tmp rfl, AEv.tmp rfl, trivial⟩) ?_
        rintro s391 _ x393 h hx392
        unfold mewslaw06.HashWalks.body0 at h
        refine aw_seq ?_
        refine aw_region ?_
        refine ap (.bool (decide (s391.t26 < (r219.length : Int)))) rfl rfl rfl (pu_int (v := .bool (decide (s391.t26 < (r219.length : Int)))) rfl rfl (AEv.tmp rfl) (AEv.tmp rfl) rfl) ?_
        refine aops_nil ?_
        refine aw_seq ?_
        refine aw_cond (b := decide (s391.t26 < (r219.length : Int))) (AEv.tmp rfl) (fun hb424 => ?_) (fun hb424 => ?_)
        · replace h := ite_t (dec_t hb424) h
          refine aw_skip ?_
          refine aw_seq ?_
          refine aw_block ?_
          refine aw_seq ?_
          refine aw_region ?_
          refine ap (.int .i64 s391.t26) rfl rfl rfl (pu_move rfl (AEv.tmp rfl)) ?_
          obtain ⟨c394, h⟩ := need_of h
          refine ap (.vptr [.int .u64 (ix r219 s391.t26)]) rfl rfl rfl (pu_indexAddrM rfl underlying27 sizeOf22 (AEv.tmp rfl) (AEv.tmp rfl) c394 rfl) ?_
          refine ac rfl rfl rfl (op_loadV1 rfl isAgg22 (AEv.tmp rfl) rfl ?_)
          refine ap (.int .i64 s391.t26) rfl rfl rfl (pu_assign rfl (AEv.tmp rfl)) ?_
          refine ap (.int .u64 (ix r219 s391.t26)) rfl rfl rfl (pu_assign rfl (AEv.tmp rfl)) ?_
          refine aops_nil ?_
          refine aw_seq ?_
          obtain ⟨s407, s407e, h408⟩ := bind_some h
          refine aw_meet (ν := Unit) (fun v => [(0, .int .i64 b), (3, .sl .no 1 (r219.map (AV.int .u64))), (4, .int .u64 r220), (5, .vec p226), (7, .int .u64 (ix r219 s391.t26)), (24, .sl .no 1 (r219.map (AV.int .u64))), (25, .int .i64 (r219.length : Int)), (26, .int .i64 s391.t26), (62, .bool s407)]) (fun v => [(p226, .vec 1 (s391.v.map AV.bool))]) ?_ ?_
          · have h := s407e
            refine aw_region ?_
            refine ap (.int .u64 (ix r219 s391.t26)) rfl rfl rfl (pu_move rfl (AEv.tmp rfl)) ?_
            refine ap (.int .u64 r220) rfl rfl rfl (pu_move rfl (AEv.tmp rfl)) ?_
            refine ap (.bool (decide (r220 ≤ (ix r219 s391.t26)))) rfl rfl rfl (pu_int (v := .bool (decide (r220 ≤ (ix r219 s391.t26)))) rfl rfl (AEv.tmp rfl) (AEv.tmp rfl) rfl) ?_
            refine ap (.bool (decide (r220 ≤ (ix r219 s391.t26)))) rfl rfl rfl (pu_move rfl (AEv.tmp rfl)) ?_
            rcases Bool.eq_false_or_eq_true (decide (r220 ≤ (ix r219 s391.t26))) with hb409 | hb409
            · replace h := ite_t (dec_t hb409) h
              refine aops_known 34 rfl hb409 ?_
              refine an rfl rfl rfl rfl rfl rfl rfl rfl ?_
              refine an rfl rfl rfl rfl rfl rfl rfl rfl ?_
              refine an rfl rfl rfl rfl rfl rfl rfl rfl ?_
              refine an rfl rfl rfl rfl rfl rfl rfl rfl ?_
              refine ap (.bool true) rfl rfl rfl (pu_pick (b := true) rfl (AEv.tmp rfl) (fun _ => (AEv.bool _)) (fun h => nomatch h)) ?_
              refine ap (.bool true) rfl rfl rfl (pu_move rfl (AEv.tmp rfl)) ?_
              refine an rfl rfl rfl rfl rfl rfl rfl rfl ?_
              refine an rfl rfl rfl rfl rfl rfl rfl rfl ?_
              refine an rfl rfl rfl rfl rfl rfl rfl rfl ?_
              refine an2 rfl rfl rfl rfl rfl rfl rfl ?_
              refine an2 rfl rfl rfl rfl rfl rfl rfl ?_
              refine an rfl rfl rfl rfl rfl rfl rfl rfl ?_
              refine ap (.bool true) rfl rfl rfl (pu_pick (b := true) rfl (AEv.tmp rfl) (fun _ => (AEv.bool _)) (fun h => nomatch h)) ?_
              refine ap (.bool true) rfl rfl rfl (pu_move rfl (AEv.tmp rfl)) ?_
              refine an rfl rfl rfl rfl rfl rfl rfl rfl ?_
              refine an rfl rfl rfl rfl rfl rfl rfl rfl ?_
              refine an rfl rfl rfl rfl rfl rfl rfl rfl ?_
              refine an2 rfl rfl rfl rfl rfl rfl rfl ?_
              refine an2 rfl rfl rfl rfl rfl rfl rfl ?_
              refine an2 rfl rfl rfl rfl rfl rfl rfl ?_
              refine an2 rfl rfl rfl rfl rfl rfl rfl ?_
              refine an2 rfl rfl rfl rfl rfl rfl rfl ?_
              refine an2 rfl rfl rfl rfl rfl rfl rfl ?_
              refine an2 rfl rfl rfl rfl rfl rfl rfl ?_
              refine an2 rfl rfl rfl rfl rfl rfl rfl ?_
              refine an2 rfl rfl rfl rfl rfl rfl rfl ?_
              refine an rfl rfl rfl rfl rfl rfl rfl rfl ?_
              refine ap (.bool true) rfl rfl rfl (pu_pick (b := true) rfl (AEv.tmp rfl) (fun _ => (AEv.bool _)) (fun h => nomatch h)) ?_
              refine aops_nil ?_
              obtain rfl := some_of h
              exact ⟨(), Weak.mkL [0] (by decide) ⟨⟨_, rfl, rfl⟩, trivial⟩ ⟨AEv.tmp rfl, AEv.tmp rfl, AEv.tmp rfl, AEv.tmp rfl, AEv.tmp rfl, AEv.tmp rfl, AEv.tmp rfl, AEv.tmp rfl, AEv.tmp rfl, trivial⟩⟩
            · replace h := ite_f (dec_f hb409) h
              refine aops_known 34 rfl hb409 ?_
              refine agp (.vec p226) rfl rfl rfl rfl rfl rfl rfl (pu_move rfl (AEv.tmp rfl)) ?_
              refine agp (.int .u64 (ix r219 s391.t26)) rfl rfl rfl rfl rfl rfl rfl (pu_move rfl (AEv.tmp rfl)) ?_
              obtain ⟨c410, h⟩ := need_of h
              refine ag rfl rfl rfl rfl rfl rfl rfl (op_indexAddrVecM rfl underlying29 sizeOf4 (AEv.tmp rfl) (j := 0) rfl (AEv.tmp rfl) c410 ?_)
              obtain ⟨c411, h⟩ := need_of h
              refine ag rfl rfl rfl rfl rfl rfl rfl (op_loadE1M (i := 0) (sz := 1) rfl isAgg4 (AEv.tmp rfl) rfl c411 (by decide) rfl ?_)
              refine ap (.bool (ix s391.v (ix r219 s391.t26))) rfl rfl rfl (pu_pick (b := false) rfl (AEv.tmp rfl) (fun h => nomatch h) (fun _ => (AEv.tmp rfl))) ?_
              refine ap (.bool (ix s391.v (ix r219 s391.t26))) rfl rfl rfl (pu_move rfl (AEv.tmp rfl)) ?_
              rcases Bool.eq_false_or_eq_true (ix s391.v (ix r219 s391.t26)) with hb412 | hb412
              · replace h := ite_t hb412 h
                refine aops_known 40 rfl hb412 ?_
                refine an rfl rfl rfl rfl rfl rfl rfl rfl ?_
                refine an rfl rfl rfl rfl rfl rfl rfl rfl ?_
                refine an rfl rfl rfl rfl rfl rfl rfl rfl ?_
                refine an2 rfl rfl rfl rfl rfl rfl rfl ?_
                refine an2 rfl rfl rfl rfl rfl rfl rfl ?_
                refine an rfl rfl rfl rfl rfl rfl rfl rfl ?_
                refine ap (.bool true) rfl rfl rfl (pu_pick (b := true) rfl (AEv.tmp rfl) (fun _ => (AEv.bool _)) (fun h => nomatch h)) ?_
                refine ap (.bool true) rfl rfl rfl (pu_move rfl (AEv.tmp rfl)) ?_
                refine an rfl rfl rfl rfl rfl rfl rfl rfl ?_
                refine an rfl rfl rfl rfl rfl rfl rfl rfl ?_
                refine an rfl rfl rfl rfl rfl rfl rfl rfl ?_
                refine an2 rfl rfl rfl rfl rfl rfl rfl ?_
                refine an2 rfl rfl rfl rfl rfl rfl rfl ?_
                refine an2 rfl rfl rfl rfl rfl rfl rfl ?_
                refine an2 rfl rfl rfl rfl rfl rfl rfl ?_
                refine an2 rfl rfl rfl rfl rfl rfl rfl ?_
                refine an2 rfl rfl rfl rfl rfl rfl rfl ?_
                refine an2 rfl rfl rfl rfl rfl rfl rfl ?_
                refine an2 rfl rfl rfl rfl rfl rfl rfl ?_
                refine an2 rfl rfl rfl rfl rfl rfl rfl ?_
                refine an rfl rfl rfl rfl rfl rfl rfl rfl ?_
                refine ap (.bool true) rfl rfl rfl (pu_pick (b := true) rfl (AEv.tmp rfl) (fun _ => (AEv.bool _)) (fun h => nomatch h)) ?_
                refine aops_nil ?_
                obtain rfl := some_of h
                exact ⟨(), Weak.mkL [0] (by decide) ⟨⟨_, rfl, rfl⟩, trivial⟩ ⟨AEv.tmp rfl, AEv.tmp rfl, AEv.tmp rfl, AEv.tmp rfl, AEv.tmp rfl, AEv.tmp rfl, AEv.tmp rfl, AEv.tmp rfl, AEv.tmp rfl, trivial⟩⟩
              · replace h := ite_fb hb412 h
                refine aops_known 40 rfl hb412 ?_
                refine agp (.int .i64 s391.t26) rfl rfl rfl rfl rfl rfl rfl (pu_move rfl (AEv.tmp rfl)) ?_
                refine agp (.bool (decide (s391.t26 = 0))) rfl rfl rfl rfl rfl rfl rfl (pu_int (v := .bool (decide (s391.t26 = 0))) rfl rfl (AEv.tmp rfl) (AEv.int _ _) rfl) ?_
                refine agp (.bool (decide (s391.t26 = 0))) rfl rfl rfl rfl rfl rfl rfl (pu_move rfl (AEv.tmp rfl)) ?_
                rcases Bool.eq_false_or_eq_true (decide (s391.t26 = 0)) with hb413 | hb413
                · replace h := ite_t (dec_t hb413) h
                  refine aops_known 43 rfl hb413 ?_
                  refine agp (.int .u64 (ix r219 s391.t26)) rfl rfl rfl rfl rfl rfl rfl (pu_move rfl (AEv.tmp rfl)) ?_
                  refine agp (.bool (!decide ((ix r219 s391.t26) = 0))) rfl rfl rfl rfl rfl rfl rfl (pu_int (v := .bool (!decide ((ix r219 s391.t26) = 0))) rfl rfl (AEv.tmp rfl) (AEv.int _ _) rfl) ?_
                  refine agp (.bool (!decide ((ix r219 s391.t26) = 0))) rfl rfl rfl rfl rfl rfl rfl (pu_pick (b := true) rfl (AEv.tmp rfl) (fun _ => (AEv.tmp rfl)) (fun h => nomatch h)) ?_
                  refine ap (.bool (!decide ((ix r219 s391.t26) = 0))) rfl rfl rfl (pu_pick (b := false) rfl (AEv.tmp rfl) (fun h => nomatch h) (fun _ => (AEv.tmp rfl))) ?_
                  refine ap (.bool (!decide ((ix r219 s391.t26) = 0))) rfl rfl rfl (pu_move rfl (AEv.tmp rfl)) ?_
                  rcases Bool.eq_false_or_eq_true (!decide ((ix r219 s391.t26) = 0)) with hb414 | hb414
                  · replace h := ite_f (ndec_t hb414) h
                    refine aops_known 48 rfl hb414 ?_
                    refine an rfl rfl rfl rfl rfl rfl rfl rfl ?_
                    refine an rfl rfl rfl rfl rfl rfl rfl rfl ?_
                    refine an rfl rfl rfl rfl rfl rfl rfl rfl ?_
                    refine an2 rfl rfl rfl rfl rfl rfl rfl ?_
                    refine an2 rfl rfl rfl rfl rfl rfl rfl ?_
                    refine an2 rfl rfl rfl rfl rfl rfl rfl ?_
                    refine an2 rfl rfl rfl rfl rfl rfl rfl ?_
                    refine an2 rfl rfl rfl rfl rfl rfl rfl ?_
                    refine an2 rfl rfl rfl rfl rfl rfl rfl ?_
                    refine an2 rfl rfl rfl rfl rfl rfl rfl ?_
                    refine an2 rfl rfl rfl rfl rfl rfl rfl ?_
                    refine an2 rfl rfl rfl rfl rfl rfl rfl ?_
                    refine an rfl rfl rfl rfl rfl rfl rfl rfl ?_
                    refine ap (.bool true) rfl rfl rfl (pu_pick (b := true) rfl (AEv.tmp rfl) (fun _ => (AEv.bool _)) (fun h => nomatch h)) ?_
                    refine aops_nil ?_
                    obtain rfl := some_of h
                    exact ⟨(), Weak.mkL [0] (by decide) ⟨⟨_, rfl, rfl⟩, trivial⟩ ⟨AEv.tmp rfl, AEv.tmp rfl, AEv.tmp rfl, AEv.tmp rfl, AEv.tmp rfl, AEv.tmp rfl, AEv.tmp rfl, AEv.tmp rfl, AEv.tmp rfl, trivial⟩⟩
                  · replace h := ite_t (ndec_f hb414) h
                    refine aops_known 48 rfl hb414 ?_
                    refine agp (.int .i64 s391.t26) rfl rfl rfl rfl rfl rfl rfl (pu_move rfl (AEv.tmp rfl)) ?_
                    refine agp (.bool (decide (0 < s391.t26))) rfl rfl rfl rfl rfl rfl rfl (pu_int (v := .bool (decide (0 < s391.t26))) rfl rfl (AEv.tmp rfl) (AEv.int _ _) rfl) ?_
                    refine agp (.bool (decide (0 < s391.t26))) rfl rfl rfl rfl rfl rfl rfl (pu_move rfl (AEv.tmp rfl)) ?_
                    rcases Bool.eq_false_or_eq_true (decide (0 < s391.t26)) with hb415 | hb415
                    · replace h := ite_t (dec_t hb415) h
                      refine aops_known 51 rfl hb415 ?_
                      refine agp (.sl .no 1 (r219.map (AV.int .u64))) rfl rfl rfl rfl rfl rfl rfl (pu_move rfl (AEv.tmp rfl)) ?_
                      refine agp (.int .i64 s391.t26) rfl rfl rfl rfl rfl rfl rfl (pu_move rfl (AEv.tmp rfl)) ?_
                      refine agp (.int .i64 (IntKind.wrap .i64 (s391.t26 - 1))) rfl rfl rfl rfl rfl rfl rfl (pu_int (v := .int .i64 (IntKind.wrap .i64 (s391.t26 - 1))) rfl rfl (AEv.tmp rfl) (AEv.int _ _) rfl) ?_
                      obtain ⟨c416, h⟩ := need_of h
                      refine agp (.vptr [.int .u64 (ix r219 (IntKind.wrap .i64 (s391.t26 - 1)))]) rfl rfl rfl rfl rfl rfl rfl (pu_indexAddrM rfl underlying27 sizeOf22 (AEv.tmp rfl) (AEv.tmp rfl) c416 rfl) ?_
                      refine ag rfl rfl rfl rfl rfl rfl rfl (op_loadV1 rfl isAgg22 (AEv.tmp rfl) rfl ?_)
                      refine agp (.int .i64 b) rfl rfl rfl rfl rfl rfl rfl (pu_move rfl (AEv.tmp rfl)) ?_
                      obtain ⟨r417, r417e, h⟩ := bind_some h
                      refine ag rfl rfl rfl rfl rfl rfl rfl (op_call (vs := [.int .u64 (ix r219 (IntKind.wrap .i64 (s391.t26 - 1))), .int .i64 b]) (H := []) rfl call18 ⟨(AEv.tmp rfl), (AEv.tmp rfl), trivial⟩ (List.Perm.refl _) (hash.Next.ok r417e) ?_)
                      rintro _ _ ⟨rfl, rfl⟩
                      refine agp (.int .u64 (ix r219 s391.t26)) rfl rfl rfl rfl rfl rfl rfl (pu_move rfl (AEv.tmp rfl)) ?_
                      refine agp (.bool (!decide (r417 = (ix r219 s391.t26)))) rfl rfl rfl rfl rfl rfl rfl (pu_int (v := .bool (!decide (r417 = (ix r219 s391.t26)))) rfl rfl (AEv.tmp rfl) (AEv.tmp rfl) rfl) ?_
                      refine agp (.bool (!decide (r417 = (ix r219 s391.t26)))) rfl rfl rfl rfl rfl rfl rfl (pu_pick (b := true) rfl (AEv.tmp rfl) (fun _ => (AEv.tmp rfl)) (fun h => nomatch h)) ?_
                      refine ap (.bool (!decide (r417 = (ix r219 s391.t26)))) rfl rfl rfl (pu_pick (b := false) rfl (AEv.tmp rfl) (fun h => nomatch h) (fun _ => (AEv.tmp rfl))) ?_
                      refine aops_nil ?_
                      obtain rfl := some_of h
                      exact ⟨(), Weak.mkL [0] (by decide) ⟨⟨_, rfl, rfl⟩, trivial⟩ ⟨AEv.tmp rfl, AEv.tmp rfl, AEv.tmp rfl, AEv.tmp rfl, AEv.tmp rfl, AEv.tmp rfl, AEv.tmp rfl, AEv.tmp rfl, AEv.tmp rfl, trivial⟩⟩
                    · replace h := ite_f (dec_f hb415) h
                      refine aops_known 51 rfl hb415 ?_
                      refine an rfl rfl rfl rfl rfl rfl rfl rfl ?_
                      refine an rfl rfl rfl rfl rfl rfl rfl rfl ?_
                      refine an rfl rfl rfl rfl rfl rfl rfl rfl ?_
                      refine an rfl rfl rfl rfl rfl rfl rfl rfl ?_
                      refine an rfl rfl rfl rfl rfl rfl rfl rfl ?_
                      refine an rfl rfl rfl rfl rfl rfl rfl rfl ?_
                      refine an rfl rfl rfl rfl rfl rfl rfl rfl ?_
                      refine an rfl rfl rfl rfl rfl rfl rfl rfl ?_
                      refine an rfl rfl rfl rfl rfl rfl rfl rfl ?_
                      refine agp (.bool false) rfl rfl rfl rfl rfl rfl rfl (pu_pick (b := false) rfl (AEv.tmp rfl) (fun h => nomatch h) (fun _ => (AEv.bool _))) ?_
                      refine ap (.bool false) rfl rfl rfl (pu_pick (b := false) rfl (AEv.tmp rfl) (fun h => nomatch h) (fun _ => (AEv.tmp rfl))) ?_
                      refine aops_nil ?_
                      obtain rfl := some_of h
                      exact ⟨(), Weak.mkL [0] (by decide) ⟨⟨_, rfl, rfl⟩, trivial⟩ ⟨AEv.tmp rfl, AEv.tmp rfl, AEv.tmp rfl, AEv.tmp rfl, AEv.tmp rfl, AEv.tmp rfl, AEv.tmp rfl, AEv.tmp rfl, AEv.tmp rfl, trivial⟩⟩
                · replace h := ite_f (dec_f hb413) h
                  refine aops_known 43 rfl hb413 ?_
                  refine an rfl rfl rfl rfl rfl rfl rfl rfl ?_
                  refine an rfl rfl rfl rfl rfl rfl rfl rfl ?_
                  refine agp (.bool false) rfl rfl rfl rfl rfl rfl rfl (pu_pick (b := false) rfl (AEv.tmp rfl) (fun h => nomatch h) (fun _ => (AEv.bool _))) ?_
                  refine ap (.bool false) rfl rfl rfl (pu_pick (b := false) rfl (AEv.tmp rfl) (fun h => nomatch h) (fun _ => (AEv.tmp rfl))) ?_
                  refine ap (.bool false) rfl rfl rfl (pu_move rfl (AEv.tmp rfl)) ?_
                  refine agp (.int .i64 s391.t26) rfl rfl rfl rfl rfl rfl rfl (pu_move rfl (AEv.tmp rfl)) ?_
                  refine agp (.bool (decide (0 < s391.t26))) rfl rfl rfl rfl rfl rfl rfl (pu_int (v := .bool (decide (0 < s391.t26))) rfl rfl (AEv.tmp rfl) (AEv.int _ _) rfl) ?_
                  refine agp (.bool (decide (0 < s391.t26))) rfl rfl rfl rfl rfl rfl rfl (pu_move rfl (AEv.tmp rfl)) ?_
                  rcases Bool.eq_false_or_eq_true (decide (0 < s391.t26)) with hb418 | hb418
                  · replace h := ite_t (dec_t hb418) h
                    refine aops_known 51 rfl hb418 ?_
                    refine agp (.sl .no 1 (r219.map (AV.int .u64))) rfl rfl rfl rfl rfl rfl rfl (pu_move rfl (AEv.tmp rfl)) ?_
                    refine agp (.int .i64 s391.t26) rfl rfl rfl rfl rfl rfl rfl (pu_move rfl (AEv.tmp rfl)) ?_
                    refine agp (.int .i64 (IntKind.wrap .i64 (s391.t26 - 1))) rfl rfl rfl rfl rfl rfl rfl (pu_int (v := .int .i64 (IntKind.wrap .i64 (s391.t26 - 1))) rfl rfl (AEv.tmp rfl) (AEv.int _ _) rfl) ?_
                    obtain ⟨c419, h⟩ := need_of h
                    refine agp (.vptr [.int .u64 (ix r219 (IntKind.wrap .i64 (s391.t26 - 1)))]) rfl rfl rfl rfl rfl rfl rfl (pu_indexAddrM rfl underlying27 sizeOf22 (AEv.tmp rfl) (AEv.tmp rfl) c419 rfl) ?_
                    refine ag rfl rfl rfl rfl rfl rfl rfl (op_loadV1 rfl isAgg22 (AEv.tmp rfl) rfl ?_)
                    refine agp (.int .i64 b) rfl rfl rfl rfl rfl rfl rfl (pu_move rfl (AEv.tmp rfl)) ?_
                    obtain ⟨r420, r420e, h⟩ := bind_some h
                    refine ag rfl rfl rfl rfl rfl rfl rfl (op_call (vs := [.int .u64 (ix r219 (IntKind.wrap .i64 (s391.t26 - 1))), .int .i64 b]) (H := []) rfl call18 ⟨(AEv.tmp rfl), (AEv.tmp rfl), trivial⟩ (List.Perm.refl _) (hash.Next.ok r420e) ?_)
                    rintro _ _ ⟨rfl, rfl⟩
                    refine agp (.int .u64 (ix r219 s391.t26)) rfl rfl rfl rfl rfl rfl rfl (pu_move rfl (AEv.tmp rfl)) ?_
                    refine agp (.bool (!decide (r420 = (ix r219 s391.t26)))) rfl rfl rfl rfl rfl rfl rfl (pu_int (v := .bool (!decide (r420 = (ix r219 s391.t26)))) rfl rfl (AEv.tmp rfl) (AEv.tmp rfl) rfl) ?_
                    refine agp (.bool (!decide (r420 = (ix r219 s391.t26)))) rfl rfl rfl rfl rfl rfl rfl (pu_pick (b := true) rfl (AEv.tmp rfl) (fun _ => (AEv.tmp rfl)) (fun h => nomatch h)) ?_
                    refine ap (.bool (!decide (r420 = (ix r219 s391.t26)))) rfl rfl rfl (pu_pick (b := false) rfl (AEv.tmp rfl) (fun h => nomatch h) (fun _ => (AEv.tmp rfl))) ?_
                    refine aops_nil ?_
                    obtain rfl := some_of h
                    exact ⟨(), Weak.mkL [0] (by decide) ⟨⟨_, rfl, rfl⟩, trivial⟩ ⟨AEv.tmp rfl, AEv.tmp rfl, AEv.tmp rfl, AEv.tmp rfl, AEv.tmp rfl, AEv.tmp rfl, AEv.tmp rfl, AEv.tmp rfl, AEv.tmp rfl, trivial⟩⟩
                  · replace h := ite_f (dec_f hb418) h
                    refine aops_known 51 rfl hb418 ?_
                    refine an rfl rfl rfl rfl rfl rfl rfl rfl ?_
                    refine an rfl rfl rfl rfl rfl rfl rfl rfl ?_
                    refine an rfl rfl rfl rfl rfl rfl rfl rfl ?_
                    refine an rfl rfl rfl rfl rfl rfl rfl rfl ?_
                    refine an rfl rfl rfl rfl rfl rfl rfl rfl ?_
                    refine an rfl rfl rfl rfl rfl rfl rfl rfl ?_
                    refine an rfl rfl rfl rfl rfl rfl rfl rfl ?_
                    refine an rfl rfl rfl rfl rfl rfl rfl rfl ?_
                    refine an rfl rfl rfl rfl rfl rfl rfl rfl ?_
                    refine agp (.bool false) rfl rfl rfl rfl rfl rfl rfl (pu_pick (b := false) rfl (AEv.tmp rfl) (fun h => nomatch h) (fun _ => (AEv.bool _))) ?_
                    refine ap (.bool false) rfl rfl rfl (pu_pick (b := false) rfl (AEv.tmp rfl) (fun h => nomatch h) (fun _ => (AEv.tmp rfl))) ?_
                    refine aops_nil ?_
                    obtain rfl := some_of h
                    exact ⟨(), Weak.mkL [0] (by decide) ⟨⟨_, rfl, rfl⟩, trivial⟩ ⟨AEv.tmp rfl, AEv.tmp rfl, AEv.tmp rfl, AEv.tmp rfl, AEv.tmp rfl, AEv.tmp rfl, AEv.tmp rfl, AEv.tmp rfl, AEv.tmp rfl, trivial⟩⟩
          · intro _
            have h := h408
            refine aw_cond (b := s407) (AEv.tmp rfl) (fun hb423 => ?_) (fun hb423 => ?_)
            · replace h := ite_t hb423 h
              refine aw_seq ?_
              refine aw_region ?_
              refine ap (.bool false) rfl rfl rfl (pu_assign rfl (AEv.bool _)) ?_
              refine aops_nil ?_
              refine aw_ret ?_
              obtain rfl := some_of h
              have h := congrArg some (hx392 _ rfl)
              obtain rfl := some_of h
              have h := onSum_inr h326
              obtain rfl := some_of h
              exact ⟨[.bool false], _, [], ⟨(AEv.tmp rfl), trivial⟩, (AV.Le.refl _), Weak.mkL [] (by decide) trivial trivial, ⟨rfl, rfl⟩⟩
            · replace h := ite_fb hb423 h
              refine aw_skip ?_
              refine aw_region ?_
              refine ap (.vec p226) rfl rfl rfl (pu_move rfl (AEv.tmp rfl)) ?_
              refine ap (.int .u64 (ix r219 s391.t26)) rfl rfl rfl (pu_move rfl (AEv.tmp rfl)) ?_
              obtain ⟨c421, h⟩ := need_of h
              refine ac rfl rfl rfl (op_indexAddrVecM rfl underlying29 sizeOf4 (AEv.tmp rfl) (j := 0) rfl (AEv.tmp rfl) c421 ?_)
              obtain ⟨c422, h⟩ := need_of h
              refine ac0 rfl rfl (op_storeEM (i := 0) (sz := 1) (y' := true) rfl sizeOf4 (AEv.tmp rfl) (v := .bool true) (AEv.bool _) rfl c422 rfl rfl (by decide) rfl ?_)
              refine aops_nil ?_
              refine aw_region ?_
              refine ap (.int .i64 (IntKind.wrap .i64 (s391.t26 + 1))) rfl rfl rfl (pu_int (v := .int .i64 (IntKind.wrap .i64 (s391.t26 + 1))) rfl rfl (AEv.tmp rfl) (AEv.int _ _) rfl) ?_
              refine ap (.int .i64 (IntKind.wrap .i64 (s391.t26 + 1))) rfl rfl rfl (pu_move rfl (AEv.tmp rfl)) ?_
              refine aops_nil ?_
              obtain rfl := some_of h
              exact ⟨_, (), rfl, Weak.mkL [0] (by decide) ⟨⟨_, rfl, rfl⟩, trivial⟩ ⟨AEv.tmp rfl, AEv.tmp rfl, AEv.tmp rfl, AEv.tmp rfl, AEv.tmp rfl, AEv.tmp rfl, (AEv.le (AEv.tmp rfl) (AV.Le.refl _)), trivial⟩⟩
        · replace h := ite_f (dec_f hb424) h
          refine aw_exit ?_
          obtain rfl := some_of h
          have h := congrArg some (hx392 _ rfl)
          exact ⟨(), (), (some_of h).symm, Weak.mkL [] (by decide) trivial ⟨AEv.tmp rfl, AEv.tmp rfl, trivial⟩⟩

theorem mewsref06.Of.ok {seed : Int} {s_ : List UInt8} {r : Int} (h : mewsref06.Of seed s_ = some r) : Go.Lift.Spec prog 23 [.int .u64 seed, .str s_] [] (fun v H => v = .int .u64 r ∧ H = []) := by
  unfold mewsref06.Of at h
  refine Go.Lift.Spec.of_body (rs := [.tmp 4]) func23 rfl rfl (Nat.le_of_ble_eq_true rfl) rfl ?_
  refine aw_seq ?_
  refine aw_region ?_
  refine ap (.int .u64 0) rfl rfl rfl (pu_assign rfl (AEv.int _ _)) ?_
  refine aops_nil ?_
  refine aw_seq ?_
  refine aw_region ?_
  refine ap (.int .u64 14695981039346656037) rfl rfl rfl (pu_assign rfl (AEv.int _ _)) ?_
  refine aops_nil ?_
  refine aw_seq ?_
  refine aw_region ?_
  refine ap (.int .u64 14695981039346656037) rfl rfl rfl (pu_move rfl (AEv.tmp rfl)) ?_
  refine ap (.int .u64 seed) rfl rfl rfl (pu_move rfl (AEv.tmp rfl)) ?_
  refine ap (.int .u64 (Go.bits .xor .u64 14695981039346656037 seed)) rfl rfl rfl (pu_int (v := .int .u64 (Go.bits .xor .u64 14695981039346656037 seed)) rfl rfl (AEv.tmp rfl) (AEv.tmp rfl) rfl) ?_
  refine ap (.int .u64 (Go.bits .xor .u64 14695981039346656037 seed)) rfl rfl rfl (pu_assign rfl (AEv.tmp rfl)) ?_
  refine aops_nil ?_
  obtain ⟨s42, s42e, h43⟩ := bind_some h
  refine aw_meet (ν := Unit) (fun v => [(5, .int .u64 s42)]) (fun v => []) ?_ ?_
  · have h := s42e
    refine aw_seq ?_
    refine aw_region ?_
    refine ap (.int .i64 0) rfl rfl rfl (pu_assign rfl (AEv.int _ _)) ?_
    refine aops_nil ?_
    refine aw_block ?_
    refine aw_while (σ := mewsref06.Of.S0) (ν := Unit) (mewsref06.Of.body0 s_) (fun s51 v => [(1, .str s_), (5, .int .u64 s51.h), (6, .int .i64 s51.i)]) (fun s51 v => []) ⟨Go.bits .xor .u64 14695981039346656037 seed, 0⟩ () _ h (Weak.mkL [] (by decide) trivial ⟨AEv.tmp rfl, (AEv.le (AEv.tmp rfl) (AV.Le.refl _)), AEv.tmp rfl, trivial⟩) ?_
    rintro s51 _ x53 h hx52
    unfold mewsref06.Of.body0 at h
    refine aw_seq ?_
    refine aw_seq ?_
    refine aw_region ?_
    refine ap (.int .i64 s51.i) rfl rfl rfl (pu_move rfl (AEv.tmp rfl)) ?_
    refine ap (.str s_) rfl rfl rfl (pu_move rfl (AEv.tmp rfl)) ?_
    refine ap (.int .i64 (s_.length : Int)) rfl rfl rfl (pu_strLen rfl underlying9 (AEv.tmp rfl)) ?_
    refine ap (.bool (decide (s51.i < (s_.length : Int)))) rfl rfl rfl (pu_int (v := .bool (decide (s51.i < (s_.length : Int)))) rfl rfl (AEv.tmp rfl) (AEv.tmp rfl) rfl) ?_
    refine aops_nil ?_
    refine aw_cond (b := decide (s51.i < (s_.length : Int))) (AEv.tmp rfl) (fun hb55 => ?_) (fun hb55 => ?_)
    · replace h := ite_t (dec_t hb55) h
      refine aw_skip ?_
      refine aw_seq ?_
      refine aw_block ?_
      refine aw_seq ?_
      refine aw_region ?_
      refine ap (.int .u64 s51.h) rfl rfl rfl (pu_move rfl (AEv.tmp rfl)) ?_
      refine ap (.str s_) rfl rfl rfl (pu_move rfl (AEv.tmp rfl)) ?_
      refine ap (.int .i64 s51.i) rfl rfl rfl (pu_move rfl (AEv.tmp rfl)) ?_
      obtain ⟨c54, h⟩ := need_of h
      refine ap (.int .u8 (bix s_ s51.i)) rfl rfl rfl (pu_strIdxM rfl underlying9 (AEv.tmp rfl) (AEv.tmp rfl) c54) ?_
      refine ap (.int .u64 (IntKind.wrap .u64 (bix s_ s51.i))) rfl rfl rfl (pu_conv rfl underlying5 underlying22 (AEv.tmp rfl)) ?_
      refine ap (.int .u64 (Go.bits .xor .u64 s51.h (IntKind.wrap .u64 (bix s_ s51.i)))) rfl rfl rfl (pu_int (v := .int .u64 (Go.bits .xor .u64 s51.h (IntKind.wrap .u64 (bix s_ s51.i)))) rfl rfl (AEv.tmp rfl) (AEv.tmp rfl) rfl) ?_
      refine ap (.int .u64 (Go.bits .xor .u64 s51.h (IntKind.wrap .u64 (bix s_ s51.i)))) rfl rfl rfl (pu_assign rfl (AEv.tmp rfl)) ?_
      refine aops_nil ?_
      refine aw_region ?_
      refine ap (.int .u64 (Go.bits .xor .u64 s51.h (IntKind.wrap .u64 (bix s_ s51.i)))) rfl rfl rfl (pu_move rfl (AEv.tmp rfl)) ?_
      refine ap (.int .u64 (IntKind.wrap .u64 ((Go.bits .xor .u64 s51.h (IntKind.wrap .u64 (bix s_ s51.i))) * 1099511628211))) rfl rfl rfl (pu_int (v := .int .u64 (IntKind.wrap .u64 ((Go.bits .xor .u64 s51.h (IntKind.wrap .u64 (bix s_ s51.i))) * 1099511628211))) rfl rfl (AEv.tmp rfl) (AEv.int _ _) rfl) ?_
      refine ap (.int .u64 (IntKind.wrap .u64 ((Go.bits .xor .u64 s51.h (IntKind.wrap .u64 (bix s_ s51.i))) * 1099511628211))) rfl rfl rfl (pu_assign rfl (AEv.tmp rfl)) ?_
      refine aops_nil ?_
      refine aw_region ?_
      refine ap (.int .i64 s51.i) rfl rfl rfl (pu_move rfl (AEv.tmp rfl)) ?_
      refine ap (.int .i64 (IntKind.wrap .i64 (s51.i + 1))) rfl rfl rfl (pu_int (v := .int .i64 (IntKind.wrap .i64 (s51.i + 1))) rfl rfl (AEv.tmp rfl) (AEv.int _ _) rfl) ?_
      refine ap (.int .i64 (IntKind.wrap .i64 (s51.i + 1))) rfl rfl rfl (pu_assign rfl (AEv.tmp rfl)) ?_
      refine aops_nil ?_
      obtain rfl := some_of h
      exact ⟨_, (), rfl, Weak.mkL [] (by decide) trivial ⟨AEv.tmp rfl, (AEv.le (AEv.tmp rfl) (AV.Le.refl _)), (AEv.le (AEv.tmp rfl) (AV.Le.refl _)), trivial⟩⟩
    · replace h := ite_f (dec_f hb55) h
      refine aw_exit ?_
      obtain rfl := some_of h
      have h := congrArg some (hx52 _ rfl)
      obtain rfl := some_of h
      exact ⟨(), Weak.mkL [] (by decide) trivial ⟨AEv.tmp rfl, trivial⟩⟩
  · intro _
    have h := h43
    refine aw_seq ?_
    refine aw_region ?_
    refine ap (.int .u64 s42) rfl rfl rfl (pu_move rfl (AEv.tmp rfl)) ?_
    refine ap (.int .u64 s42) rfl rfl rfl (pu_move rfl (AEv.tmp rfl)) ?_
    refine ap (.int .u64 (s42 / 2 ^ min (Int.toNat 33) (IntKind.bits .u64))) rfl rfl rfl (pu_shr rfl (AEv.tmp rfl) (AEv.int _ _) (by decide)) ?_
    refine ap (.int .u64 (Go.bits .xor .u64 s42 (s42 / 2 ^ min (Int.toNat 33) (IntKind.bits .u64)))) rfl rfl rfl (pu_int (v := .int .u64 (Go.bits .xor .u64 s42 (s42 / 2 ^ min (Int.toNat 33) (IntKind.bits .u64)))) rfl rfl (AEv.tmp rfl) (AEv.tmp rfl) rfl) ?_
    refine ap (.int .u64 (Go.bits .xor .u64 s42 (s42 / 2 ^ min (Int.toNat 33) (IntKind.bits .u64)))) rfl rfl rfl (pu_assign rfl (AEv.tmp rfl)) ?_
    refine aops_nil ?_
    refine aw_seq ?_
    refine aw_region ?_
    refine ap (.int .u64 (Go.bits .xor .u64 s42 (s42 / 2 ^ min (Int.toNat 33) (IntKind.bits .u64)))) rfl rfl rfl (pu_move rfl (AEv.tmp rfl)) ?_
    refine ap (.int .u64 (IntKind.wrap .u64 ((Go.bits .xor .u64 s42 (s42 / 2 ^ min (Int.toNat 33) (IntKind.bits .u64))) * 18397679294719823053))) rfl rfl rfl (pu_int (v := .int .u64 (IntKind.wrap .u64 ((Go.bits .xor .u64 s42 (s42 / 2 ^ min (Int.toNat 33) (IntKind.bits .u64))) * 18397679294719823053))) rfl rfl (AEv.tmp rfl) (AEv.int _ _) rfl) ?_
    refine ap (.int .u64 (IntKind.wrap .u64 ((Go.bits .xor .u64 s42 (s42 / 2 ^ min (Int.toNat 33) (IntKind.bits .u64))) * 18397679294719823053))) rfl rfl rfl (pu_assign rfl (AEv.tmp rfl)) ?_
    refine aops_nil ?_
    refine aw_seq ?_
    refine aw_region ?_
    refine ap (.int .u64 (IntKind.wrap .u64 ((Go.bits .xor .u64 s42 (s42 / 2 ^ min (Int.toNat 33) (IntKind.bits .u64))) * 18397679294719823053))) rfl rfl rfl (pu_move rfl (AEv.tmp rfl)) ?_
    refine ap (.int .u64 (IntKind.wrap .u64 ((Go.bits .xor .u64 s42 (s42 / 2 ^ min (Int.toNat 33) (IntKind.bits .u64))) * 18397679294719823053))) rfl rfl rfl (pu_move rfl (AEv.tmp rfl)) ?_
    obtain ⟨x56, x56e, h⟩ := letO_of h
    refine ap (.int .u64 x56) rfl rfl rfl ((pu_shr rfl (AEv.tmp rfl) (AEv.int _ _) (by decide)).eq (congrArg (AV.int .u64) x56e.symm)) ?_
    obtain ⟨x57, x57e, h⟩ := letO_of h
    refine ap (.int .u64 x57) rfl rfl rfl ((pu_int (v := .int .u64 (Go.bits .xor .u64 (IntKind.wrap .u64 ((Go.bits .xor .u64 s42 (s42 / 2 ^ min (Int.toNat 33) (IntKind.bits .u64))) * 18397679294719823053)) x56)) rfl rfl (AEv.tmp rfl) (AEv.tmp rfl) rfl).eq (congrArg (AV.int .u64) x57e.symm)) ?_
    refine ap (.int .u64 x57) rfl rfl rfl (pu_assign rfl (AEv.tmp rfl)) ?_
    refine aops_nil ?_
    refine aw_seq ?_
    refine aw_region ?_
    refine ap (.int .u64 x57) rfl rfl rfl (pu_move rfl (AEv.tmp rfl)) ?_
    refine ap (.int .u64 (IntKind.wrap .u64 (x57 * 14181476777654086739))) rfl rfl rfl (pu_int (v := .int .u64 (IntKind.wrap .u64 (x57 * 14181476777654086739))) rfl rfl (AEv.tmp rfl) (AEv.int _ _) rfl) ?_
    refine ap (.int .u64 (IntKind.wrap .u64 (x57 * 14181476777654086739))) rfl rfl rfl (pu_assign rfl (AEv.tmp rfl)) ?_
    refine aops_nil ?_
    refine aw_seq ?_
    refine aw_region ?_
    refine ap (.int .u64 (IntKind.wrap .u64 (x57 * 14181476777654086739))) rfl rfl rfl (pu_move rfl (AEv.tmp rfl)) ?_
    refine ap (.int .u64 (IntKind.wrap .u64 (x57 * 14181476777654086739))) rfl rfl rfl (pu_move rfl (AEv.tmp rfl)) ?_
    refine ap (.int .u64 ((IntKind.wrap .u64 (x57 * 14181476777654086739)) / 2 ^ min (Int.toNat 33) (IntKind.bits .u64))) rfl rfl rfl (pu_shr rfl (AEv.tmp rfl) (AEv.int _ _) (by decide)) ?_
    obtain ⟨x58, x58e, h⟩ := letO_of h
    refine ap (.int .u64 x58) rfl rfl rfl ((pu_int (v := .int .u64 (Go.bits .xor .u64 (IntKind.wrap .u64 (x57 * 14181476777654086739)) ((IntKind.wrap .u64 (x57 * 14181476777654086739)) / 2 ^ min (Int.toNat 33) (IntKind.bits .u64)))) rfl rfl (AEv.tmp rfl) (AEv.tmp rfl) rfl).eq (congrArg (AV.int .u64) x58e.symm)) ?_
    refine ap (.int .u64 x58) rfl rfl rfl (pu_assign rfl (AEv.tmp rfl)) ?_
    refine aops_nil ?_
    refine aw_seq ?_
    refine aw_region ?_
    refine ap (.int .u64 x58) rfl rfl rfl (pu_move rfl (AEv.tmp rfl)) ?_
    refine ap (.int .u64 x58) rfl rfl rfl (pu_assign rfl (AEv.tmp rfl)) ?_
    refine aops_nil ?_
    refine aw_ret ?_
    obtain rfl := some_of h
    exact ⟨[.int .u64 x58], _, [], ⟨(AEv.tmp rfl), trivial⟩, (AV.Le.refl _), Weak.mkL [] (by decide) trivial trivial, ⟨rfl, rfl⟩⟩

theorem hash.Place.ok {h_ : Int} {b : Int} {r : Int} (h : hash.Place h_ b = some r) : Go.Lift.Spec prog 25 [.int .u64 h_, .int .i64 b] [] (fun v H => v = .int .i64 r ∧ H = []) := by
  unfold hash.Place at h
  refine Go.Lift.Spec.of_body (rs := [.tmp 4]) func25 rfl rfl (Nat.le_of_ble_eq_true rfl) rfl ?_
  refine aw_seq ?_
  refine aw_region ?_
  refine ap (.int .i64 0) rfl rfl rfl (pu_assign rfl (AEv.int _ _)) ?_
  refine aops_nil ?_
  refine aw_seq ?_
  refine aw_region ?_
  refine ap (.int .u64 h_) rfl rfl rfl (pu_move rfl (AEv.tmp rfl)) ?_
  refine ap (.int .i64 b) rfl rfl rfl (pu_move rfl (AEv.tmp rfl)) ?_
  obtain ⟨r2, r2e, h⟩ := bind_some h
  refine ac rfl rfl rfl (op_call (vs := [.int .u64 h_, .int .i64 b]) (H := []) rfl call67 ⟨(AEv.tmp rfl), (AEv.tmp rfl), trivial⟩ (List.Perm.refl _) (hash.low.ok r2e) ?_)
  rintro _ _ ⟨rfl, rfl⟩
  refine ap (.int .i64 (IntKind.wrap .i64 r2)) rfl rfl rfl (pu_conv rfl underlying22 underlying3 (AEv.tmp rfl)) ?_
  refine ap (.int .i64 (IntKind.wrap .i64 r2)) rfl rfl rfl (pu_assign rfl (AEv.tmp rfl)) ?_
  refine aops_nil ?_
  refine aw_ret ?_
  obtain rfl := some_of h
  exact ⟨[.int .i64 (IntKind.wrap .i64 r2)], _, [], ⟨(AEv.tmp rfl), trivial⟩, (AV.Le.refl _), Weak.mkL [] (by decide) trivial trivial, ⟨rfl, rfl⟩⟩

theorem mewsref06.Place.ok {h_ : Int} {b : Int} {r : Int} (h : mewsref06.Place h_ b = some r) : Go.Lift.Spec prog 26 [.int .u64 h_, .int .i64 b] [] (fun v H => v = .int .i64 r ∧ H = []) := by
  unfold mewsref06.Place at h
  refine Go.Lift.Spec.of_body (rs := [.tmp 4]) func26 rfl rfl (Nat.le_of_ble_eq_true rfl) rfl ?_
  refine aw_seq ?_
  refine aw_region ?_
  refine ap (.int .i64 0) rfl rfl rfl (pu_assign rfl (AEv.int _ _)) ?_
  refine aops_nil ?_
  refine aw_seq ?_
  refine aw_region ?_
  refine ap (.int .u64 h_) rfl rfl rfl (pu_move rfl (AEv.tmp rfl)) ?_
  refine ap (.int .i64 b) rfl rfl rfl (pu_move rfl (AEv.tmp rfl)) ?_
  obtain ⟨r3, r3e, h⟩ := bind_some h
  refine ac rfl rfl rfl (op_call (vs := [.int .i64 b]) (H := []) rfl call20 ⟨(AEv.tmp rfl), trivial⟩ (List.Perm.refl _) (mewsref06.Places.ok r3e) ?_)
  rintro _ _ ⟨rfl, rfl⟩
  obtain ⟨c4, h⟩ := need_of h
  refine ap (.int .u64 (h_.tmod r3)) rfl rfl rfl (pu_rem rfl (AEv.tmp rfl) (AEv.tmp rfl) c4) ?_
  refine ap (.int .i64 (IntKind.wrap .i64 (h_.tmod r3))) rfl rfl rfl (pu_conv rfl underlying22 underlying3 (AEv.tmp rfl)) ?_
  refine ap (.int .i64 (IntKind.wrap .i64 (h_.tmod r3))) rfl rfl rfl (pu_assign rfl (AEv.tmp rfl)) ?_
  refine aops_nil ?_
  refine aw_ret ?_
  obtain rfl := some_of h
  exact ⟨[.int .i64 (IntKind.wrap .i64 (h_.tmod r3))], _, [], ⟨(AEv.tmp rfl), trivial⟩, (AV.Le.refl _), Weak.mkL [] (by decide) trivial trivial, ⟨rfl, rfl⟩⟩

theorem mewslaw06.HashSays.ok {seed : Int} {s_ : List UInt8} {b : Int} {r : Bool} (h : mewslaw06.HashSays seed s_ b = some r) : Go.Lift.Spec prog 5 [.int .u64 seed, .str s_, .int .i64 b] [] (fun v H => v = .bool r ∧ H = []) := by
  unfold mewslaw06.HashSays at h
  refine Go.Lift.Spec.of_body (rs := [.tmp 6]) func5 rfl rfl (Nat.le_of_ble_eq_true rfl) rfl ?_
  refine aw_seq ?_
  refine aw_region ?_
  refine ap (.bool false) rfl rfl rfl (pu_assign rfl (AEv.bool _)) ?_
  refine aops_nil ?_
  refine aw_seq ?_
  refine aw_seq ?_
  refine aw_region ?_
  refine ap (.str s_) rfl rfl rfl (pu_move rfl (AEv.tmp rfl)) ?_
  refine ap (.int .i64 (s_.length : Int)) rfl rfl rfl (pu_strLen rfl underlying9 (AEv.tmp rfl)) ?_
  refine ap (.bool (decide (10000 < (s_.length : Int)))) rfl rfl rfl (pu_int (v := .bool (decide (10000 < (s_.length : Int)))) rfl rfl (AEv.tmp rfl) (AEv.int _ _) rfl) ?_
  refine aops_nil ?_
  refine aw_cond (b := decide (10000 < (s_.length : Int))) (AEv.tmp rfl) (fun hb34 => ?_) (fun hb34 => ?_)
  · replace h := ite_t (dec_t hb34) h
    refine aw_seq ?_
    refine aw_region ?_
    obtain ⟨r18, r18e, h⟩ := bind_some h
    refine ac rfl rfl rfl (op_call (vs := []) (H := []) rfl call21 trivial (List.Perm.refl _) (mewslaw06.alive.ok r18e) ?_)
    rintro _ _ ⟨rfl, rfl⟩
    refine ap (.bool r18) rfl rfl rfl (pu_assign rfl (AEv.tmp rfl)) ?_
    refine aops_nil ?_
    refine aw_ret ?_
    obtain rfl := some_of h
    exact ⟨[.bool r18], _, [], ⟨(AEv.tmp rfl), trivial⟩, (AV.Le.refl _), Weak.mkL [] (by decide) trivial trivial, ⟨rfl, rfl⟩⟩
  · replace h := ite_f (dec_f hb34) h
    refine aw_skip ?_
    refine aw_seq ?_
    refine aw_region ?_
    refine ap (.int .u64 seed) rfl rfl rfl (pu_move rfl (AEv.tmp rfl)) ?_
    refine ap (.str s_) rfl rfl rfl (pu_move rfl (AEv.tmp rfl)) ?_
    obtain ⟨r19, r19e, h⟩ := bind_some h
    refine ac rfl rfl rfl (op_call (vs := [.int .u64 seed, .str s_]) (H := []) rfl call23 ⟨(AEv.tmp rfl), (AEv.tmp rfl), trivial⟩ (List.Perm.refl _) (mewsref06.Of.ok r19e) ?_)
    rintro _ _ ⟨rfl, rfl⟩
    refine ap (.int .u64 r19) rfl rfl rfl (pu_assign rfl (AEv.tmp rfl)) ?_
    refine aops_nil ?_
    obtain ⟨s26, s26e, h27⟩ := bind_some h
    refine aw_meet (ν := Unit) (fun v => [(6, .bool s26)]) (fun v => []) ?_ ?_
    · have h := s26e
      refine aw_region ?_
      refine ap (.int .u64 seed) rfl rfl rfl (pu_move rfl (AEv.tmp rfl)) ?_
      refine ap (.str s_) rfl rfl rfl (pu_move rfl (AEv.tmp rfl)) ?_
      obtain ⟨r28, r28e, h⟩ := bind_some h
      refine ac rfl rfl rfl (op_call (vs := [.int .u64 seed, .str s_]) (H := []) rfl call24 ⟨(AEv.tmp rfl), (AEv.tmp rfl), trivial⟩ (List.Perm.refl _) (hash.Of.ok r28e) ?_)
      rintro _ _ ⟨rfl, rfl⟩
      refine ap (.int .u64 r19) rfl rfl rfl (pu_move rfl (AEv.tmp rfl)) ?_
      refine ap (.bool (decide (r28 = r19))) rfl rfl rfl (pu_int (v := .bool (decide (r28 = r19))) rfl rfl (AEv.tmp rfl) (AEv.tmp rfl) rfl) ?_
      refine ap (.bool (decide (r28 = r19))) rfl rfl rfl (pu_move rfl (AEv.tmp rfl)) ?_
      rcases Bool.eq_false_or_eq_true (decide (r28 = r19)) with hb29 | hb29
      · replace h := ite_t (dec_t hb29) h
        refine aops_known 20 rfl hb29 ?_
        refine agp (.int .u64 r19) rfl rfl rfl rfl rfl rfl rfl (pu_move rfl (AEv.tmp rfl)) ?_
        refine agp (.int .i64 b) rfl rfl rfl rfl rfl rfl rfl (pu_move rfl (AEv.tmp rfl)) ?_
        obtain ⟨r30, r30e, h⟩ := bind_some h
        refine ag rfl rfl rfl rfl rfl rfl rfl (op_call (vs := [.int .u64 r19, .int .i64 b]) (H := []) rfl call25 ⟨(AEv.tmp rfl), (AEv.tmp rfl), trivial⟩ (List.Perm.refl _) (hash.Place.ok r30e) ?_)
        rintro _ _ ⟨rfl, rfl⟩
        refine agp (.int .u64 r19) rfl rfl rfl rfl rfl rfl rfl (pu_move rfl (AEv.tmp rfl)) ?_
        refine agp (.int .i64 b) rfl rfl rfl rfl rfl rfl rfl (pu_move rfl (AEv.tmp rfl)) ?_
        obtain ⟨r31, r31e, h⟩ := bind_some h
        refine ag rfl rfl rfl rfl rfl rfl rfl (op_call (vs := [.int .u64 r19, .int .i64 b]) (H := []) rfl call26 ⟨(AEv.tmp rfl), (AEv.tmp rfl), trivial⟩ (List.Perm.refl _) (mewsref06.Place.ok r31e) ?_)
        rintro _ _ ⟨rfl, rfl⟩
        refine agp (.bool (decide (r30 = r31))) rfl rfl rfl rfl rfl rfl rfl (pu_int (v := .bool (decide (r30 = r31))) rfl rfl (AEv.tmp rfl) (AEv.tmp rfl) rfl) ?_
        refine ap (.bool (decide (r30 = r31))) rfl rfl rfl (pu_pick (b := true) rfl (AEv.tmp rfl) (fun _ => (AEv.tmp rfl)) (fun h => nomatch h)) ?_
        refine ap (.bool (decide (r30 = r31))) rfl rfl rfl (pu_move rfl (AEv.tmp rfl)) ?_
        rcases Bool.eq_false_or_eq_true (decide (r30 = r31)) with hb32 | hb32
        · replace h := ite_t (dec_t hb32) h
          refine aops_known 29 rfl hb32 ?_
          obtain ⟨r33, r33e, h⟩ := bind_some h
          refine ag rfl rfl rfl rfl rfl rfl rfl (op_call (vs := []) (H := []) rfl call21 trivial (List.Perm.refl _) (mewslaw06.alive.ok r33e) ?_)
          rintro _ _ ⟨rfl, rfl⟩
          refine ap (.bool r33) rfl rfl rfl (pu_pick (b := true) rfl (AEv.tmp rfl) (fun _ => (AEv.tmp rfl)) (fun h => nomatch h)) ?_
          refine ap (.bool r33) rfl rfl rfl (pu_assign rfl (AEv.tmp rfl)) ?_
          refine aops_nil ?_
          obtain rfl := some_of h
          exact ⟨(), Weak.mkL [] (by decide) trivial ⟨AEv.tmp rfl, trivial⟩⟩
        · replace h := ite_f (dec_f hb32) h
          refine aops_known 29 rfl hb32 ?_
          refine an rfl rfl rfl rfl rfl rfl rfl rfl ?_
          refine ap (.bool false) rfl rfl rfl (pu_pick (b := false) rfl (AEv.tmp rfl) (fun h => nomatch h) (fun _ => (AEv.bool _))) ?_
          refine ap (.bool false) rfl rfl rfl (pu_assign rfl (AEv.tmp rfl)) ?_
          refine aops_nil ?_
          obtain rfl := some_of h
          exact ⟨(), Weak.mkL [] (by decide) trivial ⟨AEv.tmp rfl, trivial⟩⟩
      · replace h := ite_f (dec_f hb29) h
        refine aops_known 20 rfl hb29 ?_
        refine an rfl rfl rfl rfl rfl rfl rfl rfl ?_
        refine an rfl rfl rfl rfl rfl rfl rfl rfl ?_
        refine an rfl rfl rfl rfl rfl rfl rfl rfl ?_
        refine an rfl rfl rfl rfl rfl rfl rfl rfl ?_
        refine an rfl rfl rfl rfl rfl rfl rfl rfl ?_
        refine an rfl rfl rfl rfl rfl rfl rfl rfl ?_
        refine an rfl rfl rfl rfl rfl rfl rfl rfl ?_
        refine ap (.bool false) rfl rfl rfl (pu_pick (b := false) rfl (AEv.tmp rfl) (fun h => nomatch h) (fun _ => (AEv.bool _))) ?_
        refine ap (.bool false) rfl rfl rfl (pu_move rfl (AEv.tmp rfl)) ?_
        refine an rfl rfl rfl rfl rfl rfl rfl rfl ?_
        refine ap (.bool false) rfl rfl rfl (pu_pick (b := false) rfl (AEv.tmp rfl) (fun h => nomatch h) (fun _ => (AEv.bool _))) ?_
        refine ap (.bool false) rfl rfl rfl (pu_assign rfl (AEv.tmp rfl)) ?_
        refine aops_nil ?_
        obtain rfl := some_of h
        exact ⟨(), Weak.mkL [] (by decide) trivial ⟨AEv.tmp rfl, trivial⟩⟩
    · intro _
      have h := h27
      refine aw_ret ?_
      obtain rfl := some_of h
      exact ⟨[.bool s26], _, [], ⟨(AEv.tmp rfl), trivial⟩, (AV.Le.refl _), Weak.mkL [] (by decide) trivial trivial, ⟨rfl, rfl⟩⟩

theorem mewslaw06.HashGrows.ok {b : Int} {cursor : Int} {h_ : Int} {r : Bool} (h : mewslaw06.HashGrows b cursor h_ = some r) : Go.Lift.Spec prog 6 [.int .i64 b, .int .u64 cursor, .int .u64 h_] [] (fun v H => v = .bool r ∧ H = []) := by
  unfold mewslaw06.HashGrows at h
  refine Go.Lift.Spec.of_body (rs := [.tmp 6]) func6 rfl rfl (Nat.le_of_ble_eq_true rfl) rfl ?_
  refine aw_seq ?_
  refine aw_region ?_
  refine ap (.bool false) rfl rfl rfl (pu_assign rfl (AEv.bool _)) ?_
  refine aops_nil ?_
  refine aw_seq ?_
  refine aw_region ?_
  refine ap (.int .i64 b) rfl rfl rfl (pu_move rfl (AEv.tmp rfl)) ?_
  refine ap (.int .u64 (IntKind.wrap .u64 b)) rfl rfl rfl (pu_conv rfl underlying3 underlying22 (AEv.tmp rfl)) ?_
  refine ap (.int .u64 ((IntKind.wrap .u64 b).tmod 16)) rfl rfl rfl (pu_rem rfl (AEv.tmp rfl) (AEv.int _ _) (by decide)) ?_
  refine ap (.int .i64 (IntKind.wrap .i64 ((IntKind.wrap .u64 b).tmod 16))) rfl rfl rfl (pu_conv rfl underlying22 underlying3 (AEv.tmp rfl)) ?_
  refine ap (.int .i64 (IntKind.wrap .i64 ((IntKind.wrap .u64 b).tmod 16))) rfl rfl rfl (pu_assign rfl (AEv.tmp rfl)) ?_
  refine aops_nil ?_
  refine aw_seq ?_
  refine aw_region ?_
  refine ap (.int .u64 cursor) rfl rfl rfl (pu_move rfl (AEv.tmp rfl)) ?_
  refine ap (.int .i64 (IntKind.wrap .i64 ((IntKind.wrap .u64 b).tmod 16))) rfl rfl rfl (pu_move rfl (AEv.tmp rfl)) ?_
  obtain ⟨r23, r23e, h⟩ := bind_some h
  refine ac rfl rfl rfl (op_call (vs := [.int .i64 (IntKind.wrap .i64 ((IntKind.wrap .u64 b).tmod 16))]) (H := []) rfl call20 ⟨(AEv.tmp rfl), trivial⟩ (List.Perm.refl _) (mewsref06.Places.ok r23e) ?_)
  rintro _ _ ⟨rfl, rfl⟩
  obtain ⟨c24, h⟩ := need_of h
  refine ap (.int .u64 (cursor.tmod r23)) rfl rfl rfl (pu_rem rfl (AEv.tmp rfl) (AEv.tmp rfl) c24) ?_
  refine ap (.int .u64 (cursor.tmod r23)) rfl rfl rfl (pu_assign rfl (AEv.tmp rfl)) ?_
  refine aops_nil ?_
  refine aw_seq ?_
  refine aw_region ?_
  refine ap (.int .u64 h_) rfl rfl rfl (pu_move rfl (AEv.tmp rfl)) ?_
  refine ap (.int .i64 (IntKind.wrap .i64 ((IntKind.wrap .u64 b).tmod 16))) rfl rfl rfl (pu_move rfl (AEv.tmp rfl)) ?_
  obtain ⟨r25, r25e, h⟩ := bind_some h
  refine ac rfl rfl rfl (op_call (vs := [.int .u64 h_, .int .i64 (IntKind.wrap .i64 ((IntKind.wrap .u64 b).tmod 16))]) (H := []) rfl call25 ⟨(AEv.tmp rfl), (AEv.tmp rfl), trivial⟩ (List.Perm.refl _) (hash.Place.ok r25e) ?_)
  rintro _ _ ⟨rfl, rfl⟩
  refine ap (.int .u64 (IntKind.wrap .u64 r25)) rfl rfl rfl (pu_conv rfl underlying3 underlying22 (AEv.tmp rfl)) ?_
  refine ap (.int .u64 h_) rfl rfl rfl (pu_move rfl (AEv.tmp rfl)) ?_
  refine ap (.int .i64 (IntKind.wrap .i64 ((IntKind.wrap .u64 b).tmod 16))) rfl rfl rfl (pu_move rfl (AEv.tmp rfl)) ?_
  refine ap (.int .i64 (IntKind.wrap .i64 ((IntKind.wrap .i64 ((IntKind.wrap .u64 b).tmod 16)) + 1))) rfl rfl rfl (pu_int (v := .int .i64 (IntKind.wrap .i64 ((IntKind.wrap .i64 ((IntKind.wrap .u64 b).tmod 16)) + 1))) rfl rfl (AEv.tmp rfl) (AEv.int _ _) rfl) ?_
  obtain ⟨r26, r26e, h⟩ := bind_some h
  refine ac rfl rfl rfl (op_call (vs := [.int .u64 h_, .int .i64 (IntKind.wrap .i64 ((IntKind.wrap .i64 ((IntKind.wrap .u64 b).tmod 16)) + 1))]) (H := []) rfl call25 ⟨(AEv.tmp rfl), (AEv.tmp rfl), trivial⟩ (List.Perm.refl _) (hash.Place.ok r26e) ?_)
  rintro _ _ ⟨rfl, rfl⟩
  refine ap (.int .u64 (IntKind.wrap .u64 r26)) rfl rfl rfl (pu_conv rfl underlying3 underlying22 (AEv.tmp rfl)) ?_
  refine ap (.int .u64 (IntKind.wrap .u64 r25)) rfl rfl rfl (pu_assign rfl (AEv.tmp rfl)) ?_
  refine ap (.int .u64 (IntKind.wrap .u64 r26)) rfl rfl rfl (pu_assign rfl (AEv.tmp rfl)) ?_
  refine aops_nil ?_
  refine aw_seq ?_
  refine aw_region ?_
  refine ap (.int .u64 (IntKind.wrap .u64 r25)) rfl rfl rfl (pu_move rfl (AEv.tmp rfl)) ?_
  refine ap (.int .i64 (IntKind.wrap .i64 ((IntKind.wrap .u64 b).tmod 16))) rfl rfl rfl (pu_move rfl (AEv.tmp rfl)) ?_
  obtain ⟨r27, r27e, h⟩ := bind_some h
  refine ac rfl rfl rfl (op_call (vs := [.int .u64 (IntKind.wrap .u64 r25), .int .i64 (IntKind.wrap .i64 ((IntKind.wrap .u64 b).tmod 16))]) (H := []) rfl call16 ⟨(AEv.tmp rfl), (AEv.tmp rfl), trivial⟩ (List.Perm.refl _) (hash.Turn.ok r27e) ?_)
  rintro _ _ ⟨rfl, rfl⟩
  refine ap (.int .u64 (cursor.tmod r23)) rfl rfl rfl (pu_move rfl (AEv.tmp rfl)) ?_
  refine ap (.int .i64 (IntKind.wrap .i64 ((IntKind.wrap .u64 b).tmod 16))) rfl rfl rfl (pu_move rfl (AEv.tmp rfl)) ?_
  obtain ⟨r28, r28e, h⟩ := bind_some h
  refine ac rfl rfl rfl (op_call (vs := [.int .u64 (cursor.tmod r23), .int .i64 (IntKind.wrap .i64 ((IntKind.wrap .u64 b).tmod 16))]) (H := []) rfl call16 ⟨(AEv.tmp rfl), (AEv.tmp rfl), trivial⟩ (List.Perm.refl _) (hash.Turn.ok r28e) ?_)
  rintro _ _ ⟨rfl, rfl⟩
  refine ap (.bool (decide (r27 < r28))) rfl rfl rfl (pu_int (v := .bool (decide (r27 < r28))) rfl rfl (AEv.tmp rfl) (AEv.tmp rfl) rfl) ?_
  refine ap (.bool (decide (r27 < r28))) rfl rfl rfl (pu_assign rfl (AEv.tmp rfl)) ?_
  refine aops_nil ?_
  obtain ⟨s36, s36e, h37⟩ := bind_some h
  refine aw_meet (ν := Unit) (fun v => [(6, .bool s36)]) (fun v => []) ?_ ?_
  · have h := s36e
    refine aw_region ?_
    refine ap (.int .u64 (IntKind.wrap .u64 r26)) rfl rfl rfl (pu_move rfl (AEv.tmp rfl)) ?_
    refine ap (.int .i64 (IntKind.wrap .i64 ((IntKind.wrap .u64 b).tmod 16))) rfl rfl rfl (pu_move rfl (AEv.tmp rfl)) ?_
    obtain ⟨r38, r38e, h⟩ := bind_some h
    refine ac rfl rfl rfl (op_call (vs := [.int .i64 (IntKind.wrap .i64 ((IntKind.wrap .u64 b).tmod 16))]) (H := []) rfl call20 ⟨(AEv.tmp rfl), trivial⟩ (List.Perm.refl _) (mewsref06.Places.ok r38e) ?_)
    rintro _ _ ⟨rfl, rfl⟩
    obtain ⟨c39, h⟩ := need_of h
    refine ap (.int .u64 ((IntKind.wrap .u64 r26).tmod r38)) rfl rfl rfl (pu_rem rfl (AEv.tmp rfl) (AEv.tmp rfl) c39) ?_
    refine ap (.int .u64 (IntKind.wrap .u64 r25)) rfl rfl rfl (pu_move rfl (AEv.tmp rfl)) ?_
    refine ap (.bool (decide (((IntKind.wrap .u64 r26).tmod r38) = (IntKind.wrap .u64 r25)))) rfl rfl rfl (pu_int (v := .bool (decide (((IntKind.wrap .u64 r26).tmod r38) = (IntKind.wrap .u64 r25)))) rfl rfl (AEv.tmp rfl) (AEv.tmp rfl) rfl) ?_
    refine ap (.bool (decide (((IntKind.wrap .u64 r26).tmod r38) = (IntKind.wrap .u64 r25)))) rfl rfl rfl (pu_move rfl (AEv.tmp rfl)) ?_
    rcases Bool.eq_false_or_eq_true (decide (((IntKind.wrap .u64 r26).tmod r38) = (IntKind.wrap .u64 r25))) with hb40 | hb40
    · replace h := ite_t (dec_t hb40) h
      refine aops_known 41 rfl hb40 ?_
      refine agp (.bool (decide (r27 < r28))) rfl rfl rfl rfl rfl rfl rfl (pu_move rfl (AEv.tmp rfl)) ?_
      refine agp (.int .u64 (IntKind.wrap .u64 r26)) rfl rfl rfl rfl rfl rfl rfl (pu_move rfl (AEv.tmp rfl)) ?_
      refine agp (.int .i64 (IntKind.wrap .i64 ((IntKind.wrap .u64 b).tmod 16))) rfl rfl rfl rfl rfl rfl rfl (pu_move rfl (AEv.tmp rfl)) ?_
      refine agp (.int .i64 (IntKind.wrap .i64 ((IntKind.wrap .i64 ((IntKind.wrap .u64 b).tmod 16)) + 1))) rfl rfl rfl rfl rfl rfl rfl (pu_int (v := .int .i64 (IntKind.wrap .i64 ((IntKind.wrap .i64 ((IntKind.wrap .u64 b).tmod 16)) + 1))) rfl rfl (AEv.tmp rfl) (AEv.int _ _) rfl) ?_
      obtain ⟨r41, r41e, h⟩ := bind_some h
      refine ag rfl rfl rfl rfl rfl rfl rfl (op_call (vs := [.int .u64 (IntKind.wrap .u64 r26), .int .i64 (IntKind.wrap .i64 ((IntKind.wrap .i64 ((IntKind.wrap .u64 b).tmod 16)) + 1))]) (H := []) rfl call16 ⟨(AEv.tmp rfl), (AEv.tmp rfl), trivial⟩ (List.Perm.refl _) (hash.Turn.ok r41e) ?_)
      rintro _ _ ⟨rfl, rfl⟩
      refine agp (.int .u64 (cursor.tmod r23)) rfl rfl rfl rfl rfl rfl rfl (pu_move rfl (AEv.tmp rfl)) ?_
      refine agp (.int .i64 (IntKind.wrap .i64 ((IntKind.wrap .u64 b).tmod 16))) rfl rfl rfl rfl rfl rfl rfl (pu_move rfl (AEv.tmp rfl)) ?_
      refine agp (.int .i64 (IntKind.wrap .i64 ((IntKind.wrap .i64 ((IntKind.wrap .u64 b).tmod 16)) + 1))) rfl rfl rfl rfl rfl rfl rfl (pu_int (v := .int .i64 (IntKind.wrap .i64 ((IntKind.wrap .i64 ((IntKind.wrap .u64 b).tmod 16)) + 1))) rfl rfl (AEv.tmp rfl) (AEv.int _ _) rfl) ?_
      obtain ⟨r42, r42e, h⟩ := bind_some h
      refine ag rfl rfl rfl rfl rfl rfl rfl (op_call (vs := [.int .u64 (cursor.tmod r23), .int .i64 (IntKind.wrap .i64 ((IntKind.wrap .i64 ((IntKind.wrap .u64 b).tmod 16)) + 1))]) (H := []) rfl call16 ⟨(AEv.tmp rfl), (AEv.tmp rfl), trivial⟩ (List.Perm.refl _) (hash.Turn.ok r42e) ?_)
      rintro _ _ ⟨rfl, rfl⟩
      refine agp (.bool (decide (r41 < r42))) rfl rfl rfl rfl rfl rfl rfl (pu_int (v := .bool (decide (r41 < r42))) rfl rfl (AEv.tmp rfl) (AEv.tmp rfl) rfl) ?_
      refine agp (.bool ((decide (r27 < r28)) == (decide (r41 < r42)))) rfl rfl rfl rfl rfl rfl rfl (pu_boolEq rfl underlying4 (AEv.tmp rfl) (AEv.tmp rfl)) ?_
      refine ap (.bool ((decide (r27 < r28)) == (decide (r41 < r42)))) rfl rfl rfl (pu_pick (b := true) rfl (AEv.tmp rfl) (fun _ => (AEv.tmp rfl)) (fun h => nomatch h)) ?_
      refine ap (.bool ((decide (r27 < r28)) == (decide (r41 < r42)))) rfl rfl rfl (pu_move rfl (AEv.tmp rfl)) ?_
      rcases Bool.eq_false_or_eq_true ((decide (r27 < r28)) == (decide (r41 < r42))) with hb43 | hb43
      · replace h := ite_t hb43 h
        refine aops_known 54 rfl hb43 ?_
        obtain ⟨r44, r44e, h⟩ := bind_some h
        refine ag rfl rfl rfl rfl rfl rfl rfl (op_call (vs := []) (H := []) rfl call21 trivial (List.Perm.refl _) (mewslaw06.alive.ok r44e) ?_)
        rintro _ _ ⟨rfl, rfl⟩
        refine ap (.bool r44) rfl rfl rfl (pu_pick (b := true) rfl (AEv.tmp rfl) (fun _ => (AEv.tmp rfl)) (fun h => nomatch h)) ?_
        refine ap (.bool r44) rfl rfl rfl (pu_assign rfl (AEv.tmp rfl)) ?_
        refine aops_nil ?_
        obtain rfl := some_of h
        exact ⟨(), Weak.mkL [] (by decide) trivial ⟨AEv.tmp rfl, trivial⟩⟩
      · replace h := ite_fb hb43 h
        refine aops_known 54 rfl hb43 ?_
        refine an rfl rfl rfl rfl rfl rfl rfl rfl ?_
        refine ap (.bool false) rfl rfl rfl (pu_pick (b := false) rfl (AEv.tmp rfl) (fun h => nomatch h) (fun _ => (AEv.bool _))) ?_
        refine ap (.bool false) rfl rfl rfl (pu_assign rfl (AEv.tmp rfl)) ?_
        refine aops_nil ?_
        obtain rfl := some_of h
        exact ⟨(), Weak.mkL [] (by decide) trivial ⟨AEv.tmp rfl, trivial⟩⟩
    · replace h := ite_f (dec_f hb40) h
      refine aops_known 41 rfl hb40 ?_
      refine an rfl rfl rfl rfl rfl rfl rfl rfl ?_
      refine an rfl rfl rfl rfl rfl rfl rfl rfl ?_
      refine an rfl rfl rfl rfl rfl rfl rfl rfl ?_
      refine an rfl rfl rfl rfl rfl rfl rfl rfl ?_
      refine an rfl rfl rfl rfl rfl rfl rfl rfl ?_
      refine an rfl rfl rfl rfl rfl rfl rfl rfl ?_
      refine an rfl rfl rfl rfl rfl rfl rfl rfl ?_
      refine an rfl rfl rfl rfl rfl rfl rfl rfl ?_
      refine an rfl rfl rfl rfl rfl rfl rfl rfl ?_
      refine an rfl rfl rfl rfl rfl rfl rfl rfl ?_
      refine an rfl rfl rfl rfl rfl rfl rfl rfl ?_
      refine ap (.bool false) rfl rfl rfl (pu_pick (b := false) rfl (AEv.tmp rfl) (fun h => nomatch h) (fun _ => (AEv.bool _))) ?_
      refine ap (.bool false) rfl rfl rfl (pu_move rfl (AEv.tmp rfl)) ?_
      refine an rfl rfl rfl rfl rfl rfl rfl rfl ?_
      refine ap (.bool false) rfl rfl rfl (pu_pick (b := false) rfl (AEv.tmp rfl) (fun h => nomatch h) (fun _ => (AEv.bool _))) ?_
      refine ap (.bool false) rfl rfl rfl (pu_assign rfl (AEv.tmp rfl)) ?_
      refine aops_nil ?_
      obtain rfl := some_of h
      exact ⟨(), Weak.mkL [] (by decide) trivial ⟨AEv.tmp rfl, trivial⟩⟩
  · intro _
    have h := h37
    refine aw_ret ?_
    obtain rfl := some_of h
    exact ⟨[.bool s36], _, [], ⟨(AEv.tmp rfl), trivial⟩, (AV.Le.refl _), Weak.mkL [] (by decide) trivial trivial, ⟨rfl, rfl⟩⟩

end Go.Pu
