/- Printed by lift.py: the functions come to them. -/
import Derived.Test.YtnlnolbgakfofaaGreatLiftW
import Derived.Test.YtnlnolbgakfofaaGreatMKK1
set_option maxRecDepth 100000
set_option maxHeartbeats 0
namespace Go.Pu
open Go.Lift Go.Proofs.Tryz Go.RowKit Go.Proofs

theorem slices.stableCmpFunc_api_Field_v_charge_Hash_1.ok {data : List api.Field} {n_ : Int} {r : List api.Field} (h : slices.stableCmpFunc_api_Field_v_charge_Hash_1 data n_ = some r) (o0 : Nat) : Go.Lift.Spec prog 55 [.vec o0, .i n_, .fn 32 []] [(o0, .vec 2 (data.map api.Field.av))] (fun v H => v = .tup [] ∧ H = [(o0, .vec 2 (r.map api.Field.av))]) := by
 unfold slices.stableCmpFunc_api_Field_v_charge_Hash_1 at h
 refine Go.Lift.Spec.of_body (rs := []) func55 Z Z (nb Z) Z (aw_upd (xr (xa (.i 20) Z (pu_assign Z (AEv.int _ _)) (xe (xr (xm Z Z Z (xa (.i 0) Z (pu_assign Z (AEv.int _ _)) ?_)))))))
 refine xm Z Z Z (xe ?_)
 obtain ⟨s152, s152e, h153⟩ := bind_some h
 refine aw_meet (ν := Unit) (fun v => [(0, .vec o0), (1, .i n_), (2, .fn 32 []), (6, .i 20), (7, .i s152.1)]) (fun v => [(o0, .vec 2 (s152.2.map api.Field.av))]) ?_ ?_
 ·have h := s152e
  refine aw_block (aw_while (σ := slices.stableCmpFunc_api_Field_v_charge_Hash_1.S0) (ν := Unit) (slices.stableCmpFunc_api_Field_v_charge_Hash_1.body0 n_) (fun s161 v => [(0, .vec o0), (1, .i n_), (2, .fn 32 []), (6, .i 20), (7, .i s161.a), (8, .i s161.b)]) (fun s161 v => [(o0, .vec 2 (s161.v.map api.Field.av))]) ⟨0, 20, data⟩ () _ h (Weak.mkL [0] (by decide) ⟨⟨_, Z, Z⟩, trivial⟩ ⟨tm Z, tm Z, tm Z, tm Z, tm Z, tm Z, trivial⟩) ?_)
  rintro s161 _ x163 h hx162
  unfold slices.stableCmpFunc_api_Field_v_charge_Hash_1.body0 at h
  refine aw_seq (xr (xm Z Z Z (xm Z Z Z (xa (.bool (decide (s161.b ≤ n_))) Z (pu_int (v := .bool (decide (s161.b ≤ n_))) Z Z (tm Z) (tm Z) Z) (xe (aw_cond (b := decide (s161.b ≤ n_)) (tm Z) (fun hb166 => ?_) (fun hb166 => ?_)))))))
  ·replace h := ite_t (dec_t hb166) h
   refine aw_skip (aw_block (xr (xm Z Z Z (xm Z Z Z (xm Z Z Z (xm Z Z Z ?_))))))
   obtain ⟨r165, r165e, h⟩ := bind_some h
   refine xc Z (op_call (vs := [.vec o0, .i s161.a, .i s161.b, .fn 32 []]) (H := [(o0, .vec 2 (s161.v.map api.Field.av))]) Z call75 ⟨(tm Z), (tm Z), (tm Z), (tm Z), trivial⟩ (List.Perm.refl _) (slices.insertionSortCmpFunc_api_Field_v_charge_Hash_1.ok r165e o0) ?_)
   rintro _ _ ⟨rfl, rfl⟩
   refine xe (xr (xm Z Z Z (xm Z Z Z (xe (aw_region (xm Z Z Z (xm Z Z Z (xa (.i (IntKind.wrap .i64 (s161.b + 20))) Z (pu_int (v := .i (IntKind.wrap .i64 (s161.b + 20))) Z Z (tm Z) (tm Z) Z) ?_))))))))
   refine xm Z Z Z (xe ?_)
   obtain rfl := some_of h
   exact ⟨_, (), Z, Weak.mkL [0] (by decide) ⟨⟨_, Z, Z⟩, trivial⟩ ⟨tm Z, tm Z, tm Z, tm Z, tm Z, (AEv.le (tm Z) vr), trivial⟩⟩
  ·replace h := ite_f (dec_f hb166) h
   refine aw_exit ?_
   obtain rfl := some_of h
   have h := congrArg some (hx162 _ rfl)
   obtain rfl := some_of h
   exact ⟨(), Weak.mkL [0] (by decide) ⟨⟨_, Z, Z⟩, trivial⟩ ⟨tm Z, tm Z, tm Z, tm Z, tm Z, trivial⟩⟩
 ·intro _
  have h := h153
  refine xr (xm Z Z Z (xm Z Z Z (xm Z Z Z (xm Z Z Z ?_))))
  obtain ⟨r167, r167e, h⟩ := bind_some h
  refine xc Z (op_call (vs := [.vec o0, .i s152.1, .i n_, .fn 32 []]) (H := [(o0, .vec 2 (s152.2.map api.Field.av))]) Z call75 ⟨(tm Z), (tm Z), (tm Z), (tm Z), trivial⟩ (List.Perm.refl _) (slices.insertionSortCmpFunc_api_Field_v_charge_Hash_1.ok r167e o0) ?_)
  rintro _ _ ⟨rfl, rfl⟩
  refine xe (aw_block (aw_while (σ := slices.stableCmpFunc_api_Field_v_charge_Hash_1.S2) (ν := Unit) (slices.stableCmpFunc_api_Field_v_charge_Hash_1.body2 n_) (fun s240 v => [(0, .vec o0), (1, .i n_), (2, .fn 32 []), (6, .i s240.blockSize)]) (fun s240 v => [(o0, .vec 2 (s240.v.map api.Field.av))]) ⟨20, r167⟩ () _ h (Weak.mkL [0] (by decide) ⟨⟨_, Z, Z⟩, trivial⟩ ⟨tm Z, tm Z, tm Z, tm Z, trivial⟩) ?_))
  rintro s240 _ x242 h hx241
  unfold slices.stableCmpFunc_api_Field_v_charge_Hash_1.body2 at h
  refine aw_seq (xr (xm Z Z Z (xm Z Z Z (xa (.bool (decide (s240.blockSize < n_))) Z (pu_int (v := .bool (decide (s240.blockSize < n_))) Z Z (tm Z) (tm Z) Z) (xe (aw_cond (b := decide (s240.blockSize < n_)) (tm Z) (fun hb278 => ?_) (fun hb278 => ?_)))))))
  ·replace h := ite_t (dec_t hb278) h
   refine aw_skip (aw_block (xr (xm Z Z Z (xa (.i (IntKind.wrap .i64 (2 * s240.blockSize))) Z (pu_int (v := .i (IntKind.wrap .i64 (2 * s240.blockSize))) Z Z (AEv.int _ _) (tm Z) Z) (xa (.i 0) Z (pu_assign Z (AEv.int _ _)) (xm Z Z Z (xe ?_)))))))
   obtain ⟨s256, s256e, h257⟩ := bind_some h
   refine aw_meet (ν := Unit) (fun v => [(0, .vec o0), (1, .i n_), (2, .fn 32 []), (6, .i s240.blockSize), (7, .i s256.1)]) (fun v => [(o0, .vec 2 (s256.2.map api.Field.av))]) ?_ ?_
   ·have h := s256e
    refine aw_block (aw_while (σ := slices.stableCmpFunc_api_Field_v_charge_Hash_1.S4) (ν := Unit) (slices.stableCmpFunc_api_Field_v_charge_Hash_1.body4 n_ s240) (fun s265 v => [(0, .vec o0), (1, .i n_), (2, .fn 32 []), (6, .i s240.blockSize), (7, .i s265.a), (8, .i s265.b)]) (fun s265 v => [(o0, .vec 2 (s265.v.map api.Field.av))]) ⟨0, IntKind.wrap .i64 (2 * s240.blockSize), s240.v⟩ () _ h (Weak.mkL [0] (by decide) ⟨⟨_, Z, Z⟩, trivial⟩ ⟨tm Z, tm Z, tm Z, tm Z, tm Z, (AEv.le (tm Z) vr), trivial⟩) ?_)
    rintro s265 _ x267 h hx266
    unfold slices.stableCmpFunc_api_Field_v_charge_Hash_1.body4 at h
    refine aw_seq (xr (xm Z Z Z (xm Z Z Z (xa (.bool (decide (s265.b ≤ n_))) Z (pu_int (v := .bool (decide (s265.b ≤ n_))) Z Z (tm Z) (tm Z) Z) (xe (aw_cond (b := decide (s265.b ≤ n_)) (tm Z) (fun hb270 => ?_) (fun hb270 => ?_)))))))
    ·replace h := ite_t (dec_t hb270) h
     refine aw_skip (aw_block (xr (xm Z Z Z (xm Z Z Z (xm Z Z Z (xm Z Z Z (xa (.i (IntKind.wrap .i64 (s265.a + s240.blockSize))) Z (pu_int (v := .i (IntKind.wrap .i64 (s265.a + s240.blockSize))) Z Z (tm Z) (tm Z) Z) (xm Z Z Z ?_))))))))
     refine xm Z Z Z ?_
     obtain ⟨r269, r269e, h⟩ := bind_some h
     refine xc Z (op_call (vs := [.vec o0, .i s265.a, .i (IntKind.wrap .i64 (s265.a + s240.blockSize)), .i s265.b, .fn 32 []]) (H := [(o0, .vec 2 (s265.v.map api.Field.av))]) Z call76 ⟨(tm Z), (tm Z), (tm Z), (tm Z), (tm Z), trivial⟩ (List.Perm.refl _) (slices.symMergeCmpFunc_api_Field_v_charge_Hash_1.ok r269e o0) ?_)
     rintro _ _ ⟨rfl, rfl⟩
     refine xe (xr (xm Z Z Z (xm Z Z Z (xe (aw_region (xm Z Z Z (xm Z Z Z (xa (.i (IntKind.wrap .i64 (2 * s240.blockSize))) Z (pu_int (v := .i (IntKind.wrap .i64 (2 * s240.blockSize))) Z Z (AEv.int _ _) (tm Z) Z) ?_))))))))
     refine xa (.i (IntKind.wrap .i64 (s265.b + (IntKind.wrap .i64 (2 * s240.blockSize))))) Z (pu_int (v := .i (IntKind.wrap .i64 (s265.b + (IntKind.wrap .i64 (2 * s240.blockSize))))) Z Z (tm Z) (tm Z) Z) (xm Z Z Z (xe ?_))
     obtain rfl := some_of h
     exact ⟨_, (), Z, Weak.mkL [0] (by decide) ⟨⟨_, Z, Z⟩, trivial⟩ ⟨tm Z, tm Z, tm Z, tm Z, tm Z, (AEv.le (tm Z) vr), trivial⟩⟩
    ·replace h := ite_f (dec_f hb270) h
     refine aw_exit ?_
     obtain rfl := some_of h
     have h := congrArg some (hx266 _ rfl)
     obtain rfl := some_of h
     exact ⟨(), Weak.mkL [0] (by decide) ⟨⟨_, Z, Z⟩, trivial⟩ ⟨tm Z, tm Z, tm Z, tm Z, tm Z, trivial⟩⟩
   ·intro _
    have h := h257
    obtain ⟨s273, s273e, h274⟩ := bind_some h
    refine aw_meet (ν := Unit) (fun v => [(0, .vec o0), (1, .i n_), (2, .fn 32 []), (6, .i s240.blockSize)]) (fun v => [(o0, .vec 2 (s273.map api.Field.av))]) ?_ ?_
    ·have h := s273e
     refine xr (xm Z Z Z (xm Z Z Z (xa (.i (IntKind.wrap .i64 (s256.1 + s240.blockSize))) Z (pu_int (v := .i (IntKind.wrap .i64 (s256.1 + s240.blockSize))) Z Z (tm Z) (tm Z) Z) (xm Z Z Z (xe (xr (xm Z Z Z ?_)))))))
     refine xm Z Z Z (xa (.bool (decide ((IntKind.wrap .i64 (s256.1 + s240.blockSize)) < n_))) Z (pu_int (v := .bool (decide ((IntKind.wrap .i64 (s256.1 + s240.blockSize)) < n_))) Z Z (tm Z) (tm Z) Z) (xe (aw_cond (b := decide ((IntKind.wrap .i64 (s256.1 + s240.blockSize)) < n_)) (tm Z) (fun hb277 => ?_) (fun hb277 => ?_))))
     ·replace h := ite_t (dec_t hb277) h
      refine aw_region (xm Z Z Z (xm Z Z Z (xm Z Z Z (xm Z Z Z (xm Z Z Z ?_)))))
      obtain ⟨r276, r276e, h⟩ := bind_some h
      refine xc Z (op_call (vs := [.vec o0, .i s256.1, .i (IntKind.wrap .i64 (s256.1 + s240.blockSize)), .i n_, .fn 32 []]) (H := [(o0, .vec 2 (s256.2.map api.Field.av))]) Z call76 ⟨(tm Z), (tm Z), (tm Z), (tm Z), (tm Z), trivial⟩ (List.Perm.refl _) (slices.symMergeCmpFunc_api_Field_v_charge_Hash_1.ok r276e o0) ?_)
      rintro _ _ ⟨rfl, rfl⟩
      refine xe ?_
      obtain rfl := some_of h
      exact ⟨(), Weak.mkL [0] (by decide) ⟨⟨_, Z, Z⟩, trivial⟩ ⟨tm Z, tm Z, tm Z, tm Z, trivial⟩⟩
     ·replace h := ite_f (dec_f hb277) h
      refine aw_skip ?_
      obtain rfl := some_of h
      exact ⟨(), Weak.mkL [0] (by decide) ⟨⟨_, Z, Z⟩, trivial⟩ ⟨tm Z, tm Z, tm Z, tm Z, trivial⟩⟩
    ·intro _
     have h := h274
     refine aw_region (xm Z Z Z (xa (.i (IntKind.wrap .i64 (s240.blockSize * 2))) Z (pu_int (v := .i (IntKind.wrap .i64 (s240.blockSize * 2))) Z Z (tm Z) (AEv.int _ _) Z) (xm Z Z Z (xe ?_))))
     obtain rfl := some_of h
     exact ⟨_, (), Z, Weak.mkL [0] (by decide) ⟨⟨_, Z, Z⟩, trivial⟩ ⟨tm Z, tm Z, tm Z, (AEv.le (tm Z) vr), trivial⟩⟩
  ·replace h := ite_f (dec_f hb278) h
   refine aw_exit ?_
   obtain rfl := some_of h
   have h := congrArg some (hx241 _ rfl)
   refine upd_done ?_
   obtain rfl := some_of h
   exact ⟨[], _, [(o0, .vec 2 (s240.v.map api.Field.av))], trivial, vr, Weak.mkL [0] (by decide) ⟨⟨_, Z, Z⟩, trivial⟩ trivial, ⟨Z, Z⟩⟩

theorem slices.SortStableFunc_api_Field_v_charge_Hash_1.ok {x_ : List api.Field} {r : List api.Field} (h : slices.SortStableFunc_api_Field_v_charge_Hash_1 x_ = some r) (o0 : Nat) : Go.Lift.Spec prog 31 [.vec o0, .fn 32 []] [(o0, .vec 2 (x_.map api.Field.av))] (fun v H => v = .tup [] ∧ H = [(o0, .vec 2 (r.map api.Field.av))]) := by
 unfold slices.SortStableFunc_api_Field_v_charge_Hash_1 at h
 refine Go.Lift.Spec.of_body (rs := []) func31 Z Z (nb Z) Z (aw_upd (aw_region (xm Z Z Z (xm Z Z Z (xc Z (op_lenVecM (i := 0) Z underlying23 (tm Z) Z (xm Z Z Z ?_)))))))
 obtain ⟨r2, r2e, h⟩ := bind_some h
 refine xc Z (op_call (vs := [.vec o0, .i (x_.length : Int), .fn 32 []]) (H := [(o0, .vec 2 (x_.map api.Field.av))]) Z call55 ⟨(tm Z), (tm Z), (tm Z), trivial⟩ (List.Perm.refl _) (slices.stableCmpFunc_api_Field_v_charge_Hash_1.ok r2e o0) ?_)
 rintro _ _ ⟨rfl, rfl⟩
 refine xe (upd_done ?_)
 obtain rfl := some_of h
 exact ⟨[], _, [(o0, .vec 2 (r2.map api.Field.av))], trivial, vr, Weak.mkL [0] (by decide) ⟨⟨_, Z, Z⟩, trivial⟩ trivial, ⟨Z, Z⟩⟩

theorem charge.Hash_2.ok {a : api.Field} {b : api.Field} {r : Bool} (h : charge.Hash_2 a b = some r) : Go.Lift.Spec prog 35 [.agg [.str a.Key, .str a.Val], .agg [.str b.Key, .str b.Val]] [] (fun v H => v = .bool r ∧ H = []) := by
 unfold charge.Hash_2 at h
 refine Go.Lift.Spec.of_body (rs := [.tmp 4]) func35 Z Z (nb Z) Z (xr (xc Z (op_box (cs := [.str a.Key, .str a.Val]) (v := .agg [.str a.Key, .str a.Val]) Z (tm Z) Z Z ?_)))
 intro p3
 refine xc Z (op_box (cs := [.str b.Key, .str b.Val]) (v := .agg [.str b.Key, .str b.Val]) Z (tm Z) Z Z ?_)
 intro p4
 refine xa (.bool false) Z (pu_assign Z (AEv.bool _)) (xe (xr (xa (.ptr p3 0) Z (fa Z underlying54 Z sizeOf9 Z Z Z) (xc Z (op_load1 (i := 1) Z isAgg9 (tm Z) Z Z (xa (.ptr p4 0) Z (fa Z underlying54 Z sizeOf9 Z Z Z) (xc Z (op_load1 (i := 0) Z isAgg9 (tm Z) Z Z (xa (.bool (decide (a.Key = b.Key))) Z (pu_str (v := .bool (decide (a.Key = b.Key))) Z Z (tm Z) (tm Z) Z) (xm Z Z Z ?_))))))))))
 refine xe (aw_ret ?_)
 obtain rfl := some_of h
 exact ⟨[.bool (decide (a.Key = b.Key))], _, [], ⟨(tm Z), trivial⟩, vr, Weak.mkL [] (by decide) trivial trivial, ⟨Z, Z⟩⟩

theorem slices.CompactFunc_api_Field_v_charge_Hash_2.ok {s_ : List api.Field} {r : List api.Field} (h : slices.CompactFunc_api_Field_v_charge_Hash_2 s_ = some r) (o0 : Nat) : Go.Lift.Spec prog 34 [.vec o0, .fn 35 []] [(o0, .vec 2 (s_.map api.Field.av))] (fun v H => ∃ n0, v = .vec n0 ∧ H = [(n0, .vec 2 (r.map api.Field.av))]) := by
 unfold slices.CompactFunc_api_Field_v_charge_Hash_2 at h
 refine Go.Lift.Spec.of_body (rs := [.tmp 4]) func34 Z Z (nb Z) Z (xr (xa (.sl .full 2 (([] : List api.Field).map api.Field.av)) Z (pu_assign Z (AEv.nil 2 (by decide))) (xe (aw_seq (xr (xm Z Z Z (xc Z (op_lenVecM (i := 0) Z underlying23 (tm Z) Z ?_))))))))
 refine xa (.bool (decide ((s_.length : Int) < 2))) Z (pu_int (v := .bool (decide ((s_.length : Int) < 2))) Z Z (tm Z) (AEv.int _ _) Z) (xe (aw_cond (b := decide ((s_.length : Int) < 2)) (tm Z) (fun hb2580 => ?_) (fun hb2580 => ?_)))
 ·replace h := ite_t (dec_t hb2580) h
  refine xr (xm Z Z Z (xm Z Z Z (xe (aw_ret ?_))))
  obtain rfl := some_of h
  exact ⟨[.vec o0], _, [(o0, .vec 2 (s_.map api.Field.av))], ⟨(tm Z), trivial⟩, vr, Weak.mkL [0] (by decide) ⟨⟨_, Z, Z⟩, trivial⟩ trivial, ⟨o0, Z, Z⟩⟩
 ·replace h := ite_f (dec_f hb2580) h
  refine aw_skip ?_
  obtain ⟨s2579, s2579e, h1933⟩ := bind_some h
  refine aw_join (σ := Unit) (ν := Unit) (fun u v => [(0, .vec o0)]) (fun u v => [(o0, .vec 2 (s_.map api.Field.av))]) (fun u => s2579 = .inl u) ?_ ?_
  ·intro s1932
   intro _
   rintro rfl
   have h := onSum_inl h1933
   refine xr (xm Z Z Z (xm Z Z Z (xe (aw_ret ?_))))
   obtain rfl := some_of h
   exact ⟨[.vec o0], _, [(o0, .vec 2 (s_.map api.Field.av))], ⟨(tm Z), trivial⟩, vr, Weak.mkL [0] (by decide) ⟨⟨_, Z, Z⟩, trivial⟩ trivial, ⟨o0, Z, Z⟩⟩
  ·have h := s2579e
   refine xr (xa (.i 1) Z (pu_assign Z (AEv.int _ _)) (xe (aw_block (aw_while (σ := slices.CompactFunc_api_Field_v_charge_Hash_2.S0) (ν := Unit) (slices.CompactFunc_api_Field_v_charge_Hash_2.body0 s_) (fun s2361 v => [(0, .vec o0), (1, .fn 35 []), (5, .i s2361.k)]) (fun s2361 v => [(o0, .vec 2 (s_.map api.Field.av))]) ⟨1⟩ () _ h (Weak.mkL [0] (by decide) ⟨⟨_, Z, Z⟩, trivial⟩ ⟨tm Z, tm Z, tm Z, trivial⟩) ?_))))
   rintro s2361 _ x2363 h hx2362
   unfold slices.CompactFunc_api_Field_v_charge_Hash_2.body0 at h
   refine aw_seq (xr (xm Z Z Z (xm Z Z Z (xc Z (op_lenVecM (i := 0) Z underlying23 (tm Z) Z (xa (.bool (decide (s2361.k < (s_.length : Int)))) Z (pu_int (v := .bool (decide (s2361.k < (s_.length : Int)))) Z Z (tm Z) (tm Z) Z) (xe (aw_cond (b := decide (s2361.k < (s_.length : Int))) (tm Z) (fun hb2578 => ?_) (fun hb2578 => ?_)))))))))
   ·replace h := ite_t (dec_t hb2578) h
    refine aw_skip (aw_seq (aw_block (aw_seq ?_)))
    obtain ⟨c2365, h⟩ := need_of h
    obtain ⟨c2366, h⟩ := need_of h
    obtain ⟨c2367, h⟩ := need_of h
    obtain ⟨c2368, h⟩ := need_of h
    obtain ⟨r2369, r2369e, h⟩ := bind_some h
    refine aw_planR (by decide +kernel) [[], [], [], [(0, 0, false)], [(0, 0, false)], [], [], [], [(0, 0, false)], [(0, 0, false)], []] [[]] [[[(o0, .vec 2 (s_.map api.Field.av))]]] [.fn 35 [], .vec o0, .i s2361.k, .eptr o0 (s2361.k).toNat 0, .agg [.str (ix s_ s2361.k).Key, .str (ix s_ s2361.k).Val], .vec o0, .i s2361.k, .i (IntKind.wrap .i64 (s2361.k - 1)), .eptr o0 (IntKind.wrap .i64 (s2361.k - 1)).toNat 0, .agg [.str (ix s_ (IntKind.wrap .i64 (s2361.k - 1))).Key, .str (ix s_ (IntKind.wrap .i64 (s2361.k - 1))).Val], .bool r2369] (by decide +kernel) Z Z ?_ ?_
    ·exact ⟨ym Z Z Z, ym Z Z Z, ym Z Z Z, stepg_plain Z (op_indexAddrVecM Z underlying23 sizeOf54 (tm Z) (j := 0) Z (tm Z) c2365 ⟨Z, Z⟩), stepg_plain Z (op_loadENM (i := 0) (sz := 2) Z isAgg54 sizeOf54 (tm Z) Z c2366 (by decide) Z ⟨Z, Z⟩), ym Z Z Z, ym Z Z Z, yp Z (pu_int (v := .i (IntKind.wrap .i64 (s2361.k - 1))) Z Z (tm Z) (AEv.int _ _) Z), stepg_plain Z (op_indexAddrVecM Z underlying23 sizeOf54 (tm Z) (j := 0) Z (tm Z) c2367 ⟨Z, Z⟩), stepg_plain Z (op_loadENM (i := 0) (sz := 2) Z isAgg54 sizeOf54 (tm Z) Z c2368 (by decide) Z ⟨Z, Z⟩), stepg_plain Z (op_callV (vs := [.agg [.str (ix s_ s2361.k).Key, .str (ix s_ s2361.k).Val], .agg [.str (ix s_ (IntKind.wrap .i64 (s2361.k - 1))).Key, .str (ix s_ (IntKind.wrap .i64 (s2361.k - 1))).Val]]) (H := []) Z (tm Z) call35 ⟨(tm Z), (tm Z), trivial⟩ (R := []) (List.Perm.refl _) (charge.Hash_2.ok r2369e) (by rintro _ _ ⟨rfl, rfl⟩; exact ⟨Z, Z⟩)), trivial⟩
    refine aw_cond (b := r2369) (tm Z) (fun hb2577 => ?_) (fun hb2577 => ?_)
    ·replace h := ite_t hb2577 h
     refine xr (xm Z Z Z (xm Z Z Z ?_))
     obtain ⟨c2370, h⟩ := need_of h
     refine xc Z (op_sliceVecM Z underlying23 sizeOf54 (tm Z) (q := 0) Z ⟨_, (tm Z)⟩ Z c2370 (xm Z Z Z (xe ?_)))
     obtain ⟨s2470, s2470e, h2471⟩ := bind_some h
     refine aw_meet (ν := Unit) (fun v => [(0, .vec o0), (5, .i s2470.1)]) (fun v => [(o0, .vec 2 (s2470.2.map api.Field.av))]) ?_ ?_
     ·have h := s2470e
      refine xr (xa (.i 1) Z (pu_assign Z (AEv.int _ _)) (xe (aw_block (aw_while (σ := slices.CompactFunc_api_Field_v_charge_Hash_2.S2) (ν := Unit) (slices.CompactFunc_api_Field_v_charge_Hash_2.body2 s2361 s_) (fun s2537 v => [(0, .vec o0), (1, .fn 35 []), (5, .i s2537.k), (6, .vsl o0 (Int.toNat s2361.k) (Int.toNat (s_.length : Int))), (7, .i s2537.k2)]) (fun s2537 v => [(o0, .vec 2 (s2537.v.map api.Field.av))]) ⟨s2361.k, 1, s_⟩ () _ h (Weak.mkL [0] (by decide) ⟨⟨_, Z, Z⟩, trivial⟩ ⟨tm Z, tm Z, tm Z, tm Z, tm Z, trivial⟩) ?_))))
      rintro s2537 _ x2539 h hx2538
      unfold slices.CompactFunc_api_Field_v_charge_Hash_2.body2 at h
      refine aw_seq (xr (xm Z Z Z (xm Z Z Z ?_)))
      obtain ⟨c2541, h⟩ := need_of h
      refine xa (.i ((s_.length : Int) - s2361.k)) Z (pu_lenVslM Z underlying23 (tm Z) c2541) (xa (.bool (decide (s2537.k2 < ((s_.length : Int) - s2361.k)))) Z (pu_int (v := .bool (decide (s2537.k2 < ((s_.length : Int) - s2361.k)))) Z Z (tm Z) (tm Z) Z) (xe (aw_cond (b := decide (s2537.k2 < ((s_.length : Int) - s2361.k))) (tm Z) (fun hb2571 => ?_) (fun hb2571 => ?_))))
      ·replace h := ite_t (dec_t hb2571) h
       refine aw_skip ?_
       obtain ⟨s2555, s2555e, h2556⟩ := bind_some h
       refine aw_meet (ν := Unit) (fun v => [(0, .vec o0), (1, .fn 35 []), (5, .i s2555.1), (6, .vsl o0 (Int.toNat s2361.k) (Int.toNat (s_.length : Int))), (7, .i s2537.k2)]) (fun v => [(o0, .vec 2 (s2555.2.map api.Field.av))]) ?_ ?_
       ·have h := s2555e
        refine aw_block (aw_seq ?_)
        obtain ⟨c2558, h⟩ := need_of h
        obtain ⟨c2559, h⟩ := need_of h
        obtain ⟨c2560, h⟩ := need_of h
        obtain ⟨c2561, h⟩ := need_of h
        obtain ⟨c2562, h⟩ := need_of h
        obtain ⟨c2563, h⟩ := need_of h
        obtain ⟨r2564, r2564e, h⟩ := bind_some h
        refine aw_planR (by decide +kernel) [[], [], [], [(0, 0, false)], [(0, 0, false)], [], [], [], [(0, 0, false)], [(0, 0, false)], [], []] [[]] [[[(o0, .vec 2 (s2537.v.map api.Field.av))]]] [.fn 35 [], .vsl o0 (Int.toNat s2361.k) (Int.toNat (s_.length : Int)), .i s2537.k2, .eptr o0 (s2361.k + s2537.k2).toNat 0, .agg [.str (ix s2537.v (s2361.k + s2537.k2)).Key, .str (ix s2537.v (s2361.k + s2537.k2)).Val], .vsl o0 (Int.toNat s2361.k) (Int.toNat (s_.length : Int)), .i s2537.k2, .i (IntKind.wrap .i64 (s2537.k2 - 1)), .eptr o0 (s2361.k + (IntKind.wrap .i64 (s2537.k2 - 1))).toNat 0, .agg [.str (ix s2537.v (s2361.k + (IntKind.wrap .i64 (s2537.k2 - 1)))).Key, .str (ix s2537.v (s2361.k + (IntKind.wrap .i64 (s2537.k2 - 1)))).Val], .bool r2564, .bool (!r2564)] (by decide +kernel) Z Z ?_ ?_
        ·exact ⟨ym Z Z Z, ym Z Z Z, ym Z Z Z, stepg_plain Z (op_indexAddrVslM Z underlying23 sizeOf54 (tm Z) (j := 0) Z (tm Z) c2558 c2559 ⟨Z, Z⟩), stepg_plain Z (op_loadENM (i := 0) (sz := 2) Z isAgg54 sizeOf54 (tm Z) Z c2560 (by decide) Z ⟨Z, Z⟩), ym Z Z Z, ym Z Z Z, yp Z (pu_int (v := .i (IntKind.wrap .i64 (s2537.k2 - 1))) Z Z (tm Z) (AEv.int _ _) Z), stepg_plain Z (op_indexAddrVslM Z underlying23 sizeOf54 (tm Z) (j := 0) Z (tm Z) c2561 c2562 ⟨Z, Z⟩), stepg_plain Z (op_loadENM (i := 0) (sz := 2) Z isAgg54 sizeOf54 (tm Z) Z c2563 (by decide) Z ⟨Z, Z⟩), stepg_plain Z (op_callV (vs := [.agg [.str (ix s2537.v (s2361.k + s2537.k2)).Key, .str (ix s2537.v (s2361.k + s2537.k2)).Val], .agg [.str (ix s2537.v (s2361.k + (IntKind.wrap .i64 (s2537.k2 - 1)))).Key, .str (ix s2537.v (s2361.k + (IntKind.wrap .i64 (s2537.k2 - 1)))).Val]]) (H := []) Z (tm Z) call35 ⟨(tm Z), (tm Z), trivial⟩ (R := []) (List.Perm.refl _) (charge.Hash_2.ok r2564e) (by rintro _ _ ⟨rfl, rfl⟩; exact ⟨Z, Z⟩)), yp Z (pu_not Z (tm Z)), trivial⟩
        refine aw_cond (b := (!r2564)) (tm Z) (fun hb2570 => ?_) (fun hb2570 => ?_)
        ·replace h := ite_t hb2570 h
         refine xr (xm Z Z Z (xm Z Z Z (xm Z Z Z (xm Z Z Z ?_))))
         obtain ⟨c2565, h⟩ := need_of h
         obtain ⟨c2566, h⟩ := need_of h
         refine xc Z (op_indexAddrVslM Z underlying23 sizeOf54 (tm Z) (j := 0) Z (tm Z) c2565 c2566 ?_)
         obtain ⟨c2567, h⟩ := need_of h
         refine xc Z (op_loadENM (i := 0) (sz := 2) Z isAgg54 sizeOf54 (tm Z) Z c2567 (by decide) Z ?_)
         obtain ⟨c2568, h⟩ := need_of h
         refine xc Z (op_indexAddrVecM Z underlying23 sizeOf54 (tm Z) (j := 0) Z (tm Z) c2568 ?_)
         obtain ⟨c2569, h⟩ := need_of h
         refine ac0 Z Z (op_storeEM (i := 0) (sz := 2) (y' := (ix s2537.v (s2361.k + s2537.k2))) Z sizeOf54 (tm Z) (v := .agg [.str (ix s2537.v (s2361.k + s2537.k2)).Key, .str (ix s2537.v (s2361.k + s2537.k2)).Val]) (tm Z) Z c2569 Z Z (by decide) Z (xe (aw_region (xm Z Z Z (xa (.i (IntKind.wrap .i64 (s2537.k + 1))) Z (pu_int (v := .i (IntKind.wrap .i64 (s2537.k + 1))) Z Z (tm Z) (AEv.int _ _) Z) (xm Z Z Z (xe ?_)))))))
         obtain rfl := some_of h
         exact ⟨(), Weak.mkL [0] (by decide) ⟨⟨_, Z, Z⟩, trivial⟩ ⟨tm Z, tm Z, (AEv.le (tm Z) vr), tm Z, tm Z, trivial⟩⟩
        ·replace h := ite_fb hb2570 h
         refine aw_skip ?_
         obtain rfl := some_of h
         exact ⟨(), Weak.mkL [0] (by decide) ⟨⟨_, Z, Z⟩, trivial⟩ ⟨tm Z, tm Z, tm Z, tm Z, tm Z, trivial⟩⟩
       ·intro _
        have h := h2556
        refine aw_region (xm Z Z Z (xa (.i (IntKind.wrap .i64 (s2537.k2 + 1))) Z (pu_int (v := .i (IntKind.wrap .i64 (s2537.k2 + 1))) Z Z (tm Z) (AEv.int _ _) Z) (xm Z Z Z (xe ?_))))
        obtain rfl := some_of h
        exact ⟨_, (), Z, Weak.mkL [0] (by decide) ⟨⟨_, Z, Z⟩, trivial⟩ ⟨tm Z, tm Z, tm Z, tm Z, (AEv.le (tm Z) vr), trivial⟩⟩
      ·replace h := ite_f (dec_f hb2571) h
       refine aw_exit ?_
       obtain rfl := some_of h
       have h := congrArg some (hx2538 _ rfl)
       obtain rfl := some_of h
       exact ⟨(), Weak.mkL [0] (by decide) ⟨⟨_, Z, Z⟩, trivial⟩ ⟨tm Z, tm Z, trivial⟩⟩
     ·intro _
      have h := h2471
      refine xr (xm Z Z Z (xm Z Z Z ?_))
      obtain ⟨c2572, h⟩ := need_of h
      refine xc Z (op_sliceVecM Z underlying23 sizeOf54 (tm Z) (q := 0) Z ⟨_, (tm Z)⟩ Z c2572 ?_)
      obtain ⟨c2573, h⟩ := need_of h
      refine ac0 Z Z (op_clearVM (q := 0) api.Field.av (({ Key := ([] : List UInt8), Val := ([] : List UInt8) } : api.Field) : api.Field) Z underlying23 zeroValue54 Z Z (tm Z) Z c2573 (xe (xr (xm Z Z Z (xm Z Z Z ?_)))))
      obtain ⟨c2574, h⟩ := need_of h
      refine xc Z (op_sliceVecM Z underlying23 sizeOf54 (tm Z) (q := 0) Z Z ⟨_, (tm Z)⟩ c2574 (xm Z Z Z (xe ?_)))
      obtain ⟨c2575, h⟩ := need_of h
      refine aw_shrinkM 4 0 (tm Z) Z c2575 fun p2576 => (aw_ret ?_)
      obtain rfl := some_of h
      have h := congrArg some (hx2362 _ rfl)
      obtain rfl := some_of h
      have h := onSum_inr h1933
      obtain rfl := some_of h
      exact ⟨[.vec p2576], _, [(p2576, .vec 2 ((List.take (Int.toNat s2470.1) (clrL s2470.2 (Int.toNat s2470.1) (Int.toNat (s2470.2.length : Int)) (({ Key := ([] : List UInt8), Val := ([] : List UInt8) } : api.Field) : api.Field))).map api.Field.av))], ⟨(tm Z), trivial⟩, vr, Weak.mkL [0] (by decide) ⟨⟨_, Z, Z⟩, trivial⟩ trivial, ⟨p2576, Z, Z⟩⟩
    ·replace h := ite_fb hb2577 h
     refine aw_skip (aw_region (xm Z Z Z (xa (.i (IntKind.wrap .i64 (s2361.k + 1))) Z (pu_int (v := .i (IntKind.wrap .i64 (s2361.k + 1))) Z Z (tm Z) (AEv.int _ _) Z) (xm Z Z Z (xe ?_)))))
     obtain rfl := some_of h
     exact ⟨_, (), Z, Weak.mkL [0] (by decide) ⟨⟨_, Z, Z⟩, trivial⟩ ⟨tm Z, tm Z, (AEv.le (tm Z) vr), trivial⟩⟩
   ·replace h := ite_f (dec_f hb2578) h
    refine aw_exit ?_
    obtain rfl := some_of h
    have h := congrArg some (hx2362 _ rfl)
    exact ⟨(), (), (some_of h).symm, Weak.mkL [0] (by decide) ⟨⟨_, Z, Z⟩, trivial⟩ ⟨tm Z, trivial⟩⟩

theorem charge.Hash.ok {l : List api.Field} {r : api.Value} (h : charge.Hash l = some r) : Go.Lift.Spec prog 11 [.sl .no 2 (l.map api.Field.av)] [] (fun v H => v = .agg (api.Value.ct .full .no .full ({ Kind := r.Kind, Text := r.Text, List_ := r.List_, Hash := r.Hash, ZSet := r.ZSet } : api.Value)) ∧ H = []) := by
 unfold charge.Hash at h
 refine Go.Lift.Spec.of_body (rs := [.cell 2 26]) func11 Z Z (nb Z) Z (xr (xc Z (op_alloc (cs := (api.Value.ct .full .full .full ({ Kind := 0, Text := ([] : List UInt8), List_ := ([] : List (List UInt8)), Hash := ([] : List api.Field), ZSet := ([] : List api.Scored) } : api.Value))) (v := .agg (api.Value.ct .full .full .full ({ Kind := 0, Text := ([] : List UInt8), List_ := ([] : List (List UInt8)), Hash := ([] : List api.Field), ZSet := ([] : List api.Scored) } : api.Value))) Z zeroValue26 Z Z Z ?_)))
 intro p9
 refine xe (xr (xm Z Z Z ?_))
 obtain ⟨r10, r10e, h⟩ := bind_some h
 refine xc Z (op_call (vs := [.sl .no 2 (l.map api.Field.av)]) (H := []) Z call29 ⟨(tm Z), trivial⟩ (List.Perm.refl _) (slices.Clone_api_Field.ok r10e) ?_)
 rintro _ _ ⟨t11, rfl, rfl⟩
 refine xm Z Z Z (xe (xr (xm Z Z Z ?_)))
 obtain ⟨r12, r12e, h⟩ := bind_some h
 refine xc Z (op_call (vs := [.vec t11]) (H := [(t11, .vec 2 (r10.map api.Field.av))]) Z call30 ⟨(tm Z), trivial⟩ (List.Perm.refl _) (slices.Reverse_api_Field_v.ok r12e t11) ?_)
 rintro _ _ ⟨rfl, rfl⟩
 refine xe (xr (xm Z Z Z ?_))
 obtain ⟨r13, r13e, h⟩ := bind_some h
 refine xc Z (op_call (vs := [.vec t11, .fn 32 []]) (H := [(t11, .vec 2 (r12.map api.Field.av))]) Z call31 ⟨(tm Z), (AEv.func _), trivial⟩ (List.Perm.refl _) (slices.SortStableFunc_api_Field_v_charge_Hash_1.ok r13e t11) ?_)
 rintro _ _ ⟨rfl, rfl⟩
 refine xe (xr (xm Z Z Z ?_))
 obtain ⟨r14, r14e, h⟩ := bind_some h
 refine xc Z (op_call (vs := [.vec t11, .fn 35 []]) (H := [(t11, .vec 2 (r13.map api.Field.av))]) Z call34 ⟨(tm Z), (AEv.func _), trivial⟩ (List.Perm.refl _) (slices.CompactFunc_api_Field_v_charge_Hash_2.ok r14e t11) ?_)
 rintro _ _ ⟨t15, rfl, rfl⟩
 refine xm Z Z Z (xe (aw_seq (xr (xm Z Z Z (xc Z (op_lenVecM (i := 0) Z underlying23 (tm Z) Z (xa (.bool (decide ((r14.length : Int) = 0))) Z (pu_int (v := .bool (decide ((r14.length : Int) = 0))) Z Z (tm Z) (AEv.int _ _) Z) (xe (aw_cond (b := decide ((r14.length : Int) = 0)) (tm Z) (fun hb16 => ?_) (fun hb16 => ?_))))))))))
 ·replace h := ite_t (dec_t hb16) h
  refine xr (xa (.agg (api.Value.ct .full .full .full ({ Kind := 0, Text := ([] : List UInt8), List_ := ([] : List (List UInt8)), Hash := ([] : List api.Field), ZSet := ([] : List api.Scored) } : api.Value))) Z (pu_build (zs := [.i 0, .str ([] : List UInt8), .sl .full 1 (([] : List (List UInt8)).map AV.str), .sl .full 2 (([] : List api.Field).map api.Field.av), .sl .full 2 (([] : List api.Scored).map api.Scored.av)]) (szs := [1, 1, 1, 1, 1]) (aparts := []) (cs := [.i 0, .str ([] : List UInt8), .sl .full 1 (([] : List (List UInt8)).map AV.str), .sl .full 2 (([] : List api.Field).map api.Field.av), .sl .full 2 (([] : List api.Scored).map api.Scored.av)]) Z underlying26 zeroValue26 Z ⟨sizeOf3, sizeOf9, sizeOf22, sizeOf23, sizeOf24, trivial⟩ trivial Z) (ac0 Z Z (op_store (i := 1) (cs' := (api.Value.ct .full .full .full ({ Kind := 0, Text := ([] : List UInt8), List_ := ([] : List (List UInt8)), Hash := ([] : List api.Field), ZSet := ([] : List api.Scored) } : api.Value))) Z sizeOf26 (tm Z) (v := .agg (api.Value.ct .full .full .full ({ Kind := 0, Text := ([] : List UInt8), List_ := ([] : List (List UInt8)), Hash := ([] : List api.Field), ZSet := ([] : List api.Scored) } : api.Value))) (tm Z) Z Z Z (nb Z) Z (xe (aw_ret ?_)))))
  obtain rfl := some_of h
  exact ⟨[.agg (api.Value.ct .full .full .full ({ Kind := 0, Text := ([] : List UInt8), List_ := ([] : List (List UInt8)), Hash := ([] : List api.Field), ZSet := ([] : List api.Scored) } : api.Value))], .agg (api.Value.ct .full .no .full ({ Kind := 0, Text := ([] : List UInt8), List_ := ([] : List (List UInt8)), Hash := ([] : List api.Field), ZSet := ([] : List api.Scored) } : api.Value)), [], ⟨(CellOk.agg 1 (tm Z) Z isAgg26 sizeOf26 (nb Z) Z), trivial⟩, (AV.Le.agg ⟨vr, vr, vr, (AV.Le.forget _ _ _), vr, trivial⟩), Weak.mkL [] (by decide) trivial trivial, ⟨Z, Z⟩⟩
 ·replace h := ite_f (dec_f hb16) h
  refine aw_skip (xr (xm Z Z Z (aops_publish 16 0 (tm Z) Z (xa (.agg (api.Value.ct .full .no .full ({ Kind := 3, Text := ([] : List UInt8), List_ := ([] : List (List UInt8)), Hash := r14, ZSet := ([] : List api.Scored) } : api.Value))) Z (pu_build (zs := [.i 0, .str ([] : List UInt8), .sl .full 1 (([] : List (List UInt8)).map AV.str), .sl .full 2 (([] : List api.Field).map api.Field.av), .sl .full 2 (([] : List api.Scored).map api.Scored.av)]) (szs := [1, 1, 1, 1, 1]) (aparts := [(0, .i 3), (3, .sl .no 2 (r14.map api.Field.av))]) (cs := [.i 3, .str ([] : List UInt8), .sl .full 1 (([] : List (List UInt8)).map AV.str), .sl .no 2 (r14.map api.Field.av), .sl .full 2 (([] : List api.Scored).map api.Scored.av)]) Z underlying26 zeroValue26 Z ⟨sizeOf3, sizeOf9, sizeOf22, sizeOf23, sizeOf24, trivial⟩ ⟨Z, (AEv.int _ _), ⟨Z, (tm Z), trivial⟩⟩ Z) (ac0 Z Z (op_store (i := 0) (cs' := (api.Value.ct .full .no .full ({ Kind := 3, Text := ([] : List UInt8), List_ := ([] : List (List UInt8)), Hash := r14, ZSet := ([] : List api.Scored) } : api.Value))) Z sizeOf26 (tm Z) (v := .agg (api.Value.ct .full .no .full ({ Kind := 3, Text := ([] : List UInt8), List_ := ([] : List (List UInt8)), Hash := r14, ZSet := ([] : List api.Scored) } : api.Value))) (tm Z) Z Z Z (nb Z) Z (xe (aw_ret ?_))))))))
  obtain rfl := some_of h
  exact ⟨[.agg (api.Value.ct .full .no .full ({ Kind := 3, Text := ([] : List UInt8), List_ := ([] : List (List UInt8)), Hash := r14, ZSet := ([] : List api.Scored) } : api.Value))], _, [], ⟨(CellOk.agg 0 (tm Z) Z isAgg26 sizeOf26 (nb Z) Z), trivial⟩, vr, Weak.mkL [] (by decide) trivial trivial, ⟨Z, Z⟩⟩

theorem mewsref19.Put.ok {l : List api.Field} {f : api.Field} {r : List api.Field} (h : mewsref19.Put l f = some r) : Go.Lift.Spec prog 36 [.sl .no 2 (l.map api.Field.av), .agg [.str f.Key, .str f.Val]] [] (fun v H => ∃ n0, v = .sl (.own n0) 2 (r.map api.Field.av) ∧ H = [(n0, .spare)]) := by
 unfold mewsref19.Put at h
 refine Go.Lift.Spec.of_body (rs := [.tmp 4]) func36 Z Z (nb Z) Z (xr (xc Z (op_box (cs := [.str f.Key, .str f.Val]) (v := .agg [.str f.Key, .str f.Val]) Z (tm Z) Z Z ?_)))
 intro p92
 refine xa (.sl .full 2 (([] : List api.Field).map api.Field.av)) Z (pu_assign Z (AEv.nil 2 (by decide))) (xe (xr (xa (.i 0) Z (pu_assign Z (AEv.int _ _)) (xe ?_))))
 obtain ⟨s123, s123e, h124⟩ := bind_some h
 refine aw_meet (ν := Unit) (fun v => [(0, .sl .no 2 (l.map api.Field.av)), (3, .ptr p92 0), (5, .i s123)]) (fun v => [(p92, .cells [.str f.Key, .str f.Val])]) ?_ ?_
 ·have h := s123e
  refine aw_block (aw_while (σ := mewsref19.Put.S0) (ν := Unit) (mewsref19.Put.body0 l f) (fun s144 v => [(0, .sl .no 2 (l.map api.Field.av)), (3, .ptr p92 0), (5, .i s144.i)]) (fun s144 v => [(p92, .cells [.str f.Key, .str f.Val])]) ⟨0⟩ () _ h (Weak.mkL [0] (by decide) ⟨⟨_, Z, cr, Z⟩, trivial⟩ ⟨tm Z, tm Z, tm Z, trivial⟩) ?_)
  rintro s144 _ x146 h hx145
  unfold mewsref19.Put.body0 at h
  refine aw_seq ?_
  obtain ⟨s150, s150e, h151⟩ := bind_some h
  refine aw_meet (ν := Unit) (fun v => [(0, .sl .no 2 (l.map api.Field.av)), (3, .ptr p92 0), (5, .i s144.i), (20, .bool s150)]) (fun v => [(p92, .cells [.str f.Key, .str f.Val])]) ?_ ?_
  ·have h := s150e
   rcases Bool.eq_false_or_eq_true (decide (s144.i < (l.length : Int))) with hb153 | hb153
   ·replace h := ite_t (dec_t hb153) h
    obtain ⟨c154, h⟩ := need_of h
    refine aw_planR (by decide +kernel) [[], [], [], [], [], [], [], [], [], [], [], [(0, 0, false)], [], []] [[]] [[[(p92, .cells [.str f.Key, .str f.Val])]]] [.i s144.i, .sl .no 2 (l.map api.Field.av), .i (l.length : Int), .bool (decide (s144.i < (l.length : Int))), .bool true, .sl .no 2 (l.map api.Field.av), .i s144.i, .vptr [.str (ix l s144.i).Key, .str (ix l s144.i).Val], .vptr [.str (ix l s144.i).Key, .str (ix l s144.i).Val], .str (ix l s144.i).Key, .ptr p92 0, .str f.Key, .bool (strLt (ix l s144.i).Key f.Key), .bool (strLt (ix l s144.i).Key f.Key)] (by decide +kernel) Z Z ?_ ?_
    ·exact ⟨ym Z Z Z, ym Z Z Z, yp Z (pu_lenM Z underlying23 (tm Z)), yp Z (pu_int (v := .bool (decide (s144.i < (l.length : Int)))) Z Z (tm Z) (tm Z) Z), AStepG.cast (ym Z Z Z) (congrArg AV.bool hb153), yq Z Z (pu_move Z (tm Z)), yq Z Z (pu_move Z (tm Z)), yq Z Z (pu_indexAddrM Z underlying23 sizeOf54 (tm Z) (tm Z) c154 Z), yq Z Z (fa Z underlying54 Z sizeOf9 Z Z Z), yg Z Z (op_loadV1 Z isAgg9 (tm Z) Z ⟨Z, Z⟩), yq Z Z (fa Z underlying54 Z sizeOf9 Z Z Z), yg Z Z (op_load1 (i := 0) Z isAgg9 (tm Z) Z Z ⟨Z, Z⟩), yq Z Z (pu_str (v := .bool (strLt (ix l s144.i).Key f.Key)) Z Z (tm Z) (tm Z) Z), yp Z (pu_pick (b := true) Z (tm Z) (fun _ => (tm Z)) (fun h => nomatch h)), trivial⟩
    obtain rfl := some_of h
    exact ⟨(), Weak.mkL [0] (by decide) ⟨⟨_, Z, cr, Z⟩, trivial⟩ ⟨tm Z, tm Z, tm Z, (AEv.le (tm Z) vr), trivial⟩⟩
   ·replace h := ite_f (dec_f hb153) h
    refine aw_planR (by decide +kernel) [[], [], [], [], [], [], [], [], [], [], [], [], [], []] [[]] [[[(p92, .cells [.str f.Key, .str f.Val])]]] [.i s144.i, .sl .no 2 (l.map api.Field.av), .i (l.length : Int), .bool (decide (s144.i < (l.length : Int))), .bool false, .lit undef, .lit undef, .lit undef, .lit undef, .lit undef, .lit undef, .lit undef, .lit undef, .bool false] (by decide +kernel) Z Z ?_ ?_
    ·exact ⟨ym Z Z Z, ym Z Z Z, yp Z (pu_lenM Z underlying23 (tm Z)), yp Z (pu_int (v := .bool (decide (s144.i < (l.length : Int)))) Z Z (tm Z) (tm Z) Z), AStepG.cast (ym Z Z Z) (congrArg AV.bool hb153), yx Z Z Z, yx Z Z Z, yx Z Z Z, yx Z Z Z, yx Z Z Z, yx Z Z Z, yx Z Z Z, yx Z Z Z, yp Z (pu_pick (b := false) Z (tm Z) (fun h => nomatch h) (fun _ => (AEv.bool _))), trivial⟩
    obtain rfl := some_of h
    exact ⟨(), Weak.mkL [0] (by decide) ⟨⟨_, Z, cr, Z⟩, trivial⟩ ⟨tm Z, tm Z, tm Z, tm Z, trivial⟩⟩
  ·intro _
   have h := h151
   refine aw_cond (b := s150) (tm Z) (fun hb155 => ?_) (fun hb155 => ?_)
   ·replace h := ite_t hb155 h
    refine aw_skip (aw_block (aw_region (xm Z Z Z (xa (.i (IntKind.wrap .i64 (s144.i + 1))) Z (pu_int (v := .i (IntKind.wrap .i64 (s144.i + 1))) Z Z (tm Z) (AEv.int _ _) Z) (xm Z Z Z (xe ?_))))))
    obtain rfl := some_of h
    exact ⟨_, (), Z, Weak.mkL [0] (by decide) ⟨⟨_, Z, cr, Z⟩, trivial⟩ ⟨tm Z, tm Z, (AEv.le (tm Z) vr), trivial⟩⟩
   ·replace h := ite_fb hb155 h
    refine aw_exit ?_
    obtain rfl := some_of h
    have h := congrArg some (hx145 _ rfl)
    obtain rfl := some_of h
    exact ⟨(), Weak.mkL [0] (by decide) ⟨⟨_, Z, cr, Z⟩, trivial⟩ ⟨tm Z, tm Z, tm Z, trivial⟩⟩
 ·intro _
  have h := h124
  refine xr (xm Z Z Z (xm Z Z Z ?_))
  obtain ⟨c156, h⟩ := need_of h
  refine xa (.sl .no 2 ((sub l 0 s123).map api.Field.av)) Z (pu_sliceM Z underlying23 sizeOf54 (tm Z) Z ⟨_, (tm Z)⟩ c156) ?_
  obtain ⟨c157, h⟩ := need_of h
  refine xc Z (op_appendFM Z underlying23 underlying23 (.inl Z) typeInfo54 Z Z Z (by decide) (AEv.nil 2 (by decide)) (given_sl (tm Z)) c157 ?_)
  intro t158
  refine xm Z Z Z (xe (xr (xm Z Z Z (xc Z (op_loadN (i := 1) Z isAgg54 sizeOf54 (tm Z) Z (nb Z) Z (xc Z (op_buildSlice (xs := ([f] : List api.Field).map api.Field.av) (aparts := [(0, .agg [.str f.Key, .str f.Val])]) Z underlying23 sizeOf54 zeroValue54 (by decide) (by decide) ⟨Z, (tm Z), trivial⟩ Z Z Z ?_)))))))
  obtain ⟨c159, h⟩ := need_of h
  refine xc Z (op_appendOM (q := 0) Z underlying23 underlying23 (.inl Z) typeInfo54 Z Z Z (by decide) (tm Z) Z (given_sl (tm Z)) c159 ?_)
  intro t160
  refine xm Z Z Z (xe ?_)
  obtain ⟨s169, s169e, h170⟩ := bind_some h
  refine aw_meet (ν := Unit) (fun v => [(0, .sl .no 2 (l.map api.Field.av)), (5, .i s169), (6, .sl (.own t160) 2 (((([] : List api.Field) ++ (sub l 0 s123)) ++ [f]).map api.Field.av))]) (fun v => [(t160, .spare)]) ?_ ?_
  ·have h := s169e
   obtain ⟨s174, s174e, h175⟩ := bind_some h
   refine aw_meet (ν := Unit) (fun v => [(0, .sl .no 2 (l.map api.Field.av)), (5, .i s123), (6, .sl (.own t160) 2 (((([] : List api.Field) ++ (sub l 0 s123)) ++ [f]).map api.Field.av)), (44, .bool s174)]) (fun v => [(t160, .spare)]) ?_ ?_
   ·have h := s174e
    rcases Bool.eq_false_or_eq_true (decide (s123 < (l.length : Int))) with hb177 | hb177
    ·replace h := ite_t (dec_t hb177) h
     obtain ⟨c178, h⟩ := need_of h
     refine aw_planR (by decide +kernel) [[], [], [], [], [], [], [], [], [], [], [], [(1, 0, false)], [], []] [[], []] [[[(t160, .spare)]], [[(p92, .cells [.str f.Key, .str f.Val])]]] [.i s123, .sl .no 2 (l.map api.Field.av), .i (l.length : Int), .bool (decide (s123 < (l.length : Int))), .bool true, .sl .no 2 (l.map api.Field.av), .i s123, .vptr [.str (ix l s123).Key, .str (ix l s123).Val], .vptr [.str (ix l s123).Key, .str (ix l s123).Val], .str (ix l s123).Key, .ptr p92 0, .str f.Key, .bool (decide ((ix l s123).Key = f.Key)), .bool (decide ((ix l s123).Key = f.Key))] (by decide +kernel) Z Z ?_ ?_
     ·exact ⟨ym Z Z Z, ym Z Z Z, yp Z (pu_lenM Z underlying23 (tm Z)), yp Z (pu_int (v := .bool (decide (s123 < (l.length : Int)))) Z Z (tm Z) (tm Z) Z), AStepG.cast (ym Z Z Z) (congrArg AV.bool hb177), yq Z Z (pu_move Z (tm Z)), yq Z Z (pu_move Z (tm Z)), yq Z Z (pu_indexAddrM Z underlying23 sizeOf54 (tm Z) (tm Z) c178 Z), yq Z Z (fa Z underlying54 Z sizeOf9 Z Z Z), yg Z Z (op_loadV1 Z isAgg9 (tm Z) Z ⟨Z, Z⟩), yq Z Z (fa Z underlying54 Z sizeOf9 Z Z Z), yg Z Z (op_load1 (i := 0) Z isAgg9 (tm Z) Z Z ⟨Z, Z⟩), yq Z Z (pu_str (v := .bool (decide ((ix l s123).Key = f.Key))) Z Z (tm Z) (tm Z) Z), yp Z (pu_pick (b := true) Z (tm Z) (fun _ => (tm Z)) (fun h => nomatch h)), trivial⟩
     obtain rfl := some_of h
     exact ⟨(), Weak.mkL [0] (by decide) ⟨⟨_, Z, Z⟩, trivial⟩ ⟨tm Z, tm Z, tm Z, (AEv.le (tm Z) vr), trivial⟩⟩
    ·replace h := ite_f (dec_f hb177) h
     refine aw_planR (by decide +kernel) [[], [], [], [], [], [], [], [], [], [], [], [], [], []] [[], []] [[[(t160, .spare)]], [[(p92, .cells [.str f.Key, .str f.Val])]]] [.i s123, .sl .no 2 (l.map api.Field.av), .i (l.length : Int), .bool (decide (s123 < (l.length : Int))), .bool false, .lit undef, .lit undef, .lit undef, .lit undef, .lit undef, .lit undef, .lit undef, .lit undef, .bool false] (by decide +kernel) Z Z ?_ ?_
     ·exact ⟨ym Z Z Z, ym Z Z Z, yp Z (pu_lenM Z underlying23 (tm Z)), yp Z (pu_int (v := .bool (decide (s123 < (l.length : Int)))) Z Z (tm Z) (tm Z) Z), AStepG.cast (ym Z Z Z) (congrArg AV.bool hb177), yx Z Z Z, yx Z Z Z, yx Z Z Z, yx Z Z Z, yx Z Z Z, yx Z Z Z, yx Z Z Z, yx Z Z Z, yp Z (pu_pick (b := false) Z (tm Z) (fun h => nomatch h) (fun _ => (AEv.bool _))), trivial⟩
     obtain rfl := some_of h
     exact ⟨(), Weak.mkL [0] (by decide) ⟨⟨_, Z, Z⟩, trivial⟩ ⟨tm Z, tm Z, tm Z, tm Z, trivial⟩⟩
   ·intro _
    have h := h175
    refine aw_cond (b := s174) (tm Z) (fun hb179 => ?_) (fun hb179 => ?_)
    ·replace h := ite_t hb179 h
     refine aw_region (xm Z Z Z (xa (.i (IntKind.wrap .i64 (s123 + 1))) Z (pu_int (v := .i (IntKind.wrap .i64 (s123 + 1))) Z Z (tm Z) (AEv.int _ _) Z) (xm Z Z Z (xe ?_))))
     obtain rfl := some_of h
     exact ⟨(), Weak.mkL [0] (by decide) ⟨⟨_, Z, Z⟩, trivial⟩ ⟨tm Z, (AEv.le (tm Z) vr), tm Z, trivial⟩⟩
    ·replace h := ite_fb hb179 h
     refine aw_skip ?_
     obtain rfl := some_of h
     exact ⟨(), Weak.mkL [0] (by decide) ⟨⟨_, Z, Z⟩, trivial⟩ ⟨tm Z, tm Z, tm Z, trivial⟩⟩
  ·intro _
   have h := h170
   refine xr (xm Z Z Z (xm Z Z Z (xm Z Z Z ?_)))
   obtain ⟨c180, h⟩ := need_of h
   refine xa (.sl .no 2 ((sub l s169 (l.length : Int)).map api.Field.av)) Z (pu_sliceM Z underlying23 sizeOf54 (tm Z) ⟨_, (tm Z)⟩ Z c180) ?_
   obtain ⟨c181, h⟩ := need_of h
   refine xc Z (op_appendOM (q := 0) Z underlying23 underlying23 (.inl Z) typeInfo54 Z Z Z (by decide) (tm Z) Z (given_sl (tm Z)) c181 ?_)
   intro t182
   refine xm Z Z Z (xe (aw_ret ?_))
   obtain rfl := some_of h
   exact ⟨[.sl (.own t182) 2 ((((([] : List api.Field) ++ (sub l 0 s123)) ++ [f]) ++ (sub l s169 (l.length : Int))).map api.Field.av)], _, [(t182, .spare)], ⟨(tm Z), trivial⟩, vr, Weak.mkL [0] (by decide) ⟨⟨_, Z, Z⟩, trivial⟩ trivial, ⟨t182, Z, Z⟩⟩

theorem mewsref19.Hash.ok {l : List api.Field} {r : api.Value} (h : mewsref19.Hash l = some r) : Go.Lift.Spec prog 12 [.sl .no 2 (l.map api.Field.av)] [] (fun v H => v = .agg (api.Value.ct .full .no .full ({ Kind := r.Kind, Text := r.Text, List_ := r.List_, Hash := r.Hash, ZSet := r.ZSet } : api.Value)) ∧ H = []) := by
 unfold mewsref19.Hash at h
 refine Go.Lift.Spec.of_body (rs := [.cell 2 26]) func12 Z Z (nb Z) Z (xr (xc Z (op_alloc (cs := (api.Value.ct .full .full .full ({ Kind := 0, Text := ([] : List UInt8), List_ := ([] : List (List UInt8)), Hash := ([] : List api.Field), ZSet := ([] : List api.Scored) } : api.Value))) (v := .agg (api.Value.ct .full .full .full ({ Kind := 0, Text := ([] : List UInt8), List_ := ([] : List (List UInt8)), Hash := ([] : List api.Field), ZSet := ([] : List api.Scored) } : api.Value))) Z zeroValue26 Z Z Z ?_)))
 intro p50
 refine xe (aw_seq (xr (xm Z Z Z (xa (.i (l.length : Int)) Z (pu_lenM Z underlying23 (tm Z)) (xa (.bool (decide ((l.length : Int) = 0))) Z (pu_int (v := .bool (decide ((l.length : Int) = 0))) Z Z (tm Z) (AEv.int _ _) Z) (xe (aw_cond (b := decide ((l.length : Int) = 0)) (tm Z) (fun hb98 => ?_) (fun hb98 => ?_))))))))
 ·replace h := ite_t (dec_t hb98) h
  refine xr (xa (.agg (api.Value.ct .full .full .full ({ Kind := 0, Text := ([] : List UInt8), List_ := ([] : List (List UInt8)), Hash := ([] : List api.Field), ZSet := ([] : List api.Scored) } : api.Value))) Z (pu_build (zs := [.i 0, .str ([] : List UInt8), .sl .full 1 (([] : List (List UInt8)).map AV.str), .sl .full 2 (([] : List api.Field).map api.Field.av), .sl .full 2 (([] : List api.Scored).map api.Scored.av)]) (szs := [1, 1, 1, 1, 1]) (aparts := []) (cs := [.i 0, .str ([] : List UInt8), .sl .full 1 (([] : List (List UInt8)).map AV.str), .sl .full 2 (([] : List api.Field).map api.Field.av), .sl .full 2 (([] : List api.Scored).map api.Scored.av)]) Z underlying26 zeroValue26 Z ⟨sizeOf3, sizeOf9, sizeOf22, sizeOf23, sizeOf24, trivial⟩ trivial Z) (ac0 Z Z (op_store (i := 0) (cs' := (api.Value.ct .full .full .full ({ Kind := 0, Text := ([] : List UInt8), List_ := ([] : List (List UInt8)), Hash := ([] : List api.Field), ZSet := ([] : List api.Scored) } : api.Value))) Z sizeOf26 (tm Z) (v := .agg (api.Value.ct .full .full .full ({ Kind := 0, Text := ([] : List UInt8), List_ := ([] : List (List UInt8)), Hash := ([] : List api.Field), ZSet := ([] : List api.Scored) } : api.Value))) (tm Z) Z Z Z (nb Z) Z (xe (aw_ret ?_)))))
  obtain rfl := some_of h
  exact ⟨[.agg (api.Value.ct .full .full .full ({ Kind := 0, Text := ([] : List UInt8), List_ := ([] : List (List UInt8)), Hash := ([] : List api.Field), ZSet := ([] : List api.Scored) } : api.Value))], .agg (api.Value.ct .full .no .full ({ Kind := 0, Text := ([] : List UInt8), List_ := ([] : List (List UInt8)), Hash := ([] : List api.Field), ZSet := ([] : List api.Scored) } : api.Value)), [], ⟨(CellOk.agg 0 (tm Z) Z isAgg26 sizeOf26 (nb Z) Z), trivial⟩, (AV.Le.agg ⟨vr, vr, vr, (AV.Le.forget _ _ _), vr, trivial⟩), Weak.mkL [] (by decide) trivial trivial, ⟨Z, Z⟩⟩
 ·replace h := ite_f (dec_f hb98) h
  refine aw_skip (xr (xa (.agg (api.Value.ct .full .full .full ({ Kind := 3, Text := ([] : List UInt8), List_ := ([] : List (List UInt8)), Hash := ([] : List api.Field), ZSet := ([] : List api.Scored) } : api.Value))) Z (pu_build (zs := [.i 0, .str ([] : List UInt8), .sl .full 1 (([] : List (List UInt8)).map AV.str), .sl .full 2 (([] : List api.Field).map api.Field.av), .sl .full 2 (([] : List api.Scored).map api.Scored.av)]) (szs := [1, 1, 1, 1, 1]) (aparts := [(0, .i 3)]) (cs := [.i 3, .str ([] : List UInt8), .sl .full 1 (([] : List (List UInt8)).map AV.str), .sl .full 2 (([] : List api.Field).map api.Field.av), .sl .full 2 (([] : List api.Scored).map api.Scored.av)]) Z underlying26 zeroValue26 Z ⟨sizeOf3, sizeOf9, sizeOf22, sizeOf23, sizeOf24, trivial⟩ ⟨Z, (AEv.int _ _), trivial⟩ Z) (xc Z (op_alloc (cs := (api.Value.ct .full .full .full ({ Kind := 0, Text := ([] : List UInt8), List_ := ([] : List (List UInt8)), Hash := ([] : List api.Field), ZSet := ([] : List api.Scored) } : api.Value))) (v := .agg (api.Value.ct .full .full .full ({ Kind := 0, Text := ([] : List UInt8), List_ := ([] : List (List UInt8)), Hash := ([] : List api.Field), ZSet := ([] : List api.Scored) } : api.Value))) Z zeroValue26 Z Z Z ?_))))
  intro p51
  refine ac0 Z Z (op_store (i := 0) (cs' := (api.Value.ct .full .full .full ({ Kind := 3, Text := ([] : List UInt8), List_ := ([] : List (List UInt8)), Hash := ([] : List api.Field), ZSet := ([] : List api.Scored) } : api.Value))) Z sizeOf26 (tm Z) (v := .agg (api.Value.ct .full .full .full ({ Kind := 3, Text := ([] : List UInt8), List_ := ([] : List (List UInt8)), Hash := ([] : List api.Field), ZSet := ([] : List api.Scored) } : api.Value))) (tm Z) Z Z Z (nb Z) Z (xe ?_))
  obtain ⟨s73, s73e, h75⟩ := bind_some h
  refine aw_meet (ν := Nat) (fun v => [(2, .ptr p50 0), (3, .ptr p51 0)]) (fun v => [(p50, .cells (api.Value.ct .full .full .full ({ Kind := 0, Text := ([] : List UInt8), List_ := ([] : List (List UInt8)), Hash := ([] : List api.Field), ZSet := ([] : List api.Scored) } : api.Value))), (p51, .cells (api.Value.ct .full (.own v) .full ({ Kind := 3, Text := ([] : List UInt8), List_ := ([] : List (List UInt8)), Hash := s73, ZSet := ([] : List api.Scored) } : api.Value))), (v, .spare)]) ?_ ?_
  ·have h := s73e
   refine xr (xa (.i 0) Z (pu_assign Z (AEv.int _ _)) (xe (aw_block (aw_claimCell 0 3 Z Z fun t97 => (aw_while (σ := mewsref19.Hash.S0) (ν := Nat) (mewsref19.Hash.body0 l) (fun s88 v => [(0, .sl .no 2 (l.map api.Field.av)), (2, .ptr p50 0), (3, .ptr p51 0), (4, .i s88.i)]) (fun s88 v => [(p50, .cells (api.Value.ct .full .full .full ({ Kind := 0, Text := ([] : List UInt8), List_ := ([] : List (List UInt8)), Hash := ([] : List api.Field), ZSet := ([] : List api.Scored) } : api.Value))), (p51, .cells (api.Value.ct .full (.own v) .full ({ Kind := 3, Text := ([] : List UInt8), List_ := ([] : List (List UInt8)), Hash := s88.c, ZSet := ([] : List api.Scored) } : api.Value))), (v, .spare)]) ⟨0, ([] : List api.Field)⟩ t97 _ h (Weak.mkL [2, 1, 0] (by decide) ⟨⟨_, Z, cr, Z⟩, ⟨_, Z, cr, Z⟩, ⟨_, Z, Z⟩, trivial⟩ ⟨tm Z, tm Z, tm Z, tm Z, trivial⟩) ?_)))))
   rintro s88 n89 x91 h hx90
   unfold mewsref19.Hash.body0 at h
   refine aw_seq (xr (xm Z Z Z (xm Z Z Z (xa (.i (l.length : Int)) Z (pu_lenM Z underlying23 (tm Z)) (xa (.bool (decide (s88.i < (l.length : Int)))) Z (pu_int (v := .bool (decide (s88.i < (l.length : Int)))) Z Z (tm Z) (tm Z) Z) (xe (aw_cond (b := decide (s88.i < (l.length : Int))) (tm Z) (fun hb96 => ?_) (fun hb96 => ?_))))))))
   ·replace h := ite_t (dec_t hb96) h
    refine aw_skip (aw_seq (aw_block ?_))
    obtain ⟨c93, h⟩ := need_of h
    obtain ⟨r94, r94e, h⟩ := bind_some h
    refine aw_reserve fun p95 => (aw_planR (by decide +kernel) [[], [(2, 0, false)], [], [], [], [], [(0, 0, true)], [], [(2, 0, true)]] [[6], [], [8], []] [[[(p95, .resv)], [(p95, .spare)]], [[(p50, .cells (api.Value.ct .full .full .full ({ Kind := 0, Text := ([] : List UInt8), List_ := ([] : List (List UInt8)), Hash := ([] : List api.Field), ZSet := ([] : List api.Scored) } : api.Value)))]], [[(p51, .cells (api.Value.ct .full (.own n89) .full ({ Kind := 3, Text := ([] : List UInt8), List_ := ([] : List (List UInt8)), Hash := s88.c, ZSet := ([] : List api.Scored) } : api.Value)))], [(p51, .cells (api.Value.ct .full (.own p95) .full ({ Kind := 3, Text := ([] : List UInt8), List_ := ([] : List (List UInt8)), Hash := r94, ZSet := ([] : List api.Scored) } : api.Value)))]], [[(n89, .spare)]]] [.ptr p51 3, .sl (.own n89) 2 (s88.c.map api.Field.av), .sl .no 2 (l.map api.Field.av), .i s88.i, .vptr [.str (ix l s88.i).Key, .str (ix l s88.i).Val], .agg [.str (ix l s88.i).Key, .str (ix l s88.i).Val], .sl (.own p95) 2 (r94.map api.Field.av), .ptr p51 3, .un] (by decide +kernel) Z Z ?_ ?_)
    ·exact ⟨yp Z (fa Z underlying26 Z sizeOf23 Z Z Z), stepg_plain Z (op_load1 (i := 0) Z isAgg23 (tm Z) Z Z ⟨Z, Z⟩), ym Z Z Z, ym Z Z Z, yp Z (pu_indexAddrM Z underlying23 sizeOf54 (tm Z) (tm Z) c93 Z), stepg_plain Z (op_loadVN Z isAgg54 sizeOf54 (tm Z) (nb Z) Z ⟨Z, Z⟩), stepg_plain Z (aop_settleS (op_call (vs := [.sl .no 2 (s88.c.map api.Field.av), .agg [.str (ix l s88.i).Key, .str (ix l s88.i).Val]]) (H := []) (R := [(p95, .resv)]) Z call36 ⟨(AEv.le (tm Z) (AV.Le.forget _ _ _)), (tm Z), trivial⟩ (List.Perm.refl _) (mewsref19.Put.ok r94e) (by rintro _ _ ⟨t, rfl, rfl⟩; exact ⟨t, Z, Z⟩)) ⟨Z, Z⟩), yp Z (fa Z underlying26 Z sizeOf23 Z Z Z), stepg_plain Z (op_store (i := 0) (cs' := (api.Value.ct .full (.own p95) .full ({ Kind := 3, Text := ([] : List UInt8), List_ := ([] : List (List UInt8)), Hash := r94, ZSet := ([] : List api.Scored) } : api.Value))) Z sizeOf23 (tm Z) (v := .sl (.own p95) 2 (r94.map api.Field.av)) (tm Z) Z Z Z (nb Z) Z ⟨Z, Z⟩), trivial⟩
    refine aw_region (xm Z Z Z (xa (.i (IntKind.wrap .i64 (s88.i + 1))) Z (pu_int (v := .i (IntKind.wrap .i64 (s88.i + 1))) Z Z (tm Z) (AEv.int _ _) Z) (xm Z Z Z (xe ?_))))
    obtain rfl := some_of h
    exact ⟨_, p95, Z, Weak.mkL [1, 2, 0] (by decide) ⟨⟨_, Z, cr, Z⟩, ⟨_, Z, cr, Z⟩, ⟨_, Z, Z⟩, trivial⟩ ⟨tm Z, tm Z, tm Z, (AEv.le (tm Z) vr), trivial⟩⟩
   ·replace h := ite_f (dec_f hb96) h
    refine aw_exit ?_
    obtain rfl := some_of h
    have h := congrArg some (hx90 _ rfl)
    obtain rfl := some_of h
    exact ⟨n89, Weak.mkL [0, 1, 2] (by decide) ⟨⟨_, Z, cr, Z⟩, ⟨_, Z, cr, Z⟩, ⟨_, Z, Z⟩, trivial⟩ ⟨tm Z, tm Z, trivial⟩⟩
  ·intro n74
   have h := h75
   refine xr (xc Z (op_loadN (i := 1) Z isAgg26 sizeOf26 (tm Z) Z (nb Z) Z (ac0 Z Z (op_store (i := 0) (cs' := (api.Value.ct .full (.own n74) .full ({ Kind := 3, Text := ([] : List UInt8), List_ := ([] : List (List UInt8)), Hash := s73, ZSet := ([] : List api.Scored) } : api.Value))) Z sizeOf26 (tm Z) (v := .agg (api.Value.ct .full (.own n74) .full ({ Kind := 3, Text := ([] : List UInt8), List_ := ([] : List (List UInt8)), Hash := s73, ZSet := ([] : List api.Scored) } : api.Value))) (tm Z) Z Z Z (nb Z) Z (xe (aw_ret ?_))))))
   obtain rfl := some_of h
   exact ⟨[.agg (api.Value.ct .full (.own n74) .full ({ Kind := 3, Text := ([] : List UInt8), List_ := ([] : List (List UInt8)), Hash := s73, ZSet := ([] : List api.Scored) } : api.Value))], .agg (api.Value.ct .full .no .full ({ Kind := 3, Text := ([] : List UInt8), List_ := ([] : List (List UInt8)), Hash := s73, ZSet := ([] : List api.Scored) } : api.Value)), [], ⟨(CellOk.agg 0 (tm Z) Z isAgg26 sizeOf26 (nb Z) Z), trivial⟩, (AV.Le.agg ⟨vr, vr, vr, (AV.Le.forget _ _ _), vr, trivial⟩), Weak.mkL [] (by decide) trivial trivial, ⟨Z, Z⟩⟩

theorem slices.Clone_api_Scored.ok {s : List api.Scored} {r : List api.Scored} (h : slices.Clone_api_Scored s = some r) : Go.Lift.Spec prog 37 [.sl .no 2 (s.map api.Scored.av)] [] (fun v H => ∃ n0, v = .vec n0 ∧ H = [(n0, .vec 2 (r.map api.Scored.av))]) := by
 unfold slices.Clone_api_Scored at h
 obtain ⟨c, h⟩ := need_of h
 obtain rfl := some_of h
 refine Go.Lift.Spec.of_body (rs := [.tmp 2]) func37 Z Z (nb Z) Z (xr (xa (.sl .full 2 (([] : List api.Scored).map api.Scored.av)) Z (pu_assign Z (AEv.nil 2 (by decide))) (xe (aw_seq (xr (xm Z Z Z (xc Z (op_nilSlice Z underlying24 (tm Z) fun b hb => ?_))))))))
 refine xe (aw_cond (b := b) (tm Z) (fun hb2 => ?_) (fun hb2 => ?_))
 ·have hs : s = [] := List.map_eq_nil_iff.1 (hb hb2)
  subst hs
  refine xr (xa (.sl .full 2 (([] : List api.Scored).map api.Scored.av)) Z (pu_assign Z (AEv.nil 2 (by decide))) (xe (aw_vecNil 2 (tm Z) fun t => (aw_ret ?_))))
  exact ⟨[.vec t], _, [(t, .vec 2 (([] : List api.Scored).map api.Scored.av))], ⟨tm Z, trivial⟩, AV.Le.refl _, Weak.mkL [0] (by decide) ⟨⟨_, Z, Z⟩, trivial⟩ trivial, ⟨t, Z, Z⟩⟩
 ·refine aw_skip (xr (xc Z (op_buildSlice (xs := ([] : List api.Scored).map api.Scored.av) (aparts := []) Z underlying24 sizeOf64 zeroValue64 (by decide) (by decide) trivial Z Z Z (xm Z Z Z (xc Z (op_appendNVM (sz := 2) Z underlying24 underlying24 (.inl Z) typeInfo64 Z Z Z (by decide) (tm Z) (given_sl (tm Z)) c ?_))))))
  intro t
  refine xm Z Z Z (xe (aw_ret ?_))
  exact ⟨[.vec t], _, [(t, .vec 2 ((([] : List api.Scored) ++ s).map api.Scored.av))], ⟨tm Z, trivial⟩, AV.Le.refl _, Weak.mkL [0] (by decide) ⟨⟨_, Z, Z⟩, trivial⟩ trivial, ⟨t, Z, Z⟩⟩

theorem slices.Reverse_api_Scored_v.ok {s_ : List api.Scored} {r : List api.Scored} (h : slices.Reverse_api_Scored_v s_ = some r) (o0 : Nat) : Go.Lift.Spec prog 38 [.vec o0] [(o0, .vec 2 (s_.map api.Scored.av))] (fun v H => v = .tup [] ∧ H = [(o0, .vec 2 (r.map api.Scored.av))]) := by
 unfold slices.Reverse_api_Scored_v at h
 refine Go.Lift.Spec.of_body (rs := []) func38 Z Z (nb Z) Z (aw_upd (xr (xm Z Z Z (xc Z (op_lenVecM (i := 0) Z underlying24 (tm Z) Z (xa (.i (IntKind.wrap .i64 ((s_.length : Int) - 1))) Z (pu_int (v := .i (IntKind.wrap .i64 ((s_.length : Int) - 1))) Z Z (tm Z) (AEv.int _ _) Z) (xa (.i 0) Z (pu_assign Z (AEv.int _ _)) (xm Z Z Z (xe ?_)))))))))
 refine aw_block (aw_while (σ := slices.Reverse_api_Scored_v.S0) (ν := Unit) slices.Reverse_api_Scored_v.body0 (fun s54 v => [(0, .vec o0), (2, .i s54.i), (3, .i s54.j)]) (fun s54 v => [(o0, .vec 2 (s54.v.map api.Scored.av))]) ⟨0, IntKind.wrap .i64 ((s_.length : Int) - 1), s_⟩ () _ h (Weak.mkL [0] (by decide) ⟨⟨_, Z, Z⟩, trivial⟩ ⟨tm Z, tm Z, (AEv.le (tm Z) vr), trivial⟩) ?_)
 rintro s54 _ x56 h hx55
 unfold slices.Reverse_api_Scored_v.body0 at h
 refine aw_seq (xr (xm Z Z Z (xm Z Z Z (xa (.bool (decide (s54.i < s54.j))) Z (pu_int (v := .bool (decide (s54.i < s54.j))) Z Z (tm Z) (tm Z) Z) (xe (aw_cond (b := decide (s54.i < s54.j)) (tm Z) (fun hb66 => ?_) (fun hb66 => ?_)))))))
 ·replace h := ite_t (dec_t hb66) h
  refine aw_skip (aw_seq (aw_block ?_))
  obtain ⟨c58, h⟩ := need_of h
  obtain ⟨c59, h⟩ := need_of h
  obtain ⟨c60, h⟩ := need_of h
  obtain ⟨c61, h⟩ := need_of h
  obtain ⟨c62, h⟩ := need_of h
  obtain ⟨c63, h⟩ := need_of h
  obtain ⟨c64, h⟩ := need_of h
  obtain ⟨c65, h⟩ := need_of h
  refine aw_planR (by decide +kernel) [[], [], [], [], [], [], [(0, 0, false)], [(0, 0, false)], [], [], [(0, 0, false)], [(0, 0, false)], [(0, 0, false)], [(0, 0, true)], [(0, 1, false)], [(0, 1, true)]] [[13, 15]] [[[(o0, .vec 2 (s54.v.map api.Scored.av))], [(o0, .vec 2 ((upd s54.v s54.i (ix s54.v s54.j)).map api.Scored.av))], [(o0, .vec 2 ((upd (upd s54.v s54.i (ix s54.v s54.j)) s54.j (ix s54.v s54.i)).map api.Scored.av))]]] [.vec o0, .i s54.i, .vec o0, .i s54.j, .vec o0, .i s54.j, .eptr o0 (s54.j).toNat 0, .agg [.str (ix s54.v s54.j).Member, .i (ix s54.v s54.j).Score], .vec o0, .i s54.i, .eptr o0 (s54.i).toNat 0, .agg [.str (ix s54.v s54.i).Member, .i (ix s54.v s54.i).Score], .eptr o0 (s54.i).toNat 0, .un, .eptr o0 (s54.j).toNat 0, .un] (by decide +kernel) Z Z ?_ ?_
  ·exact ⟨ym Z Z Z, ym Z Z Z, ym Z Z Z, ym Z Z Z, ym Z Z Z, ym Z Z Z, stepg_plain Z (op_indexAddrVecM Z underlying24 sizeOf64 (tm Z) (j := 0) Z (tm Z) c58 ⟨Z, Z⟩), stepg_plain Z (op_loadENM (i := 0) (sz := 2) Z isAgg64 sizeOf64 (tm Z) Z c59 (by decide) Z ⟨Z, Z⟩), ym Z Z Z, ym Z Z Z, stepg_plain Z (op_indexAddrVecM Z underlying24 sizeOf64 (tm Z) (j := 0) Z (tm Z) c60 ⟨Z, Z⟩), stepg_plain Z (op_loadENM (i := 0) (sz := 2) Z isAgg64 sizeOf64 (tm Z) Z c61 (by decide) Z ⟨Z, Z⟩), stepg_plain Z (op_indexAddrVecM Z underlying24 sizeOf64 (tm Z) (j := 0) Z (tm Z) c62 ⟨Z, Z⟩), stepg_plain Z (op_storeEM (i := 0) (sz := 2) (y' := (ix s54.v s54.j)) Z sizeOf64 (tm Z) (v := .agg [.str (ix s54.v s54.j).Member, .i (ix s54.v s54.j).Score]) (tm Z) Z c63 Z Z (by decide) Z ⟨Z, Z⟩), stepg_plain Z (op_indexAddrVecM Z underlying24 sizeOf64 (tm Z) (j := 0) Z (tm Z) c64 ⟨Z, Z⟩), stepg_plain Z (op_storeEM (i := 0) (sz := 2) (y' := (ix s54.v s54.i)) Z sizeOf64 (tm Z) (v := .agg [.str (ix s54.v s54.i).Member, .i (ix s54.v s54.i).Score]) (tm Z) Z c65 Z Z (by decide) Z ⟨Z, Z⟩), trivial⟩
  refine aw_region (xm Z Z Z (xa (.i (IntKind.wrap .i64 (s54.i + 1))) Z (pu_int (v := .i (IntKind.wrap .i64 (s54.i + 1))) Z Z (tm Z) (AEv.int _ _) Z) (xm Z Z Z (xa (.i (IntKind.wrap .i64 (s54.j - 1))) Z (pu_int (v := .i (IntKind.wrap .i64 (s54.j - 1))) Z Z (tm Z) (AEv.int _ _) Z) (xm Z Z Z (xm Z Z Z (xe ?_)))))))
  obtain rfl := some_of h
  exact ⟨_, (), Z, Weak.mkL [0] (by decide) ⟨⟨_, Z, Z⟩, trivial⟩ ⟨tm Z, (AEv.le (tm Z) vr), (AEv.le (tm Z) vr), trivial⟩⟩
 ·replace h := ite_f (dec_f hb66) h
  refine aw_exit ?_
  obtain rfl := some_of h
  have h := congrArg some (hx55 _ rfl)
  refine upd_done ?_
  obtain rfl := some_of h
  exact ⟨[], _, [(o0, .vec 2 (s54.v.map api.Scored.av))], trivial, vr, Weak.mkL [0] (by decide) ⟨⟨_, Z, Z⟩, trivial⟩ trivial, ⟨Z, Z⟩⟩

theorem charge.ZSet_1.ok {a : api.Scored} {b : api.Scored} {r : Int} (h : charge.ZSet_1 a b = some r) : Go.Lift.Spec prog 40 [.agg [.str a.Member, .i a.Score], .agg [.str b.Member, .i b.Score]] [] (fun v H => v = .i r ∧ H = []) := by
 unfold charge.ZSet_1 at h
 refine Go.Lift.Spec.of_body (rs := [.tmp 4]) func40 Z Z (nb Z) Z (xr (xc Z (op_box (cs := [.str a.Member, .i a.Score]) (v := .agg [.str a.Member, .i a.Score]) Z (tm Z) Z Z ?_)))
 intro p4
 refine xc Z (op_box (cs := [.str b.Member, .i b.Score]) (v := .agg [.str b.Member, .i b.Score]) Z (tm Z) Z Z ?_)
 intro p5
 refine xa (.i 0) Z (pu_assign Z (AEv.int _ _)) (xe (xr (xa (.ptr p4 0) Z (fa Z underlying64 Z sizeOf9 Z Z Z) (xc Z (op_load1 (i := 1) Z isAgg9 (tm Z) Z Z (xa (.ptr p5 0) Z (fa Z underlying64 Z sizeOf9 Z Z Z) (xc Z (op_load1 (i := 0) Z isAgg9 (tm Z) Z Z ?_))))))))
 obtain ⟨r6, r6e, h⟩ := bind_some h
 refine xc Z (op_call (vs := [.str a.Member, .str b.Member]) (H := []) Z call33 ⟨(tm Z), (tm Z), trivial⟩ (List.Perm.refl _) (strings.Compare.ok r6e) ?_)
 rintro _ _ ⟨rfl, rfl⟩
 refine xm Z Z Z (xe (aw_ret ?_))
 obtain rfl := some_of h
 exact ⟨[.i r6], _, [], ⟨(tm Z), trivial⟩, vr, Weak.mkL [] (by decide) trivial trivial, ⟨Z, Z⟩⟩

theorem slices.insertionSortCmpFunc_api_Scored_v_charge_ZSet_1.ok {data : List api.Scored} {a : Int} {b : Int} {r : List api.Scored} (h : slices.insertionSortCmpFunc_api_Scored_v_charge_ZSet_1 data a b = some r) (o0 : Nat) : Go.Lift.Spec prog 78 [.vec o0, .i a, .i b, .fn 40 []] [(o0, .vec 2 (data.map api.Scored.av))] (fun v H => v = .tup [] ∧ H = [(o0, .vec 2 (r.map api.Scored.av))]) := by
 unfold slices.insertionSortCmpFunc_api_Scored_v_charge_ZSet_1 at h
 refine Go.Lift.Spec.of_body (rs := []) func78 Z Z (nb Z) Z (aw_upd (xr (xm Z Z Z (xa (.i (IntKind.wrap .i64 (a + 1))) Z (pu_int (v := .i (IntKind.wrap .i64 (a + 1))) Z Z (tm Z) (AEv.int _ _) Z) (xm Z Z Z (xe (aw_block (aw_while (σ := slices.insertionSortCmpFunc_api_Scored_v_charge_ZSet_1.S0) (ν := Unit) (slices.insertionSortCmpFunc_api_Scored_v_charge_ZSet_1.body0 b a) (fun s809 v => [(0, .vec o0), (1, .i a), (2, .i b), (3, .fn 40 []), (8, .i s809.i)]) (fun s809 v => [(o0, .vec 2 (s809.v.map api.Scored.av))]) ⟨IntKind.wrap .i64 (a + 1), data⟩ () _ h (Weak.mkL [0] (by decide) ⟨⟨_, Z, Z⟩, trivial⟩ ⟨tm Z, tm Z, tm Z, tm Z, (AEv.le (tm Z) vr), trivial⟩) ?_))))))))
 rintro s809 _ x811 h hx810
 unfold slices.insertionSortCmpFunc_api_Scored_v_charge_ZSet_1.body0 at h
 refine aw_seq (xr (xm Z Z Z (xm Z Z Z (xa (.bool (decide (s809.i < b))) Z (pu_int (v := .bool (decide (s809.i < b))) Z Z (tm Z) (tm Z) Z) (xe (aw_cond (b := decide (s809.i < b)) (tm Z) (fun hb972 => ?_) (fun hb972 => ?_)))))))
 ·replace h := ite_t (dec_t hb972) h
  refine aw_skip ?_
  obtain ⟨s891, s891e, h892⟩ := bind_some h
  refine aw_meet (ν := Unit) (fun v => [(0, .vec o0), (1, .i a), (2, .i b), (3, .fn 40 []), (8, .i s809.i)]) (fun v => [(o0, .vec 2 (s891.map api.Scored.av))]) ?_ ?_
  ·have h := s891e
   refine aw_block (xr (xm Z Z Z (xm Z Z Z (xe (aw_block (aw_while (σ := slices.insertionSortCmpFunc_api_Scored_v_charge_ZSet_1.S2) (ν := Unit) (slices.insertionSortCmpFunc_api_Scored_v_charge_ZSet_1.body2 a) (fun s944 v => [(0, .vec o0), (1, .i a), (2, .i b), (3, .fn 40 []), (8, .i s809.i), (9, .i s944.j)]) (fun s944 v => [(o0, .vec 2 (s944.v.map api.Scored.av))]) ⟨s809.i, s809.v⟩ () _ h (Weak.mkL [0] (by decide) ⟨⟨_, Z, Z⟩, trivial⟩ ⟨tm Z, tm Z, tm Z, tm Z, tm Z, tm Z, trivial⟩) ?_))))))
   rintro s944 _ x946 h hx945
   unfold slices.insertionSortCmpFunc_api_Scored_v_charge_ZSet_1.body2 at h
   refine aw_seq ?_
   obtain ⟨s954, s954e, h955⟩ := bind_some h
   refine aw_meet (ν := Unit) (fun v => [(0, .vec o0), (1, .i a), (2, .i b), (3, .fn 40 []), (8, .i s809.i), (9, .i s944.j), (34, .bool s954)]) (fun v => [(o0, .vec 2 (s944.v.map api.Scored.av))]) ?_ ?_
   ·have h := s954e
    rcases Bool.eq_false_or_eq_true (decide (a < s944.j)) with hb957 | hb957
    ·replace h := ite_t (dec_t hb957) h
     obtain ⟨c958, h⟩ := need_of h
     obtain ⟨c959, h⟩ := need_of h
     obtain ⟨c960, h⟩ := need_of h
     obtain ⟨c961, h⟩ := need_of h
     obtain ⟨r962, r962e, h⟩ := bind_some h
     refine aw_planR (by decide +kernel) [[], [], [], [], [], [], [], [(0, 0, false)], [(0, 0, false)], [], [], [], [(0, 0, false)], [(0, 0, false)], [], [], []] [[]] [[[(o0, .vec 2 (s944.v.map api.Scored.av))]]] [.i s944.j, .i a, .bool (decide (a < s944.j)), .bool true, .fn 40 [], .vec o0, .i s944.j, .eptr o0 (s944.j).toNat 0, .agg [.str (ix s944.v s944.j).Member, .i (ix s944.v s944.j).Score], .vec o0, .i s944.j, .i (IntKind.wrap .i64 (s944.j - 1)), .eptr o0 (IntKind.wrap .i64 (s944.j - 1)).toNat 0, .agg [.str (ix s944.v (IntKind.wrap .i64 (s944.j - 1))).Member, .i (ix s944.v (IntKind.wrap .i64 (s944.j - 1))).Score], .i r962, .bool (decide (r962 < 0)), .bool (decide (r962 < 0))] (by decide +kernel) Z Z ?_ ?_
     ·exact ⟨ym Z Z Z, ym Z Z Z, yp Z (pu_int (v := .bool (decide (a < s944.j))) Z Z (tm Z) (tm Z) Z), AStepG.cast (ym Z Z Z) (congrArg AV.bool hb957), yq Z Z (pu_move Z (tm Z)), yq Z Z (pu_move Z (tm Z)), yq Z Z (pu_move Z (tm Z)), yg Z Z (op_indexAddrVecM Z underlying24 sizeOf64 (tm Z) (j := 0) Z (tm Z) c958 ⟨Z, Z⟩), yg Z Z (op_loadENM (i := 0) (sz := 2) Z isAgg64 sizeOf64 (tm Z) Z c959 (by decide) Z ⟨Z, Z⟩), yq Z Z (pu_move Z (tm Z)), yq Z Z (pu_move Z (tm Z)), yq Z Z (pu_int (v := .i (IntKind.wrap .i64 (s944.j - 1))) Z Z (tm Z) (AEv.int _ _) Z), yg Z Z (op_indexAddrVecM Z underlying24 sizeOf64 (tm Z) (j := 0) Z (tm Z) c960 ⟨Z, Z⟩), yg Z Z (op_loadENM (i := 0) (sz := 2) Z isAgg64 sizeOf64 (tm Z) Z c961 (by decide) Z ⟨Z, Z⟩), yg Z Z (op_callV (vs := [.agg [.str (ix s944.v s944.j).Member, .i (ix s944.v s944.j).Score], .agg [.str (ix s944.v (IntKind.wrap .i64 (s944.j - 1))).Member, .i (ix s944.v (IntKind.wrap .i64 (s944.j - 1))).Score]]) (H := []) Z (tm Z) call40 ⟨(tm Z), (tm Z), trivial⟩ (R := []) (List.Perm.refl _) (charge.ZSet_1.ok r962e) (by rintro _ _ ⟨rfl, rfl⟩; exact ⟨Z, Z⟩)), yq Z Z (pu_int (v := .bool (decide (r962 < 0))) Z Z (tm Z) (AEv.int _ _) Z), yp Z (pu_pick (b := true) Z (tm Z) (fun _ => (tm Z)) (fun h => nomatch h)), trivial⟩
     obtain rfl := some_of h
     exact ⟨(), Weak.mkL [0] (by decide) ⟨⟨_, Z, Z⟩, trivial⟩ ⟨tm Z, tm Z, tm Z, tm Z, tm Z, tm Z, (AEv.le (tm Z) vr), trivial⟩⟩
    ·replace h := ite_f (dec_f hb957) h
     refine aw_planR (by decide +kernel) [[], [], [], [], [], [], [], [], [], [], [], [], [], [], [], [], []] [[]] [[[(o0, .vec 2 (s944.v.map api.Scored.av))]]] [.i s944.j, .i a, .bool (decide (a < s944.j)), .bool false, .lit undef, .lit undef, .lit undef, .lit undef, .lit undef, .lit undef, .lit undef, .lit undef, .lit undef, .lit undef, .lit undef, .lit undef, .bool false] (by decide +kernel) Z Z ?_ ?_
     ·exact ⟨ym Z Z Z, ym Z Z Z, yp Z (pu_int (v := .bool (decide (a < s944.j))) Z Z (tm Z) (tm Z) Z), AStepG.cast (ym Z Z Z) (congrArg AV.bool hb957), yx Z Z Z, yx Z Z Z, yx Z Z Z, yx Z Z Z, yx Z Z Z, yx Z Z Z, yx Z Z Z, yx Z Z Z, yx Z Z Z, yx Z Z Z, yx Z Z Z, yx Z Z Z, yp Z (pu_pick (b := false) Z (tm Z) (fun h => nomatch h) (fun _ => (AEv.bool _))), trivial⟩
     obtain rfl := some_of h
     exact ⟨(), Weak.mkL [0] (by decide) ⟨⟨_, Z, Z⟩, trivial⟩ ⟨tm Z, tm Z, tm Z, tm Z, tm Z, tm Z, tm Z, trivial⟩⟩
   ·intro _
    have h := h955
    refine aw_cond (b := s954) (tm Z) (fun hb971 => ?_) (fun hb971 => ?_)
    ·replace h := ite_t hb971 h
     refine aw_skip (aw_seq (aw_block ?_))
     obtain ⟨c963, h⟩ := need_of h
     obtain ⟨c964, h⟩ := need_of h
     obtain ⟨c965, h⟩ := need_of h
     obtain ⟨c966, h⟩ := need_of h
     obtain ⟨c967, h⟩ := need_of h
     obtain ⟨c968, h⟩ := need_of h
     obtain ⟨c969, h⟩ := need_of h
     obtain ⟨c970, h⟩ := need_of h
     refine aw_planR (by decide +kernel) [[], [], [], [], [], [], [], [], [(0, 0, false)], [(0, 0, false)], [], [], [(0, 0, false)], [(0, 0, false)], [(0, 0, false)], [(0, 0, true)], [(0, 1, false)], [(0, 1, true)]] [[15, 17]] [[[(o0, .vec 2 (s944.v.map api.Scored.av))], [(o0, .vec 2 ((upd s944.v s944.j (ix s944.v (IntKind.wrap .i64 (s944.j - 1)))).map api.Scored.av))], [(o0, .vec 2 ((upd (upd s944.v s944.j (ix s944.v (IntKind.wrap .i64 (s944.j - 1)))) (IntKind.wrap .i64 (s944.j - 1)) (ix s944.v s944.j)).map api.Scored.av))]]] [.vec o0, .i s944.j, .vec o0, .i s944.j, .i (IntKind.wrap .i64 (s944.j - 1)), .vec o0, .i s944.j, .i (IntKind.wrap .i64 (s944.j - 1)), .eptr o0 (IntKind.wrap .i64 (s944.j - 1)).toNat 0, .agg [.str (ix s944.v (IntKind.wrap .i64 (s944.j - 1))).Member, .i (ix s944.v (IntKind.wrap .i64 (s944.j - 1))).Score], .vec o0, .i s944.j, .eptr o0 (s944.j).toNat 0, .agg [.str (ix s944.v s944.j).Member, .i (ix s944.v s944.j).Score], .eptr o0 (s944.j).toNat 0, .un, .eptr o0 (IntKind.wrap .i64 (s944.j - 1)).toNat 0, .un] (by decide +kernel) Z Z ?_ ?_
     ·exact ⟨ym Z Z Z, ym Z Z Z, ym Z Z Z, ym Z Z Z, yp Z (pu_int (v := .i (IntKind.wrap .i64 (s944.j - 1))) Z Z (tm Z) (AEv.int _ _) Z), ym Z Z Z, ym Z Z Z, yp Z (pu_int (v := .i (IntKind.wrap .i64 (s944.j - 1))) Z Z (tm Z) (AEv.int _ _) Z), stepg_plain Z (op_indexAddrVecM Z underlying24 sizeOf64 (tm Z) (j := 0) Z (tm Z) c963 ⟨Z, Z⟩), stepg_plain Z (op_loadENM (i := 0) (sz := 2) Z isAgg64 sizeOf64 (tm Z) Z c964 (by decide) Z ⟨Z, Z⟩), ym Z Z Z, ym Z Z Z, stepg_plain Z (op_indexAddrVecM Z underlying24 sizeOf64 (tm Z) (j := 0) Z (tm Z) c965 ⟨Z, Z⟩), stepg_plain Z (op_loadENM (i := 0) (sz := 2) Z isAgg64 sizeOf64 (tm Z) Z c966 (by decide) Z ⟨Z, Z⟩), stepg_plain Z (op_indexAddrVecM Z underlying24 sizeOf64 (tm Z) (j := 0) Z (tm Z) c967 ⟨Z, Z⟩), stepg_plain Z (op_storeEM (i := 0) (sz := 2) (y' := (ix s944.v (IntKind.wrap .i64 (s944.j - 1)))) Z sizeOf64 (tm Z) (v := .agg [.str (ix s944.v (IntKind.wrap .i64 (s944.j - 1))).Member, .i (ix s944.v (IntKind.wrap .i64 (s944.j - 1))).Score]) (tm Z) Z c968 Z Z (by decide) Z ⟨Z, Z⟩), stepg_plain Z (op_indexAddrVecM Z underlying24 sizeOf64 (tm Z) (j := 0) Z (tm Z) c969 ⟨Z, Z⟩), stepg_plain Z (op_storeEM (i := 0) (sz := 2) (y' := (ix s944.v s944.j)) Z sizeOf64 (tm Z) (v := .agg [.str (ix s944.v s944.j).Member, .i (ix s944.v s944.j).Score]) (tm Z) Z c970 Z Z (by decide) Z ⟨Z, Z⟩), trivial⟩
     refine aw_region (xm Z Z Z (xa (.i (IntKind.wrap .i64 (s944.j - 1))) Z (pu_int (v := .i (IntKind.wrap .i64 (s944.j - 1))) Z Z (tm Z) (AEv.int _ _) Z) (xm Z Z Z (xe ?_))))
     obtain rfl := some_of h
     exact ⟨_, (), Z, Weak.mkL [0] (by decide) ⟨⟨_, Z, Z⟩, trivial⟩ ⟨tm Z, tm Z, tm Z, tm Z, tm Z, (AEv.le (tm Z) vr), trivial⟩⟩
    ·replace h := ite_fb hb971 h
     refine aw_exit ?_
     obtain rfl := some_of h
     have h := congrArg some (hx945 _ rfl)
     obtain rfl := some_of h
     exact ⟨(), Weak.mkL [0] (by decide) ⟨⟨_, Z, Z⟩, trivial⟩ ⟨tm Z, tm Z, tm Z, tm Z, tm Z, trivial⟩⟩
  ·intro _
   have h := h892
   refine aw_region (xm Z Z Z (xa (.i (IntKind.wrap .i64 (s809.i + 1))) Z (pu_int (v := .i (IntKind.wrap .i64 (s809.i + 1))) Z Z (tm Z) (AEv.int _ _) Z) (xm Z Z Z (xe ?_))))
   obtain rfl := some_of h
   exact ⟨_, (), Z, Weak.mkL [0] (by decide) ⟨⟨_, Z, Z⟩, trivial⟩ ⟨tm Z, tm Z, tm Z, tm Z, (AEv.le (tm Z) vr), trivial⟩⟩
 ·replace h := ite_f (dec_f hb972) h
  refine aw_exit ?_
  obtain rfl := some_of h
  have h := congrArg some (hx810 _ rfl)
  refine upd_done ?_
  obtain rfl := some_of h
  exact ⟨[], _, [(o0, .vec 2 (s809.v.map api.Scored.av))], trivial, vr, Weak.mkL [0] (by decide) ⟨⟨_, Z, Z⟩, trivial⟩ trivial, ⟨Z, Z⟩⟩

theorem slices.swapRangeCmpFunc_api_Scored_v_charge_ZSet_1.ok {data : List api.Scored} {a : Int} {b : Int} {n_ : Int} {r : List api.Scored} (h : slices.swapRangeCmpFunc_api_Scored_v_charge_ZSet_1 data a b n_ = some r) (o0 : Nat) : Go.Lift.Spec prog 103 [.vec o0, .i a, .i b, .i n_, .fn 40 []] [(o0, .vec 2 (data.map api.Scored.av))] (fun v H => v = .tup [] ∧ H = [(o0, .vec 2 (r.map api.Scored.av))]) := by
 unfold slices.swapRangeCmpFunc_api_Scored_v_charge_ZSet_1 at h
 refine Go.Lift.Spec.of_body (rs := []) func103 Z Z (nb Z) Z (aw_upd (xr (xa (.i 0) Z (pu_assign Z (AEv.int _ _)) (xe (aw_block (aw_while (σ := slices.swapRangeCmpFunc_api_Scored_v_charge_ZSet_1.S0) (ν := Unit) (slices.swapRangeCmpFunc_api_Scored_v_charge_ZSet_1.body0 n_ b a) (fun s54 v => [(0, .vec o0), (1, .i a), (2, .i b), (3, .i n_), (10, .i s54.i)]) (fun s54 v => [(o0, .vec 2 (s54.v.map api.Scored.av))]) ⟨0, data⟩ () _ h (Weak.mkL [0] (by decide) ⟨⟨_, Z, Z⟩, trivial⟩ ⟨tm Z, tm Z, tm Z, tm Z, tm Z, trivial⟩) ?_))))))
 rintro s54 _ x56 h hx55
 unfold slices.swapRangeCmpFunc_api_Scored_v_charge_ZSet_1.body0 at h
 refine aw_seq (xr (xm Z Z Z (xm Z Z Z (xa (.bool (decide (s54.i < n_))) Z (pu_int (v := .bool (decide (s54.i < n_))) Z Z (tm Z) (tm Z) Z) (xe (aw_cond (b := decide (s54.i < n_)) (tm Z) (fun hb66 => ?_) (fun hb66 => ?_)))))))
 ·replace h := ite_t (dec_t hb66) h
  refine aw_skip (aw_seq (aw_block ?_))
  obtain ⟨c58, h⟩ := need_of h
  obtain ⟨c59, h⟩ := need_of h
  obtain ⟨c60, h⟩ := need_of h
  obtain ⟨c61, h⟩ := need_of h
  obtain ⟨c62, h⟩ := need_of h
  obtain ⟨c63, h⟩ := need_of h
  obtain ⟨c64, h⟩ := need_of h
  obtain ⟨c65, h⟩ := need_of h
  refine aw_planR (by decide +kernel) [[], [], [], [], [], [], [], [], [], [], [], [], [(0, 0, false)], [(0, 0, false)], [], [], [], [], [(0, 0, false)], [(0, 0, false)], [(0, 0, false)], [(0, 0, true)], [(0, 1, false)], [(0, 1, true)]] [[21, 23]] [[[(o0, .vec 2 (s54.v.map api.Scored.av))], [(o0, .vec 2 ((upd s54.v (IntKind.wrap .i64 (a + s54.i)) (ix s54.v (IntKind.wrap .i64 (b + s54.i)))).map api.Scored.av))], [(o0, .vec 2 ((upd (upd s54.v (IntKind.wrap .i64 (a + s54.i)) (ix s54.v (IntKind.wrap .i64 (b + s54.i)))) (IntKind.wrap .i64 (b + s54.i)) (ix s54.v (IntKind.wrap .i64 (a + s54.i)))).map api.Scored.av))]]] [.vec o0, .i a, .i s54.i, .i (IntKind.wrap .i64 (a + s54.i)), .vec o0, .i b, .i s54.i, .i (IntKind.wrap .i64 (b + s54.i)), .vec o0, .i b, .i s54.i, .i (IntKind.wrap .i64 (b + s54.i)), .eptr o0 (IntKind.wrap .i64 (b + s54.i)).toNat 0, .agg [.str (ix s54.v (IntKind.wrap .i64 (b + s54.i))).Member, .i (ix s54.v (IntKind.wrap .i64 (b + s54.i))).Score], .vec o0, .i a, .i s54.i, .i (IntKind.wrap .i64 (a + s54.i)), .eptr o0 (IntKind.wrap .i64 (a + s54.i)).toNat 0, .agg [.str (ix s54.v (IntKind.wrap .i64 (a + s54.i))).Member, .i (ix s54.v (IntKind.wrap .i64 (a + s54.i))).Score], .eptr o0 (IntKind.wrap .i64 (a + s54.i)).toNat 0, .un, .eptr o0 (IntKind.wrap .i64 (b + s54.i)).toNat 0, .un] (by decide +kernel) Z Z ?_ ?_
  ·exact ⟨ym Z Z Z, ym Z Z Z, ym Z Z Z, yp Z (pu_int (v := .i (IntKind.wrap .i64 (a + s54.i))) Z Z (tm Z) (tm Z) Z), ym Z Z Z, ym Z Z Z, ym Z Z Z, yp Z (pu_int (v := .i (IntKind.wrap .i64 (b + s54.i))) Z Z (tm Z) (tm Z) Z), ym Z Z Z, ym Z Z Z, ym Z Z Z, yp Z (pu_int (v := .i (IntKind.wrap .i64 (b + s54.i))) Z Z (tm Z) (tm Z) Z), stepg_plain Z (op_indexAddrVecM Z underlying24 sizeOf64 (tm Z) (j := 0) Z (tm Z) c58 ⟨Z, Z⟩), stepg_plain Z (op_loadENM (i := 0) (sz := 2) Z isAgg64 sizeOf64 (tm Z) Z c59 (by decide) Z ⟨Z, Z⟩), ym Z Z Z, ym Z Z Z, ym Z Z Z, yp Z (pu_int (v := .i (IntKind.wrap .i64 (a + s54.i))) Z Z (tm Z) (tm Z) Z), stepg_plain Z (op_indexAddrVecM Z underlying24 sizeOf64 (tm Z) (j := 0) Z (tm Z) c60 ⟨Z, Z⟩), stepg_plain Z (op_loadENM (i := 0) (sz := 2) Z isAgg64 sizeOf64 (tm Z) Z c61 (by decide) Z ⟨Z, Z⟩), stepg_plain Z (op_indexAddrVecM Z underlying24 sizeOf64 (tm Z) (j := 0) Z (tm Z) c62 ⟨Z, Z⟩), stepg_plain Z (op_storeEM (i := 0) (sz := 2) (y' := (ix s54.v (IntKind.wrap .i64 (b + s54.i)))) Z sizeOf64 (tm Z) (v := .agg [.str (ix s54.v (IntKind.wrap .i64 (b + s54.i))).Member, .i (ix s54.v (IntKind.wrap .i64 (b + s54.i))).Score]) (tm Z) Z c63 Z Z (by decide) Z ⟨Z, Z⟩), stepg_plain Z (op_indexAddrVecM Z underlying24 sizeOf64 (tm Z) (j := 0) Z (tm Z) c64 ⟨Z, Z⟩), stepg_plain Z (op_storeEM (i := 0) (sz := 2) (y' := (ix s54.v (IntKind.wrap .i64 (a + s54.i)))) Z sizeOf64 (tm Z) (v := .agg [.str (ix s54.v (IntKind.wrap .i64 (a + s54.i))).Member, .i (ix s54.v (IntKind.wrap .i64 (a + s54.i))).Score]) (tm Z) Z c65 Z Z (by decide) Z ⟨Z, Z⟩), trivial⟩
  refine aw_region (xm Z Z Z (xa (.i (IntKind.wrap .i64 (s54.i + 1))) Z (pu_int (v := .i (IntKind.wrap .i64 (s54.i + 1))) Z Z (tm Z) (AEv.int _ _) Z) (xm Z Z Z (xe ?_))))
  obtain rfl := some_of h
  exact ⟨_, (), Z, Weak.mkL [0] (by decide) ⟨⟨_, Z, Z⟩, trivial⟩ ⟨tm Z, tm Z, tm Z, tm Z, (AEv.le (tm Z) vr), trivial⟩⟩
 ·replace h := ite_f (dec_f hb66) h
  refine aw_exit ?_
  obtain rfl := some_of h
  have h := congrArg some (hx55 _ rfl)
  refine upd_done ?_
  obtain rfl := some_of h
  exact ⟨[], _, [(o0, .vec 2 (s54.v.map api.Scored.av))], trivial, vr, Weak.mkL [0] (by decide) ⟨⟨_, Z, Z⟩, trivial⟩ trivial, ⟨Z, Z⟩⟩

theorem slices.rotateCmpFunc_api_Scored_v_charge_ZSet_1.ok {data : List api.Scored} {a : Int} {m : Int} {b : Int} {r : List api.Scored} (h : slices.rotateCmpFunc_api_Scored_v_charge_ZSet_1 data a m b = some r) (o0 : Nat) : Go.Lift.Spec prog 96 [.vec o0, .i a, .i m, .i b, .fn 40 []] [(o0, .vec 2 (data.map api.Scored.av))] (fun v H => v = .tup [] ∧ H = [(o0, .vec 2 (r.map api.Scored.av))]) := by
 unfold slices.rotateCmpFunc_api_Scored_v_charge_ZSet_1 at h
 refine Go.Lift.Spec.of_body (rs := []) func96 Z Z (nb Z) Z (aw_upd (xr (xm Z Z Z (xm Z Z Z (xa (.i (IntKind.wrap .i64 (m - a))) Z (pu_int (v := .i (IntKind.wrap .i64 (m - a))) Z Z (tm Z) (tm Z) Z) (xm Z Z Z (xe (aw_seq ?_))))))))
 refine aw_region (xm Z Z Z (xm Z Z Z (xa (.i (IntKind.wrap .i64 (b - m))) Z (pu_int (v := .i (IntKind.wrap .i64 (b - m))) Z Z (tm Z) (tm Z) Z) (xm Z Z Z (xe ?_)))))
 obtain ⟨s62, s62e, h63⟩ := bind_some h
 refine aw_meet (ν := Unit) (fun v => [(0, .vec o0), (2, .i m), (4, .fn 40 []), (10, .i s62.1)]) (fun v => [(o0, .vec 2 (s62.2.map api.Scored.av))]) ?_ ?_
 ·have h := s62e
  refine aw_block (aw_while (σ := slices.rotateCmpFunc_api_Scored_v_charge_ZSet_1.S0) (ν := Unit) (slices.rotateCmpFunc_api_Scored_v_charge_ZSet_1.body0 m) (fun s76 v => [(0, .vec o0), (2, .i m), (4, .fn 40 []), (10, .i s76.i), (11, .i s76.j)]) (fun s76 v => [(o0, .vec 2 (s76.v.map api.Scored.av))]) ⟨IntKind.wrap .i64 (m - a), IntKind.wrap .i64 (b - m), data⟩ () _ h (Weak.mkL [0] (by decide) ⟨⟨_, Z, Z⟩, trivial⟩ ⟨tm Z, tm Z, tm Z, (AEv.le (tm Z) vr), (AEv.le (tm Z) vr), trivial⟩) ?_)
  rintro s76 _ x78 h hx77
  unfold slices.rotateCmpFunc_api_Scored_v_charge_ZSet_1.body0 at h
  refine aw_seq (xr (xm Z Z Z (xm Z Z Z (xa (.bool (!decide (s76.i = s76.j))) Z (pu_int (v := .bool (!decide (s76.i = s76.j))) Z Z (tm Z) (tm Z) Z) (xe (aw_cond (b := (!decide (s76.i = s76.j))) (tm Z) (fun hb83 => ?_) (fun hb83 => ?_)))))))
  ·replace h := ite_f (ndec_t hb83) h
   refine aw_skip (aw_block (xr (xm Z Z Z (xm Z Z Z (xa (.bool (decide (s76.j < s76.i))) Z (pu_int (v := .bool (decide (s76.j < s76.i))) Z Z (tm Z) (tm Z) Z) (xe (aw_cond (b := decide (s76.j < s76.i)) (tm Z) (fun hb82 => ?_) (fun hb82 => ?_))))))))
   ·replace h := ite_t (dec_t hb82) h
    refine xr (xm Z Z Z (xm Z Z Z (xm Z Z Z (xa (.i (IntKind.wrap .i64 (m - s76.i))) Z (pu_int (v := .i (IntKind.wrap .i64 (m - s76.i))) Z Z (tm Z) (tm Z) Z) (xm Z Z Z (xm Z Z Z (xm Z Z Z ?_)))))))
    obtain ⟨r80, r80e, h⟩ := bind_some h
    refine xc Z (op_call (vs := [.vec o0, .i (IntKind.wrap .i64 (m - s76.i)), .i m, .i s76.j, .fn 40 []]) (H := [(o0, .vec 2 (s76.v.map api.Scored.av))]) Z call103 ⟨(tm Z), (tm Z), (tm Z), (tm Z), (tm Z), trivial⟩ (List.Perm.refl _) (slices.swapRangeCmpFunc_api_Scored_v_charge_ZSet_1.ok r80e o0) ?_)
    rintro _ _ ⟨rfl, rfl⟩
    refine xe (aw_region (xm Z Z Z (xm Z Z Z (xa (.i (IntKind.wrap .i64 (s76.i - s76.j))) Z (pu_int (v := .i (IntKind.wrap .i64 (s76.i - s76.j))) Z Z (tm Z) (tm Z) Z) (xm Z Z Z (xe ?_))))))
    obtain rfl := some_of h
    exact ⟨_, (), Z, Weak.mkL [0] (by decide) ⟨⟨_, Z, Z⟩, trivial⟩ ⟨tm Z, tm Z, tm Z, (AEv.le (tm Z) vr), tm Z, trivial⟩⟩
   ·replace h := ite_f (dec_f hb82) h
    refine xr (xm Z Z Z (xm Z Z Z (xm Z Z Z (xa (.i (IntKind.wrap .i64 (m - s76.i))) Z (pu_int (v := .i (IntKind.wrap .i64 (m - s76.i))) Z Z (tm Z) (tm Z) Z) (xm Z Z Z (xm Z Z Z (xa (.i (IntKind.wrap .i64 (m + s76.j))) Z (pu_int (v := .i (IntKind.wrap .i64 (m + s76.j))) Z Z (tm Z) (tm Z) Z) (xm Z Z Z ?_))))))))
    refine xa (.i (IntKind.wrap .i64 ((IntKind.wrap .i64 (m + s76.j)) - s76.i))) Z (pu_int (v := .i (IntKind.wrap .i64 ((IntKind.wrap .i64 (m + s76.j)) - s76.i))) Z Z (tm Z) (tm Z) Z) (xm Z Z Z (xm Z Z Z ?_))
    obtain ⟨r81, r81e, h⟩ := bind_some h
    refine xc Z (op_call (vs := [.vec o0, .i (IntKind.wrap .i64 (m - s76.i)), .i (IntKind.wrap .i64 ((IntKind.wrap .i64 (m + s76.j)) - s76.i)), .i s76.i, .fn 40 []]) (H := [(o0, .vec 2 (s76.v.map api.Scored.av))]) Z call103 ⟨(tm Z), (tm Z), (tm Z), (tm Z), (tm Z), trivial⟩ (List.Perm.refl _) (slices.swapRangeCmpFunc_api_Scored_v_charge_ZSet_1.ok r81e o0) ?_)
    rintro _ _ ⟨rfl, rfl⟩
    refine xe (aw_region (xm Z Z Z (xm Z Z Z (xa (.i (IntKind.wrap .i64 (s76.j - s76.i))) Z (pu_int (v := .i (IntKind.wrap .i64 (s76.j - s76.i))) Z Z (tm Z) (tm Z) Z) (xm Z Z Z (xe ?_))))))
    obtain rfl := some_of h
    exact ⟨_, (), Z, Weak.mkL [0] (by decide) ⟨⟨_, Z, Z⟩, trivial⟩ ⟨tm Z, tm Z, tm Z, tm Z, (AEv.le (tm Z) vr), trivial⟩⟩
  ·replace h := ite_t (ndec_f hb83) h
   refine aw_exit ?_
   obtain rfl := some_of h
   have h := congrArg some (hx77 _ rfl)
   obtain rfl := some_of h
   exact ⟨(), Weak.mkL [0] (by decide) ⟨⟨_, Z, Z⟩, trivial⟩ ⟨tm Z, tm Z, tm Z, tm Z, trivial⟩⟩
 ·intro _
  have h := h63
  refine aw_region (xm Z Z Z (xm Z Z Z (xm Z Z Z (xa (.i (IntKind.wrap .i64 (m - s62.1))) Z (pu_int (v := .i (IntKind.wrap .i64 (m - s62.1))) Z Z (tm Z) (tm Z) Z) (xm Z Z Z (xm Z Z Z (xm Z Z Z ?_)))))))
  obtain ⟨r84, r84e, h⟩ := bind_some h
  refine xc Z (op_call (vs := [.vec o0, .i (IntKind.wrap .i64 (m - s62.1)), .i m, .i s62.1, .fn 40 []]) (H := [(o0, .vec 2 (s62.2.map api.Scored.av))]) Z call103 ⟨(tm Z), (tm Z), (tm Z), (tm Z), (tm Z), trivial⟩ (List.Perm.refl _) (slices.swapRangeCmpFunc_api_Scored_v_charge_ZSet_1.ok r84e o0) ?_)
  rintro _ _ ⟨rfl, rfl⟩
  refine xe (upd_done ?_)
  obtain rfl := some_of h
  exact ⟨[], _, [(o0, .vec 2 (r84.map api.Scored.av))], trivial, vr, Weak.mkL [0] (by decide) ⟨⟨_, Z, Z⟩, trivial⟩ trivial, ⟨Z, Z⟩⟩

end Go.Pu
