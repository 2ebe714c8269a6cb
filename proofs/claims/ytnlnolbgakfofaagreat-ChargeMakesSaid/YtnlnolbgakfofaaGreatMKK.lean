/- Printed by lift.py: the functions come to them. -/
import Derived.Test.YtnlnolbgakfofaaGreatLiftW
import Derived.Test.YtnlnolbgakfofaaGreatMKK2
set_option maxRecDepth 100000
set_option maxHeartbeats 0
namespace Go.Pu
open Go.Lift Go.Proofs.Tryz Go.RowKit Go.Proofs

theorem slices.symMergeCmpFunc_api_Scored_v_charge_ZSet_1.rec.ok (kk : Nat) : ∀ {data : List api.Scored} {a : Int} {m : Int} {b : Int} {r : List api.Scored} (h : slices.symMergeCmpFunc_api_Scored_v_charge_ZSet_1.rec kk data a m b = some r) (o0 : Nat), Go.Lift.Spec prog 79 [.vec o0, .i a, .i m, .i b, .fn 40 []] [(o0, .vec 2 (data.map api.Scored.av))] (fun v H => v = .tup [] ∧ H = [(o0, .vec 2 (r.map api.Scored.av))]) := by
 induction kk with
 | zero => intro data a m b r h o0; exact nomatch h
 | succ kk ih =>
  intro data a m b r h o0
  rw [slices.symMergeCmpFunc_api_Scored_v_charge_ZSet_1.rec.eq_2] at h
  refine Go.Lift.Spec.of_body (rs := []) func79 Z Z (nb Z) Z (aw_upd (aw_seq (xr (xm Z Z Z (xm Z Z Z (xa (.i (IntKind.wrap .i64 (m - a))) Z (pu_int (v := .i (IntKind.wrap .i64 (m - a))) Z Z (tm Z) (tm Z) Z) (xa (.bool (decide ((IntKind.wrap .i64 (m - a)) = 1))) Z (pu_int (v := .bool (decide ((IntKind.wrap .i64 (m - a)) = 1))) Z Z (tm Z) (AEv.int _ _) Z) (xe ?_))))))))
  refine aw_cond (b := decide ((IntKind.wrap .i64 (m - a)) = 1)) (tm Z) (fun hb764 => ?_) (fun hb764 => ?_)
  ·replace h := ite_t (dec_t hb764) h
   refine xr (xm Z Z Z (xm Z Z Z (xe (xr (xm Z Z Z (xm Z Z Z (xe ?_)))))))
   obtain ⟨s413, s413e, h414⟩ := bind_some h
   refine aw_meet (ν := Unit) (fun v => [(0, .vec o0), (1, .i a), (10, .i s413)]) (fun v => [(o0, .vec 2 (data.map api.Scored.av))]) ?_ ?_
   ·have h := s413e
    refine aw_block (aw_while (σ := slices.symMergeCmpFunc_api_Scored_v_charge_ZSet_1.S0) (ν := Unit) (slices.symMergeCmpFunc_api_Scored_v_charge_ZSet_1.body0 data a) (fun s434 v => [(0, .vec o0), (1, .i a), (4, .fn 40 []), (10, .i s434.i), (11, .i s434.j)]) (fun s434 v => [(o0, .vec 2 (data.map api.Scored.av))]) ⟨m, b⟩ () _ h (Weak.mkL [0] (by decide) ⟨⟨_, Z, Z⟩, trivial⟩ ⟨tm Z, tm Z, tm Z, tm Z, tm Z, trivial⟩) ?_)
    rintro s434 _ x436 h hx435
    unfold slices.symMergeCmpFunc_api_Scored_v_charge_ZSet_1.body0 at h
    refine aw_seq (xr (xm Z Z Z (xm Z Z Z (xa (.bool (decide (s434.i < s434.j))) Z (pu_int (v := .bool (decide (s434.i < s434.j))) Z Z (tm Z) (tm Z) Z) (xe (aw_cond (b := decide (s434.i < s434.j)) (tm Z) (fun hb445 => ?_) (fun hb445 => ?_)))))))
    ·replace h := ite_t (dec_t hb445) h
     refine aw_skip (aw_block (xr (xm Z Z Z (xm Z Z Z (xa (.i (IntKind.wrap .i64 (s434.i + s434.j))) Z (pu_int (v := .i (IntKind.wrap .i64 (s434.i + s434.j))) Z Z (tm Z) (tm Z) Z) (xa (.int .u64 (IntKind.wrap .u64 (IntKind.wrap .i64 (s434.i + s434.j)))) Z (pu_conv Z underlying3 underlying78 (tm Z)) (xa (.int .u64 ((IntKind.wrap .u64 (IntKind.wrap .i64 (s434.i + s434.j))) / 2 ^ min (Int.toNat 1) (IntKind.bits .u64))) Z (pu_shr Z (tm Z) (AEv.int _ _) (by decide)) (xa (.i (IntKind.wrap .i64 ((IntKind.wrap .u64 (IntKind.wrap .i64 (s434.i + s434.j))) / 2 ^ min (Int.toNat 1) (IntKind.bits .u64)))) Z (pu_conv Z underlying78 underlying3 (tm Z)) ?_))))))))
     refine xm Z Z Z (xe (aw_seq ?_))
     obtain ⟨c438, h⟩ := need_of h
     obtain ⟨c439, h⟩ := need_of h
     obtain ⟨c440, h⟩ := need_of h
     obtain ⟨c441, h⟩ := need_of h
     obtain ⟨r442, r442e, h⟩ := bind_some h
     refine aw_planR (by decide +kernel) [[], [], [], [(0, 0, false)], [(0, 0, false)], [], [], [(0, 0, false)], [(0, 0, false)], [], []] [[]] [[[(o0, .vec 2 (data.map api.Scored.av))]]] [.fn 40 [], .vec o0, .i (IntKind.wrap .i64 ((IntKind.wrap .u64 (IntKind.wrap .i64 (s434.i + s434.j))) / 2 ^ min (Int.toNat 1) (IntKind.bits .u64))), .eptr o0 (IntKind.wrap .i64 ((IntKind.wrap .u64 (IntKind.wrap .i64 (s434.i + s434.j))) / 2 ^ min (Int.toNat 1) (IntKind.bits .u64))).toNat 0, .agg [.str (ix data (IntKind.wrap .i64 ((IntKind.wrap .u64 (IntKind.wrap .i64 (s434.i + s434.j))) / 2 ^ min (Int.toNat 1) (IntKind.bits .u64)))).Member, .i (ix data (IntKind.wrap .i64 ((IntKind.wrap .u64 (IntKind.wrap .i64 (s434.i + s434.j))) / 2 ^ min (Int.toNat 1) (IntKind.bits .u64)))).Score], .vec o0, .i a, .eptr o0 (a).toNat 0, .agg [.str (ix data a).Member, .i (ix data a).Score], .i r442, .bool (decide (r442 < 0))] (by decide +kernel) Z Z ?_ ?_
     ·exact ⟨ym Z Z Z, ym Z Z Z, ym Z Z Z, stepg_plain Z (op_indexAddrVecM Z underlying24 sizeOf64 (tm Z) (j := 0) Z (tm Z) c438 ⟨Z, Z⟩), stepg_plain Z (op_loadENM (i := 0) (sz := 2) Z isAgg64 sizeOf64 (tm Z) Z c439 (by decide) Z ⟨Z, Z⟩), ym Z Z Z, ym Z Z Z, stepg_plain Z (op_indexAddrVecM Z underlying24 sizeOf64 (tm Z) (j := 0) Z (tm Z) c440 ⟨Z, Z⟩), stepg_plain Z (op_loadENM (i := 0) (sz := 2) Z isAgg64 sizeOf64 (tm Z) Z c441 (by decide) Z ⟨Z, Z⟩), stepg_plain Z (op_callV (vs := [.agg [.str (ix data (IntKind.wrap .i64 ((IntKind.wrap .u64 (IntKind.wrap .i64 (s434.i + s434.j))) / 2 ^ min (Int.toNat 1) (IntKind.bits .u64)))).Member, .i (ix data (IntKind.wrap .i64 ((IntKind.wrap .u64 (IntKind.wrap .i64 (s434.i + s434.j))) / 2 ^ min (Int.toNat 1) (IntKind.bits .u64)))).Score], .agg [.str (ix data a).Member, .i (ix data a).Score]]) (H := []) Z (tm Z) call40 ⟨(tm Z), (tm Z), trivial⟩ (R := []) (List.Perm.refl _) (charge.ZSet_1.ok r442e) (by rintro _ _ ⟨rfl, rfl⟩; exact ⟨Z, Z⟩)), yp Z (pu_int (v := .bool (decide (r442 < 0))) Z Z (tm Z) (AEv.int _ _) Z), trivial⟩
     refine aw_cond (b := decide (r442 < 0)) (tm Z) (fun hb444 => ?_) (fun hb444 => ?_)
     ·replace h := ite_t (dec_t hb444) h
      refine aw_region (xm Z Z Z ?_)
      obtain ⟨x443, x443e, h⟩ := letO_of h
      refine xa (.i x443) Z (APure.eq (pu_int (v := .i (IntKind.wrap .i64 ((IntKind.wrap .i64 ((IntKind.wrap .u64 (IntKind.wrap .i64 (s434.i + s434.j))) / 2 ^ min (Int.toNat 1) (IntKind.bits .u64))) + 1))) Z Z (tm Z) (AEv.int _ _) Z) (congrArg (AV.int .i64) x443e.symm)) (xm Z Z Z (xe ?_))
      obtain rfl := some_of h
      exact ⟨_, (), Z, Weak.mkL [0] (by decide) ⟨⟨_, Z, Z⟩, trivial⟩ ⟨tm Z, tm Z, tm Z, tm Z, tm Z, trivial⟩⟩
     ·replace h := ite_f (dec_f hb444) h
      refine aw_region (xm Z Z Z (xm Z Z Z (xe ?_)))
      obtain rfl := some_of h
      exact ⟨_, (), Z, Weak.mkL [0] (by decide) ⟨⟨_, Z, Z⟩, trivial⟩ ⟨tm Z, tm Z, tm Z, tm Z, (AEv.le (tm Z) vr), trivial⟩⟩
    ·replace h := ite_f (dec_f hb445) h
     refine aw_exit ?_
     obtain rfl := some_of h
     have h := congrArg some (hx435 _ rfl)
     obtain rfl := some_of h
     exact ⟨(), Weak.mkL [0] (by decide) ⟨⟨_, Z, Z⟩, trivial⟩ ⟨tm Z, tm Z, tm Z, trivial⟩⟩
   ·intro _
    have h := h414
    obtain ⟨s479, s479e, h480⟩ := bind_some h
    refine aw_meet (ν := Unit) (fun v => []) (fun v => [(o0, .vec 2 (s479.map api.Scored.av))]) ?_ ?_
    ·have h := s479e
     refine xr (xm Z Z Z (xm Z Z Z (xe (aw_block (aw_while (σ := slices.symMergeCmpFunc_api_Scored_v_charge_ZSet_1.S2) (ν := Unit) (slices.symMergeCmpFunc_api_Scored_v_charge_ZSet_1.body2 s413) (fun s502 v => [(0, .vec o0), (10, .i s413), (13, .i s502.k)]) (fun s502 v => [(o0, .vec 2 (s502.v.map api.Scored.av))]) ⟨a, data⟩ () _ h (Weak.mkL [0] (by decide) ⟨⟨_, Z, Z⟩, trivial⟩ ⟨tm Z, tm Z, tm Z, trivial⟩) ?_)))))
     rintro s502 _ x504 h hx503
     unfold slices.symMergeCmpFunc_api_Scored_v_charge_ZSet_1.body2 at h
     refine aw_seq (xr (xm Z Z Z (xm Z Z Z (xa (.i (IntKind.wrap .i64 (s413 - 1))) Z (pu_int (v := .i (IntKind.wrap .i64 (s413 - 1))) Z Z (tm Z) (AEv.int _ _) Z) (xa (.bool (decide (s502.k < (IntKind.wrap .i64 (s413 - 1))))) Z (pu_int (v := .bool (decide (s502.k < (IntKind.wrap .i64 (s413 - 1))))) Z Z (tm Z) (tm Z) Z) (xe (aw_cond (b := decide (s502.k < (IntKind.wrap .i64 (s413 - 1)))) (tm Z) (fun hb514 => ?_) (fun hb514 => ?_))))))))
     ·replace h := ite_t (dec_t hb514) h
      refine aw_skip (aw_seq (aw_block ?_))
      obtain ⟨c506, h⟩ := need_of h
      obtain ⟨c507, h⟩ := need_of h
      obtain ⟨c508, h⟩ := need_of h
      obtain ⟨c509, h⟩ := need_of h
      obtain ⟨c510, h⟩ := need_of h
      obtain ⟨c511, h⟩ := need_of h
      obtain ⟨c512, h⟩ := need_of h
      obtain ⟨c513, h⟩ := need_of h
      refine aw_planR (by decide +kernel) [[], [], [], [], [], [], [], [], [(0, 0, false)], [(0, 0, false)], [], [], [(0, 0, false)], [(0, 0, false)], [(0, 0, false)], [(0, 0, true)], [(0, 1, false)], [(0, 1, true)]] [[15, 17]] [[[(o0, .vec 2 (s502.v.map api.Scored.av))], [(o0, .vec 2 ((upd s502.v s502.k (ix s502.v (IntKind.wrap .i64 (s502.k + 1)))).map api.Scored.av))], [(o0, .vec 2 ((upd (upd s502.v s502.k (ix s502.v (IntKind.wrap .i64 (s502.k + 1)))) (IntKind.wrap .i64 (s502.k + 1)) (ix s502.v s502.k)).map api.Scored.av))]]] [.vec o0, .i s502.k, .vec o0, .i s502.k, .i (IntKind.wrap .i64 (s502.k + 1)), .vec o0, .i s502.k, .i (IntKind.wrap .i64 (s502.k + 1)), .eptr o0 (IntKind.wrap .i64 (s502.k + 1)).toNat 0, .agg [.str (ix s502.v (IntKind.wrap .i64 (s502.k + 1))).Member, .i (ix s502.v (IntKind.wrap .i64 (s502.k + 1))).Score], .vec o0, .i s502.k, .eptr o0 (s502.k).toNat 0, .agg [.str (ix s502.v s502.k).Member, .i (ix s502.v s502.k).Score], .eptr o0 (s502.k).toNat 0, .un, .eptr o0 (IntKind.wrap .i64 (s502.k + 1)).toNat 0, .un] (by decide +kernel) Z Z ?_ ?_
      ·exact ⟨ym Z Z Z, ym Z Z Z, ym Z Z Z, ym Z Z Z, yp Z (pu_int (v := .i (IntKind.wrap .i64 (s502.k + 1))) Z Z (tm Z) (AEv.int _ _) Z), ym Z Z Z, ym Z Z Z, yp Z (pu_int (v := .i (IntKind.wrap .i64 (s502.k + 1))) Z Z (tm Z) (AEv.int _ _) Z), stepg_plain Z (op_indexAddrVecM Z underlying24 sizeOf64 (tm Z) (j := 0) Z (tm Z) c506 ⟨Z, Z⟩), stepg_plain Z (op_loadENM (i := 0) (sz := 2) Z isAgg64 sizeOf64 (tm Z) Z c507 (by decide) Z ⟨Z, Z⟩), ym Z Z Z, ym Z Z Z, stepg_plain Z (op_indexAddrVecM Z underlying24 sizeOf64 (tm Z) (j := 0) Z (tm Z) c508 ⟨Z, Z⟩), stepg_plain Z (op_loadENM (i := 0) (sz := 2) Z isAgg64 sizeOf64 (tm Z) Z c509 (by decide) Z ⟨Z, Z⟩), stepg_plain Z (op_indexAddrVecM Z underlying24 sizeOf64 (tm Z) (j := 0) Z (tm Z) c510 ⟨Z, Z⟩), stepg_plain Z (op_storeEM (i := 0) (sz := 2) (y' := (ix s502.v (IntKind.wrap .i64 (s502.k + 1)))) Z sizeOf64 (tm Z) (v := .agg [.str (ix s502.v (IntKind.wrap .i64 (s502.k + 1))).Member, .i (ix s502.v (IntKind.wrap .i64 (s502.k + 1))).Score]) (tm Z) Z c511 Z Z (by decide) Z ⟨Z, Z⟩), stepg_plain Z (op_indexAddrVecM Z underlying24 sizeOf64 (tm Z) (j := 0) Z (tm Z) c512 ⟨Z, Z⟩), stepg_plain Z (op_storeEM (i := 0) (sz := 2) (y' := (ix s502.v s502.k)) Z sizeOf64 (tm Z) (v := .agg [.str (ix s502.v s502.k).Member, .i (ix s502.v s502.k).Score]) (tm Z) Z c513 Z Z (by decide) Z ⟨Z, Z⟩), trivial⟩
      refine aw_region (xm Z Z Z (xa (.i (IntKind.wrap .i64 (s502.k + 1))) Z (pu_int (v := .i (IntKind.wrap .i64 (s502.k + 1))) Z Z (tm Z) (AEv.int _ _) Z) (xm Z Z Z (xe ?_))))
      obtain rfl := some_of h
      exact ⟨_, (), Z, Weak.mkL [0] (by decide) ⟨⟨_, Z, Z⟩, trivial⟩ ⟨tm Z, tm Z, (AEv.le (tm Z) vr), trivial⟩⟩
     ·replace h := ite_f (dec_f hb514) h
      refine aw_exit ?_
      obtain rfl := some_of h
      have h := congrArg some (hx503 _ rfl)
      obtain rfl := some_of h
      exact ⟨(), Weak.mkL [0] (by decide) ⟨⟨_, Z, Z⟩, trivial⟩ trivial⟩
    ·intro _
     have h := h480
     refine aw_ret ?_
     obtain rfl := some_of h
     exact ⟨[], _, [(o0, .vec 2 (s479.map api.Scored.av))], trivial, vr, Weak.mkL [0] (by decide) ⟨⟨_, Z, Z⟩, trivial⟩ trivial, ⟨Z, Z⟩⟩
  ·replace h := ite_f (dec_f hb764) h
   refine aw_skip (aw_seq (xr (xm Z Z Z (xm Z Z Z (xa (.i (IntKind.wrap .i64 (b - m))) Z (pu_int (v := .i (IntKind.wrap .i64 (b - m))) Z Z (tm Z) (tm Z) Z) (xa (.bool (decide ((IntKind.wrap .i64 (b - m)) = 1))) Z (pu_int (v := .bool (decide ((IntKind.wrap .i64 (b - m)) = 1))) Z Z (tm Z) (AEv.int _ _) Z) (xe (aw_cond (b := decide ((IntKind.wrap .i64 (b - m)) = 1)) (tm Z) (fun hb763 => ?_) (fun hb763 => ?_)))))))))
   ·replace h := ite_t (dec_t hb763) h
    refine xr (xm Z Z Z (xm Z Z Z (xe (xr (xm Z Z Z (xm Z Z Z (xe ?_)))))))
    obtain ⟨s545, s545e, h546⟩ := bind_some h
    refine aw_meet (ν := Unit) (fun v => [(0, .vec o0), (2, .i m), (14, .i s545)]) (fun v => [(o0, .vec 2 (data.map api.Scored.av))]) ?_ ?_
    ·have h := s545e
     refine aw_block (aw_while (σ := slices.symMergeCmpFunc_api_Scored_v_charge_ZSet_1.S4) (ν := Unit) (slices.symMergeCmpFunc_api_Scored_v_charge_ZSet_1.body4 m data) (fun s566 v => [(0, .vec o0), (2, .i m), (4, .fn 40 []), (14, .i s566.i), (15, .i s566.j)]) (fun s566 v => [(o0, .vec 2 (data.map api.Scored.av))]) ⟨a, m⟩ () _ h (Weak.mkL [0] (by decide) ⟨⟨_, Z, Z⟩, trivial⟩ ⟨tm Z, tm Z, tm Z, tm Z, tm Z, trivial⟩) ?_)
     rintro s566 _ x568 h hx567
     unfold slices.symMergeCmpFunc_api_Scored_v_charge_ZSet_1.body4 at h
     refine aw_seq (xr (xm Z Z Z (xm Z Z Z (xa (.bool (decide (s566.i < s566.j))) Z (pu_int (v := .bool (decide (s566.i < s566.j))) Z Z (tm Z) (tm Z) Z) (xe (aw_cond (b := decide (s566.i < s566.j)) (tm Z) (fun hb577 => ?_) (fun hb577 => ?_)))))))
     ·replace h := ite_t (dec_t hb577) h
      refine aw_skip (aw_block (xr (xm Z Z Z (xm Z Z Z (xa (.i (IntKind.wrap .i64 (s566.i + s566.j))) Z (pu_int (v := .i (IntKind.wrap .i64 (s566.i + s566.j))) Z Z (tm Z) (tm Z) Z) (xa (.int .u64 (IntKind.wrap .u64 (IntKind.wrap .i64 (s566.i + s566.j)))) Z (pu_conv Z underlying3 underlying78 (tm Z)) (xa (.int .u64 ((IntKind.wrap .u64 (IntKind.wrap .i64 (s566.i + s566.j))) / 2 ^ min (Int.toNat 1) (IntKind.bits .u64))) Z (pu_shr Z (tm Z) (AEv.int _ _) (by decide)) (xa (.i (IntKind.wrap .i64 ((IntKind.wrap .u64 (IntKind.wrap .i64 (s566.i + s566.j))) / 2 ^ min (Int.toNat 1) (IntKind.bits .u64)))) Z (pu_conv Z underlying78 underlying3 (tm Z)) ?_))))))))
      refine xm Z Z Z (xe (aw_seq ?_))
      obtain ⟨c570, h⟩ := need_of h
      obtain ⟨c571, h⟩ := need_of h
      obtain ⟨c572, h⟩ := need_of h
      obtain ⟨c573, h⟩ := need_of h
      obtain ⟨r574, r574e, h⟩ := bind_some h
      refine aw_planR (by decide +kernel) [[], [], [], [(0, 0, false)], [(0, 0, false)], [], [], [(0, 0, false)], [(0, 0, false)], [], [], []] [[]] [[[(o0, .vec 2 (data.map api.Scored.av))]]] [.fn 40 [], .vec o0, .i m, .eptr o0 (m).toNat 0, .agg [.str (ix data m).Member, .i (ix data m).Score], .vec o0, .i (IntKind.wrap .i64 ((IntKind.wrap .u64 (IntKind.wrap .i64 (s566.i + s566.j))) / 2 ^ min (Int.toNat 1) (IntKind.bits .u64))), .eptr o0 (IntKind.wrap .i64 ((IntKind.wrap .u64 (IntKind.wrap .i64 (s566.i + s566.j))) / 2 ^ min (Int.toNat 1) (IntKind.bits .u64))).toNat 0, .agg [.str (ix data (IntKind.wrap .i64 ((IntKind.wrap .u64 (IntKind.wrap .i64 (s566.i + s566.j))) / 2 ^ min (Int.toNat 1) (IntKind.bits .u64)))).Member, .i (ix data (IntKind.wrap .i64 ((IntKind.wrap .u64 (IntKind.wrap .i64 (s566.i + s566.j))) / 2 ^ min (Int.toNat 1) (IntKind.bits .u64)))).Score], .i r574, .bool (decide (r574 < 0)), .bool (!(decide (r574 < 0)))] (by decide +kernel) Z Z ?_ ?_
      ·exact ⟨ym Z Z Z, ym Z Z Z, ym Z Z Z, stepg_plain Z (op_indexAddrVecM Z underlying24 sizeOf64 (tm Z) (j := 0) Z (tm Z) c570 ⟨Z, Z⟩), stepg_plain Z (op_loadENM (i := 0) (sz := 2) Z isAgg64 sizeOf64 (tm Z) Z c571 (by decide) Z ⟨Z, Z⟩), ym Z Z Z, ym Z Z Z, stepg_plain Z (op_indexAddrVecM Z underlying24 sizeOf64 (tm Z) (j := 0) Z (tm Z) c572 ⟨Z, Z⟩), stepg_plain Z (op_loadENM (i := 0) (sz := 2) Z isAgg64 sizeOf64 (tm Z) Z c573 (by decide) Z ⟨Z, Z⟩), stepg_plain Z (op_callV (vs := [.agg [.str (ix data m).Member, .i (ix data m).Score], .agg [.str (ix data (IntKind.wrap .i64 ((IntKind.wrap .u64 (IntKind.wrap .i64 (s566.i + s566.j))) / 2 ^ min (Int.toNat 1) (IntKind.bits .u64)))).Member, .i (ix data (IntKind.wrap .i64 ((IntKind.wrap .u64 (IntKind.wrap .i64 (s566.i + s566.j))) / 2 ^ min (Int.toNat 1) (IntKind.bits .u64)))).Score]]) (H := []) Z (tm Z) call40 ⟨(tm Z), (tm Z), trivial⟩ (R := []) (List.Perm.refl _) (charge.ZSet_1.ok r574e) (by rintro _ _ ⟨rfl, rfl⟩; exact ⟨Z, Z⟩)), yp Z (pu_int (v := .bool (decide (r574 < 0))) Z Z (tm Z) (AEv.int _ _) Z), yp Z (pu_not Z (tm Z)), trivial⟩
      refine aw_cond (b := (!(decide (r574 < 0)))) (tm Z) (fun hb576 => ?_) (fun hb576 => ?_)
      ·replace h := ite_f (ndec_t hb576) h
       refine aw_region (xm Z Z Z ?_)
       obtain ⟨x575, x575e, h⟩ := letO_of h
       refine xa (.i x575) Z (APure.eq (pu_int (v := .i (IntKind.wrap .i64 ((IntKind.wrap .i64 ((IntKind.wrap .u64 (IntKind.wrap .i64 (s566.i + s566.j))) / 2 ^ min (Int.toNat 1) (IntKind.bits .u64))) + 1))) Z Z (tm Z) (AEv.int _ _) Z) (congrArg (AV.int .i64) x575e.symm)) (xm Z Z Z (xe ?_))
       obtain rfl := some_of h
       exact ⟨_, (), Z, Weak.mkL [0] (by decide) ⟨⟨_, Z, Z⟩, trivial⟩ ⟨tm Z, tm Z, tm Z, tm Z, tm Z, trivial⟩⟩
      ·replace h := ite_t (ndec_f hb576) h
       refine aw_region (xm Z Z Z (xm Z Z Z (xe ?_)))
       obtain rfl := some_of h
       exact ⟨_, (), Z, Weak.mkL [0] (by decide) ⟨⟨_, Z, Z⟩, trivial⟩ ⟨tm Z, tm Z, tm Z, tm Z, (AEv.le (tm Z) vr), trivial⟩⟩
     ·replace h := ite_f (dec_f hb577) h
      refine aw_exit ?_
      obtain rfl := some_of h
      have h := congrArg some (hx567 _ rfl)
      obtain rfl := some_of h
      exact ⟨(), Weak.mkL [0] (by decide) ⟨⟨_, Z, Z⟩, trivial⟩ ⟨tm Z, tm Z, tm Z, trivial⟩⟩
    ·intro _
     have h := h546
     obtain ⟨s611, s611e, h612⟩ := bind_some h
     refine aw_meet (ν := Unit) (fun v => []) (fun v => [(o0, .vec 2 (s611.map api.Scored.av))]) ?_ ?_
     ·have h := s611e
      refine xr (xm Z Z Z (xm Z Z Z (xe (aw_block (aw_while (σ := slices.symMergeCmpFunc_api_Scored_v_charge_ZSet_1.S6) (ν := Unit) (slices.symMergeCmpFunc_api_Scored_v_charge_ZSet_1.body6 s545) (fun s634 v => [(0, .vec o0), (14, .i s545), (17, .i s634.k)]) (fun s634 v => [(o0, .vec 2 (s634.v.map api.Scored.av))]) ⟨m, data⟩ () _ h (Weak.mkL [0] (by decide) ⟨⟨_, Z, Z⟩, trivial⟩ ⟨tm Z, tm Z, tm Z, trivial⟩) ?_)))))
      rintro s634 _ x636 h hx635
      unfold slices.symMergeCmpFunc_api_Scored_v_charge_ZSet_1.body6 at h
      refine aw_seq (xr (xm Z Z Z (xm Z Z Z (xa (.bool (decide (s545 < s634.k))) Z (pu_int (v := .bool (decide (s545 < s634.k))) Z Z (tm Z) (tm Z) Z) (xe (aw_cond (b := decide (s545 < s634.k)) (tm Z) (fun hb646 => ?_) (fun hb646 => ?_)))))))
      ·replace h := ite_t (dec_t hb646) h
       refine aw_skip (aw_seq (aw_block ?_))
       obtain ⟨c638, h⟩ := need_of h
       obtain ⟨c639, h⟩ := need_of h
       obtain ⟨c640, h⟩ := need_of h
       obtain ⟨c641, h⟩ := need_of h
       obtain ⟨c642, h⟩ := need_of h
       obtain ⟨c643, h⟩ := need_of h
       obtain ⟨c644, h⟩ := need_of h
       obtain ⟨c645, h⟩ := need_of h
       refine aw_planR (by decide +kernel) [[], [], [], [], [], [], [], [], [(0, 0, false)], [(0, 0, false)], [], [], [(0, 0, false)], [(0, 0, false)], [(0, 0, false)], [(0, 0, true)], [(0, 1, false)], [(0, 1, true)]] [[15, 17]] [[[(o0, .vec 2 (s634.v.map api.Scored.av))], [(o0, .vec 2 ((upd s634.v s634.k (ix s634.v (IntKind.wrap .i64 (s634.k - 1)))).map api.Scored.av))], [(o0, .vec 2 ((upd (upd s634.v s634.k (ix s634.v (IntKind.wrap .i64 (s634.k - 1)))) (IntKind.wrap .i64 (s634.k - 1)) (ix s634.v s634.k)).map api.Scored.av))]]] [.vec o0, .i s634.k, .vec o0, .i s634.k, .i (IntKind.wrap .i64 (s634.k - 1)), .vec o0, .i s634.k, .i (IntKind.wrap .i64 (s634.k - 1)), .eptr o0 (IntKind.wrap .i64 (s634.k - 1)).toNat 0, .agg [.str (ix s634.v (IntKind.wrap .i64 (s634.k - 1))).Member, .i (ix s634.v (IntKind.wrap .i64 (s634.k - 1))).Score], .vec o0, .i s634.k, .eptr o0 (s634.k).toNat 0, .agg [.str (ix s634.v s634.k).Member, .i (ix s634.v s634.k).Score], .eptr o0 (s634.k).toNat 0, .un, .eptr o0 (IntKind.wrap .i64 (s634.k - 1)).toNat 0, .un] (by decide +kernel) Z Z ?_ ?_
       ·exact ⟨ym Z Z Z, ym Z Z Z, ym Z Z Z, ym Z Z Z, yp Z (pu_int (v := .i (IntKind.wrap .i64 (s634.k - 1))) Z Z (tm Z) (AEv.int _ _) Z), ym Z Z Z, ym Z Z Z, yp Z (pu_int (v := .i (IntKind.wrap .i64 (s634.k - 1))) Z Z (tm Z) (AEv.int _ _) Z), stepg_plain Z (op_indexAddrVecM Z underlying24 sizeOf64 (tm Z) (j := 0) Z (tm Z) c638 ⟨Z, Z⟩), stepg_plain Z (op_loadENM (i := 0) (sz := 2) Z isAgg64 sizeOf64 (tm Z) Z c639 (by decide) Z ⟨Z, Z⟩), ym Z Z Z, ym Z Z Z, stepg_plain Z (op_indexAddrVecM Z underlying24 sizeOf64 (tm Z) (j := 0) Z (tm Z) c640 ⟨Z, Z⟩), stepg_plain Z (op_loadENM (i := 0) (sz := 2) Z isAgg64 sizeOf64 (tm Z) Z c641 (by decide) Z ⟨Z, Z⟩), stepg_plain Z (op_indexAddrVecM Z underlying24 sizeOf64 (tm Z) (j := 0) Z (tm Z) c642 ⟨Z, Z⟩), stepg_plain Z (op_storeEM (i := 0) (sz := 2) (y' := (ix s634.v (IntKind.wrap .i64 (s634.k - 1)))) Z sizeOf64 (tm Z) (v := .agg [.str (ix s634.v (IntKind.wrap .i64 (s634.k - 1))).Member, .i (ix s634.v (IntKind.wrap .i64 (s634.k - 1))).Score]) (tm Z) Z c643 Z Z (by decide) Z ⟨Z, Z⟩), stepg_plain Z (op_indexAddrVecM Z underlying24 sizeOf64 (tm Z) (j := 0) Z (tm Z) c644 ⟨Z, Z⟩), stepg_plain Z (op_storeEM (i := 0) (sz := 2) (y' := (ix s634.v s634.k)) Z sizeOf64 (tm Z) (v := .agg [.str (ix s634.v s634.k).Member, .i (ix s634.v s634.k).Score]) (tm Z) Z c645 Z Z (by decide) Z ⟨Z, Z⟩), trivial⟩
       refine aw_region (xm Z Z Z (xa (.i (IntKind.wrap .i64 (s634.k - 1))) Z (pu_int (v := .i (IntKind.wrap .i64 (s634.k - 1))) Z Z (tm Z) (AEv.int _ _) Z) (xm Z Z Z (xe ?_))))
       obtain rfl := some_of h
       exact ⟨_, (), Z, Weak.mkL [0] (by decide) ⟨⟨_, Z, Z⟩, trivial⟩ ⟨tm Z, tm Z, (AEv.le (tm Z) vr), trivial⟩⟩
      ·replace h := ite_f (dec_f hb646) h
       refine aw_exit ?_
       obtain rfl := some_of h
       have h := congrArg some (hx635 _ rfl)
       obtain rfl := some_of h
       exact ⟨(), Weak.mkL [0] (by decide) ⟨⟨_, Z, Z⟩, trivial⟩ trivial⟩
     ·intro _
      have h := h612
      refine aw_ret ?_
      obtain rfl := some_of h
      exact ⟨[], _, [(o0, .vec 2 (s611.map api.Scored.av))], trivial, vr, Weak.mkL [0] (by decide) ⟨⟨_, Z, Z⟩, trivial⟩ trivial, ⟨Z, Z⟩⟩
   ·replace h := ite_f (dec_f hb763) h
    refine aw_skip (xr (xm Z Z Z (xm Z Z Z (xa (.i (IntKind.wrap .i64 (a + b))) Z (pu_int (v := .i (IntKind.wrap .i64 (a + b))) Z Z (tm Z) (tm Z) Z) (xa (.int .u64 (IntKind.wrap .u64 (IntKind.wrap .i64 (a + b)))) Z (pu_conv Z underlying3 underlying78 (tm Z)) (xa (.int .u64 ((IntKind.wrap .u64 (IntKind.wrap .i64 (a + b))) / 2 ^ min (Int.toNat 1) (IntKind.bits .u64))) Z (pu_shr Z (tm Z) (AEv.int _ _) (by decide)) (xa (.i (IntKind.wrap .i64 ((IntKind.wrap .u64 (IntKind.wrap .i64 (a + b))) / 2 ^ min (Int.toNat 1) (IntKind.bits .u64)))) Z (pu_conv Z underlying78 underlying3 (tm Z)) (xm Z Z Z ?_))))))))
    refine xe (xr (xm Z Z Z (xm Z Z Z ?_)))
    obtain ⟨x647, x647e, h⟩ := letO_of h
    refine xa (.i x647) Z (APure.eq (pu_int (v := .i (IntKind.wrap .i64 ((IntKind.wrap .i64 ((IntKind.wrap .u64 (IntKind.wrap .i64 (a + b))) / 2 ^ min (Int.toNat 1) (IntKind.bits .u64))) + m))) Z Z (tm Z) (tm Z) Z) (congrArg (AV.int .i64) x647e.symm)) (xm Z Z Z (xe (xr (xa (.i 0) Z (pu_assign Z (AEv.int _ _)) (xa (.i 0) Z (pu_assign Z (AEv.int _ _)) (xe ?_))))))
    obtain ⟨s649, s649e, h650⟩ := letO_of h
    refine aw_meet (ν := Unit) (fun v => [(0, .vec o0), (1, .i a), (2, .i m), (3, .i b), (4, .fn 40 []), (18, .i (IntKind.wrap .i64 ((IntKind.wrap .u64 (IntKind.wrap .i64 (a + b))) / 2 ^ min (Int.toNat 1) (IntKind.bits .u64)))), (19, .i x647), (20, .i s649.1), (21, .i s649.2)]) (fun v => [(o0, .vec 2 (data.map api.Scored.av))]) ?_ ?_
    ·have h := s649e.symm
     refine xr (xm Z Z Z (xm Z Z Z (xa (.bool (decide ((IntKind.wrap .i64 ((IntKind.wrap .u64 (IntKind.wrap .i64 (a + b))) / 2 ^ min (Int.toNat 1) (IntKind.bits .u64))) < m))) Z (pu_int (v := .bool (decide ((IntKind.wrap .i64 ((IntKind.wrap .u64 (IntKind.wrap .i64 (a + b))) / 2 ^ min (Int.toNat 1) (IntKind.bits .u64))) < m))) Z Z (tm Z) (tm Z) Z) (xe (aw_cond (b := decide ((IntKind.wrap .i64 ((IntKind.wrap .u64 (IntKind.wrap .i64 (a + b))) / 2 ^ min (Int.toNat 1) (IntKind.bits .u64))) < m)) (tm Z) (fun hb652 => ?_) (fun hb652 => ?_))))))
     ·replace h := ite_t (dec_t hb652) h
      refine xr (xm Z Z Z (xm Z Z Z (xa (.i (IntKind.wrap .i64 (x647 - b))) Z (pu_int (v := .i (IntKind.wrap .i64 (x647 - b))) Z Z (tm Z) (tm Z) Z) (xm Z Z Z (xe (aw_region (xm Z Z Z (xm Z Z Z ?_))))))))
      refine xe ?_
      subst h
      exact ⟨(), Weak.mkL [0] (by decide) ⟨⟨_, Z, Z⟩, trivial⟩ ⟨tm Z, tm Z, tm Z, tm Z, tm Z, tm Z, tm Z, (AEv.le (tm Z) vr), (AEv.le (tm Z) vr), trivial⟩⟩
     ·replace h := ite_f (dec_f hb652) h
      refine xr (xm Z Z Z (xm Z Z Z (xe (aw_region (xm Z Z Z (xm Z Z Z (xe ?_)))))))
      subst h
      exact ⟨(), Weak.mkL [0] (by decide) ⟨⟨_, Z, Z⟩, trivial⟩ ⟨tm Z, tm Z, tm Z, tm Z, tm Z, tm Z, tm Z, tm Z, tm Z, trivial⟩⟩
    ·intro _
     have h := h650
     refine xr (xm Z Z Z (xa (.i (IntKind.wrap .i64 (x647 - 1))) Z (pu_int (v := .i (IntKind.wrap .i64 (x647 - 1))) Z Z (tm Z) (AEv.int _ _) Z) (xm Z Z Z (xe ?_))))
     obtain ⟨s686, s686e, h687⟩ := bind_some h
     refine aw_meet (ν := Unit) (fun v => [(0, .vec o0), (1, .i a), (2, .i m), (3, .i b), (4, .fn 40 []), (18, .i (IntKind.wrap .i64 ((IntKind.wrap .u64 (IntKind.wrap .i64 (a + b))) / 2 ^ min (Int.toNat 1) (IntKind.bits .u64)))), (19, .i x647), (20, .i s686)]) (fun v => [(o0, .vec 2 (data.map api.Scored.av))]) ?_ ?_
     ·have h := s686e
      refine aw_block (aw_while (σ := slices.symMergeCmpFunc_api_Scored_v_charge_ZSet_1.S8) (ν := Unit) (slices.symMergeCmpFunc_api_Scored_v_charge_ZSet_1.body8 x647 data) (fun s709 v => [(0, .vec o0), (1, .i a), (2, .i m), (3, .i b), (4, .fn 40 []), (18, .i (IntKind.wrap .i64 ((IntKind.wrap .u64 (IntKind.wrap .i64 (a + b))) / 2 ^ min (Int.toNat 1) (IntKind.bits .u64)))), (19, .i x647), (20, .i s709.start), (21, .i s709.r), (22, .i (IntKind.wrap .i64 (x647 - 1)))]) (fun s709 v => [(o0, .vec 2 (data.map api.Scored.av))]) ⟨s649.1, s649.2⟩ () _ h (Weak.mkL [0] (by decide) ⟨⟨_, Z, Z⟩, trivial⟩ ⟨tm Z, tm Z, tm Z, tm Z, tm Z, tm Z, tm Z, tm Z, tm Z, tm Z, trivial⟩) ?_)
      rintro s709 _ x711 h hx710
      unfold slices.symMergeCmpFunc_api_Scored_v_charge_ZSet_1.body8 at h
      refine aw_seq (xr (xm Z Z Z (xm Z Z Z (xa (.bool (decide (s709.start < s709.r))) Z (pu_int (v := .bool (decide (s709.start < s709.r))) Z Z (tm Z) (tm Z) Z) (xe (aw_cond (b := decide (s709.start < s709.r)) (tm Z) (fun hb721 => ?_) (fun hb721 => ?_)))))))
      ·replace h := ite_t (dec_t hb721) h
       refine aw_skip (aw_block (xr (xm Z Z Z (xm Z Z Z (xa (.i (IntKind.wrap .i64 (s709.start + s709.r))) Z (pu_int (v := .i (IntKind.wrap .i64 (s709.start + s709.r))) Z Z (tm Z) (tm Z) Z) (xa (.int .u64 (IntKind.wrap .u64 (IntKind.wrap .i64 (s709.start + s709.r)))) Z (pu_conv Z underlying3 underlying78 (tm Z)) (xa (.int .u64 ((IntKind.wrap .u64 (IntKind.wrap .i64 (s709.start + s709.r))) / 2 ^ min (Int.toNat 1) (IntKind.bits .u64))) Z (pu_shr Z (tm Z) (AEv.int _ _) (by decide)) (xa (.i (IntKind.wrap .i64 ((IntKind.wrap .u64 (IntKind.wrap .i64 (s709.start + s709.r))) / 2 ^ min (Int.toNat 1) (IntKind.bits .u64)))) Z (pu_conv Z underlying78 underlying3 (tm Z)) ?_))))))))
       refine xm Z Z Z (xe (aw_seq ?_))
       obtain ⟨x713, x713e, h⟩ := letO_of h
       obtain ⟨c714, h⟩ := need_of h
       obtain ⟨c715, h⟩ := need_of h
       obtain ⟨c716, h⟩ := need_of h
       obtain ⟨c717, h⟩ := need_of h
       obtain ⟨r718, r718e, h⟩ := bind_some h
       refine aw_planR (by decide +kernel) [[], [], [], [], [], [(0, 0, false)], [(0, 0, false)], [], [], [(0, 0, false)], [(0, 0, false)], [], [], []] [[]] [[[(o0, .vec 2 (data.map api.Scored.av))]]] [.fn 40 [], .vec o0, .i (IntKind.wrap .i64 (x647 - 1)), .i (IntKind.wrap .i64 ((IntKind.wrap .u64 (IntKind.wrap .i64 (s709.start + s709.r))) / 2 ^ min (Int.toNat 1) (IntKind.bits .u64))), .i x713, .eptr o0 (x713).toNat 0, .agg [.str (ix data x713).Member, .i (ix data x713).Score], .vec o0, .i (IntKind.wrap .i64 ((IntKind.wrap .u64 (IntKind.wrap .i64 (s709.start + s709.r))) / 2 ^ min (Int.toNat 1) (IntKind.bits .u64))), .eptr o0 (IntKind.wrap .i64 ((IntKind.wrap .u64 (IntKind.wrap .i64 (s709.start + s709.r))) / 2 ^ min (Int.toNat 1) (IntKind.bits .u64))).toNat 0, .agg [.str (ix data (IntKind.wrap .i64 ((IntKind.wrap .u64 (IntKind.wrap .i64 (s709.start + s709.r))) / 2 ^ min (Int.toNat 1) (IntKind.bits .u64)))).Member, .i (ix data (IntKind.wrap .i64 ((IntKind.wrap .u64 (IntKind.wrap .i64 (s709.start + s709.r))) / 2 ^ min (Int.toNat 1) (IntKind.bits .u64)))).Score], .i r718, .bool (decide (r718 < 0)), .bool (!(decide (r718 < 0)))] (by decide +kernel) Z Z ?_ ?_
       ·exact ⟨ym Z Z Z, ym Z Z Z, ym Z Z Z, ym Z Z Z, yp Z (APure.eq (pu_int (v := .i (IntKind.wrap .i64 ((IntKind.wrap .i64 (x647 - 1)) - (IntKind.wrap .i64 ((IntKind.wrap .u64 (IntKind.wrap .i64 (s709.start + s709.r))) / 2 ^ min (Int.toNat 1) (IntKind.bits .u64)))))) Z Z (tm Z) (tm Z) Z) (congrArg (AV.int .i64) x713e.symm)), stepg_plain Z (op_indexAddrVecM Z underlying24 sizeOf64 (tm Z) (j := 0) Z (tm Z) c714 ⟨Z, Z⟩), stepg_plain Z (op_loadENM (i := 0) (sz := 2) Z isAgg64 sizeOf64 (tm Z) Z c715 (by decide) Z ⟨Z, Z⟩), ym Z Z Z, ym Z Z Z, stepg_plain Z (op_indexAddrVecM Z underlying24 sizeOf64 (tm Z) (j := 0) Z (tm Z) c716 ⟨Z, Z⟩), stepg_plain Z (op_loadENM (i := 0) (sz := 2) Z isAgg64 sizeOf64 (tm Z) Z c717 (by decide) Z ⟨Z, Z⟩), stepg_plain Z (op_callV (vs := [.agg [.str (ix data x713).Member, .i (ix data x713).Score], .agg [.str (ix data (IntKind.wrap .i64 ((IntKind.wrap .u64 (IntKind.wrap .i64 (s709.start + s709.r))) / 2 ^ min (Int.toNat 1) (IntKind.bits .u64)))).Member, .i (ix data (IntKind.wrap .i64 ((IntKind.wrap .u64 (IntKind.wrap .i64 (s709.start + s709.r))) / 2 ^ min (Int.toNat 1) (IntKind.bits .u64)))).Score]]) (H := []) Z (tm Z) call40 ⟨(tm Z), (tm Z), trivial⟩ (R := []) (List.Perm.refl _) (charge.ZSet_1.ok r718e) (by rintro _ _ ⟨rfl, rfl⟩; exact ⟨Z, Z⟩)), yp Z (pu_int (v := .bool (decide (r718 < 0))) Z Z (tm Z) (AEv.int _ _) Z), yp Z (pu_not Z (tm Z)), trivial⟩
       refine aw_cond (b := (!(decide (r718 < 0)))) (tm Z) (fun hb720 => ?_) (fun hb720 => ?_)
       ·replace h := ite_f (ndec_t hb720) h
        refine aw_region (xm Z Z Z ?_)
        obtain ⟨x719, x719e, h⟩ := letO_of h
        refine xa (.i x719) Z (APure.eq (pu_int (v := .i (IntKind.wrap .i64 ((IntKind.wrap .i64 ((IntKind.wrap .u64 (IntKind.wrap .i64 (s709.start + s709.r))) / 2 ^ min (Int.toNat 1) (IntKind.bits .u64))) + 1))) Z Z (tm Z) (AEv.int _ _) Z) (congrArg (AV.int .i64) x719e.symm)) (xm Z Z Z (xe ?_))
        obtain rfl := some_of h
        exact ⟨_, (), Z, Weak.mkL [0] (by decide) ⟨⟨_, Z, Z⟩, trivial⟩ ⟨tm Z, tm Z, tm Z, tm Z, tm Z, tm Z, tm Z, tm Z, tm Z, tm Z, trivial⟩⟩
       ·replace h := ite_t (ndec_f hb720) h
        refine aw_region (xm Z Z Z (xm Z Z Z (xe ?_)))
        obtain rfl := some_of h
        exact ⟨_, (), Z, Weak.mkL [0] (by decide) ⟨⟨_, Z, Z⟩, trivial⟩ ⟨tm Z, tm Z, tm Z, tm Z, tm Z, tm Z, tm Z, tm Z, (AEv.le (tm Z) vr), tm Z, trivial⟩⟩
      ·replace h := ite_f (dec_f hb721) h
       refine aw_exit ?_
       obtain rfl := some_of h
       have h := congrArg some (hx710 _ rfl)
       obtain rfl := some_of h
       exact ⟨(), Weak.mkL [0] (by decide) ⟨⟨_, Z, Z⟩, trivial⟩ ⟨tm Z, tm Z, tm Z, tm Z, tm Z, tm Z, tm Z, tm Z, trivial⟩⟩
     ·intro _
      have h := h687
      refine xr (xm Z Z Z (xm Z Z Z (xa (.i (IntKind.wrap .i64 (x647 - s686))) Z (pu_int (v := .i (IntKind.wrap .i64 (x647 - s686))) Z Z (tm Z) (tm Z) Z) (xm Z Z Z (xe ?_)))))
      obtain ⟨s729, s729e, h730⟩ := bind_some h
      refine aw_meet (ν := Unit) (fun v => [(0, .vec o0), (1, .i a), (3, .i b), (4, .fn 40 []), (18, .i (IntKind.wrap .i64 ((IntKind.wrap .u64 (IntKind.wrap .i64 (a + b))) / 2 ^ min (Int.toNat 1) (IntKind.bits .u64)))), (20, .i s686), (24, .i (IntKind.wrap .i64 (x647 - s686)))]) (fun v => [(o0, .vec 2 (s729.map api.Scored.av))]) ?_ ?_
      ·have h := s729e
       obtain ⟨s733, s733e, h734⟩ := letO_of h
       refine aw_meet (ν := Unit) (fun v => [(0, .vec o0), (1, .i a), (2, .i m), (3, .i b), (4, .fn 40 []), (18, .i (IntKind.wrap .i64 ((IntKind.wrap .u64 (IntKind.wrap .i64 (a + b))) / 2 ^ min (Int.toNat 1) (IntKind.bits .u64)))), (20, .i s686), (24, .i (IntKind.wrap .i64 (x647 - s686))), (185, .bool s733)]) (fun v => [(o0, .vec 2 (data.map api.Scored.av))]) ?_ ?_
       ·have h := s733e.symm
        refine aw_region (xm Z Z Z (xm Z Z Z (xa (.bool (decide (s686 < m))) Z (pu_int (v := .bool (decide (s686 < m))) Z Z (tm Z) (tm Z) Z) (xm Z Z Z ?_))))
        rcases Bool.eq_false_or_eq_true (decide (s686 < m)) with hb736 | hb736
        ·replace h := ite_t (dec_t hb736) h
         refine aops_known 181 Z hb736 (xq Z Z Z Z (xq Z Z Z Z (xp (.bool (decide (m < (IntKind.wrap .i64 (x647 - s686))))) Z Z (pu_int (v := .bool (decide (m < (IntKind.wrap .i64 (x647 - s686))))) Z Z (tm Z) (tm Z) Z) (xa (.bool (decide (m < (IntKind.wrap .i64 (x647 - s686))))) Z (pu_pick (b := true) Z (tm Z) (fun _ => (tm Z)) (fun h => nomatch h)) (xe ?_)))))
         subst h
         exact ⟨(), Weak.mkL [0] (by decide) ⟨⟨_, Z, Z⟩, trivial⟩ ⟨tm Z, tm Z, tm Z, tm Z, tm Z, tm Z, tm Z, tm Z, (AEv.le (tm Z) vr), trivial⟩⟩
        ·replace h := ite_f (dec_f hb736) h
         refine aops_known 181 Z hb736 (xn Z Z Z (xn Z Z Z (xn Z Z Z (xa (.bool false) Z (pu_pick (b := false) Z (tm Z) (fun h => nomatch h) (fun _ => (AEv.bool _))) (xe ?_)))))
         subst h
         exact ⟨(), Weak.mkL [0] (by decide) ⟨⟨_, Z, Z⟩, trivial⟩ ⟨tm Z, tm Z, tm Z, tm Z, tm Z, tm Z, tm Z, tm Z, tm Z, trivial⟩⟩
       ·intro _
        have h := h734
        refine aw_cond (b := s733) (tm Z) (fun hb738 => ?_) (fun hb738 => ?_)
        ·replace h := ite_t hb738 h
         refine aw_region (xm Z Z Z (xm Z Z Z (xm Z Z Z (xm Z Z Z (xm Z Z Z ?_)))))
         obtain ⟨r737, r737e, h⟩ := bind_some h
         refine xc Z (op_call (vs := [.vec o0, .i s686, .i m, .i (IntKind.wrap .i64 (x647 - s686)), .fn 40 []]) (H := [(o0, .vec 2 (data.map api.Scored.av))]) Z call96 ⟨(tm Z), (tm Z), (tm Z), (tm Z), (tm Z), trivial⟩ (List.Perm.refl _) (slices.rotateCmpFunc_api_Scored_v_charge_ZSet_1.ok r737e o0) ?_)
         rintro _ _ ⟨rfl, rfl⟩
         refine xe ?_
         obtain rfl := some_of h
         exact ⟨(), Weak.mkL [0] (by decide) ⟨⟨_, Z, Z⟩, trivial⟩ ⟨tm Z, tm Z, tm Z, tm Z, tm Z, tm Z, tm Z, trivial⟩⟩
        ·replace h := ite_fb hb738 h
         refine aw_skip ?_
         obtain rfl := some_of h
         exact ⟨(), Weak.mkL [0] (by decide) ⟨⟨_, Z, Z⟩, trivial⟩ ⟨tm Z, tm Z, tm Z, tm Z, tm Z, tm Z, tm Z, trivial⟩⟩
      ·intro _
       have h := h730
       obtain ⟨s746, s746e, h747⟩ := bind_some h
       refine aw_meet (ν := Unit) (fun v => [(0, .vec o0), (3, .i b), (4, .fn 40 []), (18, .i (IntKind.wrap .i64 ((IntKind.wrap .u64 (IntKind.wrap .i64 (a + b))) / 2 ^ min (Int.toNat 1) (IntKind.bits .u64)))), (24, .i (IntKind.wrap .i64 (x647 - s686)))]) (fun v => [(o0, .vec 2 (s746.map api.Scored.av))]) ?_ ?_
       ·have h := s746e
        obtain ⟨s750, s750e, h751⟩ := letO_of h
        refine aw_meet (ν := Unit) (fun v => [(0, .vec o0), (1, .i a), (3, .i b), (4, .fn 40 []), (18, .i (IntKind.wrap .i64 ((IntKind.wrap .u64 (IntKind.wrap .i64 (a + b))) / 2 ^ min (Int.toNat 1) (IntKind.bits .u64)))), (20, .i s686), (24, .i (IntKind.wrap .i64 (x647 - s686))), (199, .bool s750)]) (fun v => [(o0, .vec 2 (s729.map api.Scored.av))]) ?_ ?_
        ·have h := s750e.symm
         refine aw_region (xm Z Z Z (xm Z Z Z (xa (.bool (decide (a < s686))) Z (pu_int (v := .bool (decide (a < s686))) Z Z (tm Z) (tm Z) Z) (xm Z Z Z ?_))))
         rcases Bool.eq_false_or_eq_true (decide (a < s686)) with hb753 | hb753
         ·replace h := ite_t (dec_t hb753) h
          refine aops_known 195 Z hb753 (xq Z Z Z Z (xq Z Z Z Z (xp (.bool (decide (s686 < (IntKind.wrap .i64 ((IntKind.wrap .u64 (IntKind.wrap .i64 (a + b))) / 2 ^ min (Int.toNat 1) (IntKind.bits .u64)))))) Z Z (pu_int (v := .bool (decide (s686 < (IntKind.wrap .i64 ((IntKind.wrap .u64 (IntKind.wrap .i64 (a + b))) / 2 ^ min (Int.toNat 1) (IntKind.bits .u64)))))) Z Z (tm Z) (tm Z) Z) (xa (.bool (decide (s686 < (IntKind.wrap .i64 ((IntKind.wrap .u64 (IntKind.wrap .i64 (a + b))) / 2 ^ min (Int.toNat 1) (IntKind.bits .u64)))))) Z (pu_pick (b := true) Z (tm Z) (fun _ => (tm Z)) (fun h => nomatch h)) (xe ?_)))))
          subst h
          exact ⟨(), Weak.mkL [0] (by decide) ⟨⟨_, Z, Z⟩, trivial⟩ ⟨tm Z, tm Z, tm Z, tm Z, tm Z, tm Z, tm Z, (AEv.le (tm Z) vr), trivial⟩⟩
         ·replace h := ite_f (dec_f hb753) h
          refine aops_known 195 Z hb753 (xn Z Z Z (xn Z Z Z (xn Z Z Z (xa (.bool false) Z (pu_pick (b := false) Z (tm Z) (fun h => nomatch h) (fun _ => (AEv.bool _))) (xe ?_)))))
          subst h
          exact ⟨(), Weak.mkL [0] (by decide) ⟨⟨_, Z, Z⟩, trivial⟩ ⟨tm Z, tm Z, tm Z, tm Z, tm Z, tm Z, tm Z, tm Z, trivial⟩⟩
        ·intro _
         have h := h751
         refine aw_cond (b := s750) (tm Z) (fun hb755 => ?_) (fun hb755 => ?_)
         ·replace h := ite_t hb755 h
          refine aw_region (xm Z Z Z (xm Z Z Z (xm Z Z Z (xm Z Z Z (xm Z Z Z ?_)))))
          obtain ⟨r754, r754e, h⟩ := bind_some h
          refine xc Z (op_call (vs := [.vec o0, .i a, .i s686, .i (IntKind.wrap .i64 ((IntKind.wrap .u64 (IntKind.wrap .i64 (a + b))) / 2 ^ min (Int.toNat 1) (IntKind.bits .u64))), .fn 40 []]) (H := [(o0, .vec 2 (s729.map api.Scored.av))]) Z call79 ⟨(tm Z), (tm Z), (tm Z), (tm Z), (tm Z), trivial⟩ (List.Perm.refl _) (ih r754e o0) ?_)
          rintro _ _ ⟨rfl, rfl⟩
          refine xe ?_
          obtain rfl := some_of h
          exact ⟨(), Weak.mkL [0] (by decide) ⟨⟨_, Z, Z⟩, trivial⟩ ⟨tm Z, tm Z, tm Z, tm Z, tm Z, trivial⟩⟩
         ·replace h := ite_fb hb755 h
          refine aw_skip ?_
          obtain rfl := some_of h
          exact ⟨(), Weak.mkL [0] (by decide) ⟨⟨_, Z, Z⟩, trivial⟩ ⟨tm Z, tm Z, tm Z, tm Z, tm Z, trivial⟩⟩
       ·intro _
        have h := h747
        obtain ⟨s757, s757e, h758⟩ := letO_of h
        refine aw_meet (ν := Unit) (fun v => [(0, .vec o0), (3, .i b), (4, .fn 40 []), (18, .i (IntKind.wrap .i64 ((IntKind.wrap .u64 (IntKind.wrap .i64 (a + b))) / 2 ^ min (Int.toNat 1) (IntKind.bits .u64)))), (24, .i (IntKind.wrap .i64 (x647 - s686))), (213, .bool s757)]) (fun v => [(o0, .vec 2 (s746.map api.Scored.av))]) ?_ ?_
        ·have h := s757e.symm
         refine aw_region (xm Z Z Z (xm Z Z Z (xa (.bool (decide ((IntKind.wrap .i64 ((IntKind.wrap .u64 (IntKind.wrap .i64 (a + b))) / 2 ^ min (Int.toNat 1) (IntKind.bits .u64))) < (IntKind.wrap .i64 (x647 - s686))))) Z (pu_int (v := .bool (decide ((IntKind.wrap .i64 ((IntKind.wrap .u64 (IntKind.wrap .i64 (a + b))) / 2 ^ min (Int.toNat 1) (IntKind.bits .u64))) < (IntKind.wrap .i64 (x647 - s686))))) Z Z (tm Z) (tm Z) Z) (xm Z Z Z ?_))))
         rcases Bool.eq_false_or_eq_true (decide ((IntKind.wrap .i64 ((IntKind.wrap .u64 (IntKind.wrap .i64 (a + b))) / 2 ^ min (Int.toNat 1) (IntKind.bits .u64))) < (IntKind.wrap .i64 (x647 - s686)))) with hb760 | hb760
         ·replace h := ite_t (dec_t hb760) h
          refine aops_known 209 Z hb760 (xq Z Z Z Z (xq Z Z Z Z (xp (.bool (decide ((IntKind.wrap .i64 (x647 - s686)) < b))) Z Z (pu_int (v := .bool (decide ((IntKind.wrap .i64 (x647 - s686)) < b))) Z Z (tm Z) (tm Z) Z) (xa (.bool (decide ((IntKind.wrap .i64 (x647 - s686)) < b))) Z (pu_pick (b := true) Z (tm Z) (fun _ => (tm Z)) (fun h => nomatch h)) (xe ?_)))))
          subst h
          exact ⟨(), Weak.mkL [0] (by decide) ⟨⟨_, Z, Z⟩, trivial⟩ ⟨tm Z, tm Z, tm Z, tm Z, tm Z, (AEv.le (tm Z) vr), trivial⟩⟩
         ·replace h := ite_f (dec_f hb760) h
          refine aops_known 209 Z hb760 (xn Z Z Z (xn Z Z Z (xn Z Z Z (xa (.bool false) Z (pu_pick (b := false) Z (tm Z) (fun h => nomatch h) (fun _ => (AEv.bool _))) (xe ?_)))))
          subst h
          exact ⟨(), Weak.mkL [0] (by decide) ⟨⟨_, Z, Z⟩, trivial⟩ ⟨tm Z, tm Z, tm Z, tm Z, tm Z, tm Z, trivial⟩⟩
        ·intro _
         have h := h758
         refine aw_cond (b := s757) (tm Z) (fun hb762 => ?_) (fun hb762 => ?_)
         ·replace h := ite_t hb762 h
          refine aw_region (xm Z Z Z (xm Z Z Z (xm Z Z Z (xm Z Z Z (xm Z Z Z ?_)))))
          obtain ⟨r761, r761e, h⟩ := bind_some h
          refine xc Z (op_call (vs := [.vec o0, .i (IntKind.wrap .i64 ((IntKind.wrap .u64 (IntKind.wrap .i64 (a + b))) / 2 ^ min (Int.toNat 1) (IntKind.bits .u64))), .i (IntKind.wrap .i64 (x647 - s686)), .i b, .fn 40 []]) (H := [(o0, .vec 2 (s746.map api.Scored.av))]) Z call79 ⟨(tm Z), (tm Z), (tm Z), (tm Z), (tm Z), trivial⟩ (List.Perm.refl _) (ih r761e o0) ?_)
          rintro _ _ ⟨rfl, rfl⟩
          refine xe (upd_done ?_)
          obtain rfl := some_of h
          exact ⟨[], _, [(o0, .vec 2 (r761.map api.Scored.av))], trivial, vr, Weak.mkL [0] (by decide) ⟨⟨_, Z, Z⟩, trivial⟩ trivial, ⟨Z, Z⟩⟩
         ·replace h := ite_fb hb762 h
          refine aw_skip (upd_done ?_)
          obtain rfl := some_of h
          exact ⟨[], _, [(o0, .vec 2 (s746.map api.Scored.av))], trivial, vr, Weak.mkL [0] (by decide) ⟨⟨_, Z, Z⟩, trivial⟩ trivial, ⟨Z, Z⟩⟩

theorem slices.symMergeCmpFunc_api_Scored_v_charge_ZSet_1.ok {data : List api.Scored} {a : Int} {m : Int} {b : Int} {r : List api.Scored} (h : slices.symMergeCmpFunc_api_Scored_v_charge_ZSet_1 data a m b = some r) (o0 : Nat) : Go.Lift.Spec prog 79 [.vec o0, .i a, .i m, .i b, .fn 40 []] [(o0, .vec 2 (data.map api.Scored.av))] (fun v H => v = .tup [] ∧ H = [(o0, .vec 2 (r.map api.Scored.av))]) := by
 obtain ⟨kk, hk⟩ := fixO_some h
 exact slices.symMergeCmpFunc_api_Scored_v_charge_ZSet_1.rec.ok kk hk o0

theorem slices.stableCmpFunc_api_Scored_v_charge_ZSet_1.ok {data : List api.Scored} {n_ : Int} {r : List api.Scored} (h : slices.stableCmpFunc_api_Scored_v_charge_ZSet_1 data n_ = some r) (o0 : Nat) : Go.Lift.Spec prog 57 [.vec o0, .i n_, .fn 40 []] [(o0, .vec 2 (data.map api.Scored.av))] (fun v H => v = .tup [] ∧ H = [(o0, .vec 2 (r.map api.Scored.av))]) := by
 unfold slices.stableCmpFunc_api_Scored_v_charge_ZSet_1 at h
 refine Go.Lift.Spec.of_body (rs := []) func57 Z Z (nb Z) Z (aw_upd (xr (xa (.i 20) Z (pu_assign Z (AEv.int _ _)) (xe (xr (xm Z Z Z (xa (.i 0) Z (pu_assign Z (AEv.int _ _)) ?_)))))))
 refine xm Z Z Z (xe ?_)
 obtain ⟨s152, s152e, h153⟩ := bind_some h
 refine aw_meet (ν := Unit) (fun v => [(0, .vec o0), (1, .i n_), (2, .fn 40 []), (6, .i 20), (7, .i s152.1)]) (fun v => [(o0, .vec 2 (s152.2.map api.Scored.av))]) ?_ ?_
 ·have h := s152e
  refine aw_block (aw_while (σ := slices.stableCmpFunc_api_Scored_v_charge_ZSet_1.S0) (ν := Unit) (slices.stableCmpFunc_api_Scored_v_charge_ZSet_1.body0 n_) (fun s161 v => [(0, .vec o0), (1, .i n_), (2, .fn 40 []), (6, .i 20), (7, .i s161.a), (8, .i s161.b)]) (fun s161 v => [(o0, .vec 2 (s161.v.map api.Scored.av))]) ⟨0, 20, data⟩ () _ h (Weak.mkL [0] (by decide) ⟨⟨_, Z, Z⟩, trivial⟩ ⟨tm Z, tm Z, tm Z, tm Z, tm Z, tm Z, trivial⟩) ?_)
  rintro s161 _ x163 h hx162
  unfold slices.stableCmpFunc_api_Scored_v_charge_ZSet_1.body0 at h
  refine aw_seq (xr (xm Z Z Z (xm Z Z Z (xa (.bool (decide (s161.b ≤ n_))) Z (pu_int (v := .bool (decide (s161.b ≤ n_))) Z Z (tm Z) (tm Z) Z) (xe (aw_cond (b := decide (s161.b ≤ n_)) (tm Z) (fun hb166 => ?_) (fun hb166 => ?_)))))))
  ·replace h := ite_t (dec_t hb166) h
   refine aw_skip (aw_block (xr (xm Z Z Z (xm Z Z Z (xm Z Z Z (xm Z Z Z ?_))))))
   obtain ⟨r165, r165e, h⟩ := bind_some h
   refine xc Z (op_call (vs := [.vec o0, .i s161.a, .i s161.b, .fn 40 []]) (H := [(o0, .vec 2 (s161.v.map api.Scored.av))]) Z call78 ⟨(tm Z), (tm Z), (tm Z), (tm Z), trivial⟩ (List.Perm.refl _) (slices.insertionSortCmpFunc_api_Scored_v_charge_ZSet_1.ok r165e o0) ?_)
   rintro _ _ ⟨rfl, rfl⟩
   refine xe (xr (xm Z Z Z (xm Z Z Z (xe (aw_region (xm Z Z Z (xm Z Z Z (xa (.i (IntKind.wrap .i64 (s161.b + 20))) Z (pu_int (v := .i (IntKind.wrap .i64 (s161.b + 20))) Z Z (tm Z) (tm Z) Z) ?_))))))))
   refine xm Z Z Z (xe ?_)
   obtain rfl := some_of h
   exact ⟨_, (), Z, Weak.mkL [0] (by decide) ⟨⟨_, Z, Z⟩, trivial⟩ ⟨tm Z, tm Z, tm Z, tm Z, tm Z, (AEv.le (tm Z) vr), trivial⟩⟩
  ·replace h := ite_f (dec_f hb166) h
   refine aw_exit ?_
   obtain rfl := some_of h
   have h := congrArg some (hx162 _ rfl)
   obtain rfl := some_of h
   exact ⟨(), Weak.mkL [0] (by decide) ⟨⟨_, Z, Z⟩, trivial⟩ ⟨tm Z, tm Z, tm Z, tm Z, tm Z, trivial⟩⟩
 ·intro _
  have h := h153
  refine xr (xm Z Z Z (xm Z Z Z (xm Z Z Z (xm Z Z Z ?_))))
  obtain ⟨r167, r167e, h⟩ := bind_some h
  refine xc Z (op_call (vs := [.vec o0, .i s152.1, .i n_, .fn 40 []]) (H := [(o0, .vec 2 (s152.2.map api.Scored.av))]) Z call78 ⟨(tm Z), (tm Z), (tm Z), (tm Z), trivial⟩ (List.Perm.refl _) (slices.insertionSortCmpFunc_api_Scored_v_charge_ZSet_1.ok r167e o0) ?_)
  rintro _ _ ⟨rfl, rfl⟩
  refine xe (aw_block (aw_while (σ := slices.stableCmpFunc_api_Scored_v_charge_ZSet_1.S2) (ν := Unit) (slices.stableCmpFunc_api_Scored_v_charge_ZSet_1.body2 n_) (fun s240 v => [(0, .vec o0), (1, .i n_), (2, .fn 40 []), (6, .i s240.blockSize)]) (fun s240 v => [(o0, .vec 2 (s240.v.map api.Scored.av))]) ⟨20, r167⟩ () _ h (Weak.mkL [0] (by decide) ⟨⟨_, Z, Z⟩, trivial⟩ ⟨tm Z, tm Z, tm Z, tm Z, trivial⟩) ?_))
  rintro s240 _ x242 h hx241
  unfold slices.stableCmpFunc_api_Scored_v_charge_ZSet_1.body2 at h
  refine aw_seq (xr (xm Z Z Z (xm Z Z Z (xa (.bool (decide (s240.blockSize < n_))) Z (pu_int (v := .bool (decide (s240.blockSize < n_))) Z Z (tm Z) (tm Z) Z) (xe (aw_cond (b := decide (s240.blockSize < n_)) (tm Z) (fun hb278 => ?_) (fun hb278 => ?_)))))))
  ·replace h := ite_t (dec_t hb278) h
   refine aw_skip (aw_block (xr (xm Z Z Z (xa (.i (IntKind.wrap .i64 (2 * s240.blockSize))) Z (pu_int (v := .i (IntKind.wrap .i64 (2 * s240.blockSize))) Z Z (AEv.int _ _) (tm Z) Z) (xa (.i 0) Z (pu_assign Z (AEv.int _ _)) (xm Z Z Z (xe ?_)))))))
   obtain ⟨s256, s256e, h257⟩ := bind_some h
   refine aw_meet (ν := Unit) (fun v => [(0, .vec o0), (1, .i n_), (2, .fn 40 []), (6, .i s240.blockSize), (7, .i s256.1)]) (fun v => [(o0, .vec 2 (s256.2.map api.Scored.av))]) ?_ ?_
   ·have h := s256e
    refine aw_block (aw_while (σ := slices.stableCmpFunc_api_Scored_v_charge_ZSet_1.S4) (ν := Unit) (slices.stableCmpFunc_api_Scored_v_charge_ZSet_1.body4 n_ s240) (fun s265 v => [(0, .vec o0), (1, .i n_), (2, .fn 40 []), (6, .i s240.blockSize), (7, .i s265.a), (8, .i s265.b)]) (fun s265 v => [(o0, .vec 2 (s265.v.map api.Scored.av))]) ⟨0, IntKind.wrap .i64 (2 * s240.blockSize), s240.v⟩ () _ h (Weak.mkL [0] (by decide) ⟨⟨_, Z, Z⟩, trivial⟩ ⟨tm Z, tm Z, tm Z, tm Z, tm Z, (AEv.le (tm Z) vr), trivial⟩) ?_)
    rintro s265 _ x267 h hx266
    unfold slices.stableCmpFunc_api_Scored_v_charge_ZSet_1.body4 at h
    refine aw_seq (xr (xm Z Z Z (xm Z Z Z (xa (.bool (decide (s265.b ≤ n_))) Z (pu_int (v := .bool (decide (s265.b ≤ n_))) Z Z (tm Z) (tm Z) Z) (xe (aw_cond (b := decide (s265.b ≤ n_)) (tm Z) (fun hb270 => ?_) (fun hb270 => ?_)))))))
    ·replace h := ite_t (dec_t hb270) h
     refine aw_skip (aw_block (xr (xm Z Z Z (xm Z Z Z (xm Z Z Z (xm Z Z Z (xa (.i (IntKind.wrap .i64 (s265.a + s240.blockSize))) Z (pu_int (v := .i (IntKind.wrap .i64 (s265.a + s240.blockSize))) Z Z (tm Z) (tm Z) Z) (xm Z Z Z ?_))))))))
     refine xm Z Z Z ?_
     obtain ⟨r269, r269e, h⟩ := bind_some h
     refine xc Z (op_call (vs := [.vec o0, .i s265.a, .i (IntKind.wrap .i64 (s265.a + s240.blockSize)), .i s265.b, .fn 40 []]) (H := [(o0, .vec 2 (s265.v.map api.Scored.av))]) Z call79 ⟨(tm Z), (tm Z), (tm Z), (tm Z), (tm Z), trivial⟩ (List.Perm.refl _) (slices.symMergeCmpFunc_api_Scored_v_charge_ZSet_1.ok r269e o0) ?_)
     rintro _ _ ⟨rfl, rfl⟩
     refine xe (xr (xm Z Z Z (xm Z Z Z (xe (aw_region (xm Z Z Z (xm Z Z Z (xa (.i (IntKind.wrap .i64 (2 * s240.blockSize))) Z (pu_int (v := .i (IntKind.wrap .i64 (2 * s240.blockSize))) Z Z (AEv.int _ _) (tm Z) Z) ?_))))))))
     refine xa (.i (IntKind.wrap .i64 (s265.b + (IntKind.wrap .i64 (2 * s240.blockSize))))) Z (pu_int (v := .i (IntKind.wrap .i64 (s265.b + (IntKind.wrap .i64 (2 * s240.blockSize))))) Z Z (tm Z) (tm Z) Z) (xm Z Z Z (xe ?_))
     obtain rfl := some_of h
     exact ⟨_, (), Z, Weak.mkL [0] (by decide) ⟨⟨_, Z, Z⟩, trivial⟩ ⟨tm Z, tm Z, tm Z, tm Z, tm Z, (AEv.le (tm Z) vr), trivial⟩⟩
    ·replace h := ite_f (dec_f hb270) h
     refine aw_exit ?_
     obtain rfl := some_of h
     have h := congrArg some (hx266 _ rfl)
     obtain rfl := some_of h
     exact ⟨(), Weak.mkL [0] (by decide) ⟨⟨_, Z, Z⟩, trivial⟩ ⟨tm Z, tm Z, tm Z, tm Z, tm Z, trivial⟩⟩
   ·intro _
    have h := h257
    obtain ⟨s273, s273e, h274⟩ := bind_some h
    refine aw_meet (ν := Unit) (fun v => [(0, .vec o0), (1, .i n_), (2, .fn 40 []), (6, .i s240.blockSize)]) (fun v => [(o0, .vec 2 (s273.map api.Scored.av))]) ?_ ?_
    ·have h := s273e
     refine xr (xm Z Z Z (xm Z Z Z (xa (.i (IntKind.wrap .i64 (s256.1 + s240.blockSize))) Z (pu_int (v := .i (IntKind.wrap .i64 (s256.1 + s240.blockSize))) Z Z (tm Z) (tm Z) Z) (xm Z Z Z (xe (xr (xm Z Z Z ?_)))))))
     refine xm Z Z Z (xa (.bool (decide ((IntKind.wrap .i64 (s256.1 + s240.blockSize)) < n_))) Z (pu_int (v := .bool (decide ((IntKind.wrap .i64 (s256.1 + s240.blockSize)) < n_))) Z Z (tm Z) (tm Z) Z) (xe (aw_cond (b := decide ((IntKind.wrap .i64 (s256.1 + s240.blockSize)) < n_)) (tm Z) (fun hb277 => ?_) (fun hb277 => ?_))))
     ·replace h := ite_t (dec_t hb277) h
      refine aw_region (xm Z Z Z (xm Z Z Z (xm Z Z Z (xm Z Z Z (xm Z Z Z ?_)))))
      obtain ⟨r276, r276e, h⟩ := bind_some h
      refine xc Z (op_call (vs := [.vec o0, .i s256.1, .i (IntKind.wrap .i64 (s256.1 + s240.blockSize)), .i n_, .fn 40 []]) (H := [(o0, .vec 2 (s256.2.map api.Scored.av))]) Z call79 ⟨(tm Z), (tm Z), (tm Z), (tm Z), (tm Z), trivial⟩ (List.Perm.refl _) (slices.symMergeCmpFunc_api_Scored_v_charge_ZSet_1.ok r276e o0) ?_)
      rintro _ _ ⟨rfl, rfl⟩
      refine xe ?_
      obtain rfl := some_of h
      exact ⟨(), Weak.mkL [0] (by decide) ⟨⟨_, Z, Z⟩, trivial⟩ ⟨tm Z, tm Z, tm Z, tm Z, trivial⟩⟩
     ·replace h := ite_f (dec_f hb277) h
      refine aw_skip ?_
      obtain rfl := some_of h
      exact ⟨(), Weak.mkL [0] (by decide) ⟨⟨_, Z, Z⟩, trivial⟩ ⟨tm Z, tm Z, tm Z, tm Z, trivial⟩⟩
    ·intro _
     have h := h274
     refine aw_region (xm Z Z Z (xa (.i (IntKind.wrap .i64 (s240.blockSize * 2))) Z (pu_int (v := .i (IntKind.wrap .i64 (s240.blockSize * 2))) Z Z (tm Z) (AEv.int _ _) Z) (xm Z Z Z (xe ?_))))
     obtain rfl := some_of h
     exact ⟨_, (), Z, Weak.mkL [0] (by decide) ⟨⟨_, Z, Z⟩, trivial⟩ ⟨tm Z, tm Z, tm Z, (AEv.le (tm Z) vr), trivial⟩⟩
  ·replace h := ite_f (dec_f hb278) h
   refine aw_exit ?_
   obtain rfl := some_of h
   have h := congrArg some (hx241 _ rfl)
   refine upd_done ?_
   obtain rfl := some_of h
   exact ⟨[], _, [(o0, .vec 2 (s240.v.map api.Scored.av))], trivial, vr, Weak.mkL [0] (by decide) ⟨⟨_, Z, Z⟩, trivial⟩ trivial, ⟨Z, Z⟩⟩

theorem slices.SortStableFunc_api_Scored_v_charge_ZSet_1.ok {x_ : List api.Scored} {r : List api.Scored} (h : slices.SortStableFunc_api_Scored_v_charge_ZSet_1 x_ = some r) (o0 : Nat) : Go.Lift.Spec prog 39 [.vec o0, .fn 40 []] [(o0, .vec 2 (x_.map api.Scored.av))] (fun v H => v = .tup [] ∧ H = [(o0, .vec 2 (r.map api.Scored.av))]) := by
 unfold slices.SortStableFunc_api_Scored_v_charge_ZSet_1 at h
 refine Go.Lift.Spec.of_body (rs := []) func39 Z Z (nb Z) Z (aw_upd (aw_region (xm Z Z Z (xm Z Z Z (xc Z (op_lenVecM (i := 0) Z underlying24 (tm Z) Z (xm Z Z Z ?_)))))))
 obtain ⟨r2, r2e, h⟩ := bind_some h
 refine xc Z (op_call (vs := [.vec o0, .i (x_.length : Int), .fn 40 []]) (H := [(o0, .vec 2 (x_.map api.Scored.av))]) Z call57 ⟨(tm Z), (tm Z), (tm Z), trivial⟩ (List.Perm.refl _) (slices.stableCmpFunc_api_Scored_v_charge_ZSet_1.ok r2e o0) ?_)
 rintro _ _ ⟨rfl, rfl⟩
 refine xe (upd_done ?_)
 obtain rfl := some_of h
 exact ⟨[], _, [(o0, .vec 2 (r2.map api.Scored.av))], trivial, vr, Weak.mkL [0] (by decide) ⟨⟨_, Z, Z⟩, trivial⟩ trivial, ⟨Z, Z⟩⟩

theorem charge.ZSet_2.ok {a : api.Scored} {b : api.Scored} {r : Bool} (h : charge.ZSet_2 a b = some r) : Go.Lift.Spec prog 42 [.agg [.str a.Member, .i a.Score], .agg [.str b.Member, .i b.Score]] [] (fun v H => v = .bool r ∧ H = []) := by
 unfold charge.ZSet_2 at h
 refine Go.Lift.Spec.of_body (rs := [.tmp 4]) func42 Z Z (nb Z) Z (xr (xc Z (op_box (cs := [.str a.Member, .i a.Score]) (v := .agg [.str a.Member, .i a.Score]) Z (tm Z) Z Z ?_)))
 intro p3
 refine xc Z (op_box (cs := [.str b.Member, .i b.Score]) (v := .agg [.str b.Member, .i b.Score]) Z (tm Z) Z Z ?_)
 intro p4
 refine xa (.bool false) Z (pu_assign Z (AEv.bool _)) (xe (xr (xa (.ptr p3 0) Z (fa Z underlying64 Z sizeOf9 Z Z Z) (xc Z (op_load1 (i := 1) Z isAgg9 (tm Z) Z Z (xa (.ptr p4 0) Z (fa Z underlying64 Z sizeOf9 Z Z Z) (xc Z (op_load1 (i := 0) Z isAgg9 (tm Z) Z Z (xa (.bool (decide (a.Member = b.Member))) Z (pu_str (v := .bool (decide (a.Member = b.Member))) Z Z (tm Z) (tm Z) Z) (xm Z Z Z ?_))))))))))
 refine xe (aw_ret ?_)
 obtain rfl := some_of h
 exact ⟨[.bool (decide (a.Member = b.Member))], _, [], ⟨(tm Z), trivial⟩, vr, Weak.mkL [] (by decide) trivial trivial, ⟨Z, Z⟩⟩

theorem slices.CompactFunc_api_Scored_v_charge_ZSet_2.ok {s_ : List api.Scored} {r : List api.Scored} (h : slices.CompactFunc_api_Scored_v_charge_ZSet_2 s_ = some r) (o0 : Nat) : Go.Lift.Spec prog 41 [.vec o0, .fn 42 []] [(o0, .vec 2 (s_.map api.Scored.av))] (fun v H => ∃ n0, v = .vec n0 ∧ H = [(n0, .vec 2 (r.map api.Scored.av))]) := by
 unfold slices.CompactFunc_api_Scored_v_charge_ZSet_2 at h
 refine Go.Lift.Spec.of_body (rs := [.tmp 4]) func41 Z Z (nb Z) Z (xr (xa (.sl .full 2 (([] : List api.Scored).map api.Scored.av)) Z (pu_assign Z (AEv.nil 2 (by decide))) (xe (aw_seq (xr (xm Z Z Z (xc Z (op_lenVecM (i := 0) Z underlying24 (tm Z) Z ?_))))))))
 refine xa (.bool (decide ((s_.length : Int) < 2))) Z (pu_int (v := .bool (decide ((s_.length : Int) < 2))) Z Z (tm Z) (AEv.int _ _) Z) (xe (aw_cond (b := decide ((s_.length : Int) < 2)) (tm Z) (fun hb2580 => ?_) (fun hb2580 => ?_)))
 ·replace h := ite_t (dec_t hb2580) h
  refine xr (xm Z Z Z (xm Z Z Z (xe (aw_ret ?_))))
  obtain rfl := some_of h
  exact ⟨[.vec o0], _, [(o0, .vec 2 (s_.map api.Scored.av))], ⟨(tm Z), trivial⟩, vr, Weak.mkL [0] (by decide) ⟨⟨_, Z, Z⟩, trivial⟩ trivial, ⟨o0, Z, Z⟩⟩
 ·replace h := ite_f (dec_f hb2580) h
  refine aw_skip ?_
  obtain ⟨s2579, s2579e, h1933⟩ := bind_some h
  refine aw_join (σ := Unit) (ν := Unit) (fun u v => [(0, .vec o0)]) (fun u v => [(o0, .vec 2 (s_.map api.Scored.av))]) (fun u => s2579 = .inl u) ?_ ?_
  ·intro s1932
   intro _
   rintro rfl
   have h := onSum_inl h1933
   refine xr (xm Z Z Z (xm Z Z Z (xe (aw_ret ?_))))
   obtain rfl := some_of h
   exact ⟨[.vec o0], _, [(o0, .vec 2 (s_.map api.Scored.av))], ⟨(tm Z), trivial⟩, vr, Weak.mkL [0] (by decide) ⟨⟨_, Z, Z⟩, trivial⟩ trivial, ⟨o0, Z, Z⟩⟩
  ·have h := s2579e
   refine xr (xa (.i 1) Z (pu_assign Z (AEv.int _ _)) (xe (aw_block (aw_while (σ := slices.CompactFunc_api_Scored_v_charge_ZSet_2.S0) (ν := Unit) (slices.CompactFunc_api_Scored_v_charge_ZSet_2.body0 s_) (fun s2361 v => [(0, .vec o0), (1, .fn 42 []), (5, .i s2361.k)]) (fun s2361 v => [(o0, .vec 2 (s_.map api.Scored.av))]) ⟨1⟩ () _ h (Weak.mkL [0] (by decide) ⟨⟨_, Z, Z⟩, trivial⟩ ⟨tm Z, tm Z, tm Z, trivial⟩) ?_))))
   rintro s2361 _ x2363 h hx2362
   unfold slices.CompactFunc_api_Scored_v_charge_ZSet_2.body0 at h
   refine aw_seq (xr (xm Z Z Z (xm Z Z Z (xc Z (op_lenVecM (i := 0) Z underlying24 (tm Z) Z (xa (.bool (decide (s2361.k < (s_.length : Int)))) Z (pu_int (v := .bool (decide (s2361.k < (s_.length : Int)))) Z Z (tm Z) (tm Z) Z) (xe (aw_cond (b := decide (s2361.k < (s_.length : Int))) (tm Z) (fun hb2578 => ?_) (fun hb2578 => ?_)))))))))
   ·replace h := ite_t (dec_t hb2578) h
    refine aw_skip (aw_seq (aw_block (aw_seq ?_)))
    obtain ⟨c2365, h⟩ := need_of h
    obtain ⟨c2366, h⟩ := need_of h
    obtain ⟨c2367, h⟩ := need_of h
    obtain ⟨c2368, h⟩ := need_of h
    obtain ⟨r2369, r2369e, h⟩ := bind_some h
    refine aw_planR (by decide +kernel) [[], [], [], [(0, 0, false)], [(0, 0, false)], [], [], [], [(0, 0, false)], [(0, 0, false)], []] [[]] [[[(o0, .vec 2 (s_.map api.Scored.av))]]] [.fn 42 [], .vec o0, .i s2361.k, .eptr o0 (s2361.k).toNat 0, .agg [.str (ix s_ s2361.k).Member, .i (ix s_ s2361.k).Score], .vec o0, .i s2361.k, .i (IntKind.wrap .i64 (s2361.k - 1)), .eptr o0 (IntKind.wrap .i64 (s2361.k - 1)).toNat 0, .agg [.str (ix s_ (IntKind.wrap .i64 (s2361.k - 1))).Member, .i (ix s_ (IntKind.wrap .i64 (s2361.k - 1))).Score], .bool r2369] (by decide +kernel) Z Z ?_ ?_
    ·exact ⟨ym Z Z Z, ym Z Z Z, ym Z Z Z, stepg_plain Z (op_indexAddrVecM Z underlying24 sizeOf64 (tm Z) (j := 0) Z (tm Z) c2365 ⟨Z, Z⟩), stepg_plain Z (op_loadENM (i := 0) (sz := 2) Z isAgg64 sizeOf64 (tm Z) Z c2366 (by decide) Z ⟨Z, Z⟩), ym Z Z Z, ym Z Z Z, yp Z (pu_int (v := .i (IntKind.wrap .i64 (s2361.k - 1))) Z Z (tm Z) (AEv.int _ _) Z), stepg_plain Z (op_indexAddrVecM Z underlying24 sizeOf64 (tm Z) (j := 0) Z (tm Z) c2367 ⟨Z, Z⟩), stepg_plain Z (op_loadENM (i := 0) (sz := 2) Z isAgg64 sizeOf64 (tm Z) Z c2368 (by decide) Z ⟨Z, Z⟩), stepg_plain Z (op_callV (vs := [.agg [.str (ix s_ s2361.k).Member, .i (ix s_ s2361.k).Score], .agg [.str (ix s_ (IntKind.wrap .i64 (s2361.k - 1))).Member, .i (ix s_ (IntKind.wrap .i64 (s2361.k - 1))).Score]]) (H := []) Z (tm Z) call42 ⟨(tm Z), (tm Z), trivial⟩ (R := []) (List.Perm.refl _) (charge.ZSet_2.ok r2369e) (by rintro _ _ ⟨rfl, rfl⟩; exact ⟨Z, Z⟩)), trivial⟩
    refine aw_cond (b := r2369) (tm Z) (fun hb2577 => ?_) (fun hb2577 => ?_)
    ·replace h := ite_t hb2577 h
     refine xr (xm Z Z Z (xm Z Z Z ?_))
     obtain ⟨c2370, h⟩ := need_of h
     refine xc Z (op_sliceVecM Z underlying24 sizeOf64 (tm Z) (q := 0) Z ⟨_, (tm Z)⟩ Z c2370 (xm Z Z Z (xe ?_)))
     obtain ⟨s2470, s2470e, h2471⟩ := bind_some h
     refine aw_meet (ν := Unit) (fun v => [(0, .vec o0), (5, .i s2470.1)]) (fun v => [(o0, .vec 2 (s2470.2.map api.Scored.av))]) ?_ ?_
     ·have h := s2470e
      refine xr (xa (.i 1) Z (pu_assign Z (AEv.int _ _)) (xe (aw_block (aw_while (σ := slices.CompactFunc_api_Scored_v_charge_ZSet_2.S2) (ν := Unit) (slices.CompactFunc_api_Scored_v_charge_ZSet_2.body2 s2361 s_) (fun s2537 v => [(0, .vec o0), (1, .fn 42 []), (5, .i s2537.k), (6, .vsl o0 (Int.toNat s2361.k) (Int.toNat (s_.length : Int))), (7, .i s2537.k2)]) (fun s2537 v => [(o0, .vec 2 (s2537.v.map api.Scored.av))]) ⟨s2361.k, 1, s_⟩ () _ h (Weak.mkL [0] (by decide) ⟨⟨_, Z, Z⟩, trivial⟩ ⟨tm Z, tm Z, tm Z, tm Z, tm Z, trivial⟩) ?_))))
      rintro s2537 _ x2539 h hx2538
      unfold slices.CompactFunc_api_Scored_v_charge_ZSet_2.body2 at h
      refine aw_seq (xr (xm Z Z Z (xm Z Z Z ?_)))
      obtain ⟨c2541, h⟩ := need_of h
      refine xa (.i ((s_.length : Int) - s2361.k)) Z (pu_lenVslM Z underlying24 (tm Z) c2541) (xa (.bool (decide (s2537.k2 < ((s_.length : Int) - s2361.k)))) Z (pu_int (v := .bool (decide (s2537.k2 < ((s_.length : Int) - s2361.k)))) Z Z (tm Z) (tm Z) Z) (xe (aw_cond (b := decide (s2537.k2 < ((s_.length : Int) - s2361.k))) (tm Z) (fun hb2571 => ?_) (fun hb2571 => ?_))))
      ·replace h := ite_t (dec_t hb2571) h
       refine aw_skip ?_
       obtain ⟨s2555, s2555e, h2556⟩ := bind_some h
       refine aw_meet (ν := Unit) (fun v => [(0, .vec o0), (1, .fn 42 []), (5, .i s2555.1), (6, .vsl o0 (Int.toNat s2361.k) (Int.toNat (s_.length : Int))), (7, .i s2537.k2)]) (fun v => [(o0, .vec 2 (s2555.2.map api.Scored.av))]) ?_ ?_
       ·have h := s2555e
        refine aw_block (aw_seq ?_)
        obtain ⟨c2558, h⟩ := need_of h
        obtain ⟨c2559, h⟩ := need_of h
        obtain ⟨c2560, h⟩ := need_of h
        obtain ⟨c2561, h⟩ := need_of h
        obtain ⟨c2562, h⟩ := need_of h
        obtain ⟨c2563, h⟩ := need_of h
        obtain ⟨r2564, r2564e, h⟩ := bind_some h
        refine aw_planR (by decide +kernel) [[], [], [], [(0, 0, false)], [(0, 0, false)], [], [], [], [(0, 0, false)], [(0, 0, false)], [], []] [[]] [[[(o0, .vec 2 (s2537.v.map api.Scored.av))]]] [.fn 42 [], .vsl o0 (Int.toNat s2361.k) (Int.toNat (s_.length : Int)), .i s2537.k2, .eptr o0 (s2361.k + s2537.k2).toNat 0, .agg [.str (ix s2537.v (s2361.k + s2537.k2)).Member, .i (ix s2537.v (s2361.k + s2537.k2)).Score], .vsl o0 (Int.toNat s2361.k) (Int.toNat (s_.length : Int)), .i s2537.k2, .i (IntKind.wrap .i64 (s2537.k2 - 1)), .eptr o0 (s2361.k + (IntKind.wrap .i64 (s2537.k2 - 1))).toNat 0, .agg [.str (ix s2537.v (s2361.k + (IntKind.wrap .i64 (s2537.k2 - 1)))).Member, .i (ix s2537.v (s2361.k + (IntKind.wrap .i64 (s2537.k2 - 1)))).Score], .bool r2564, .bool (!r2564)] (by decide +kernel) Z Z ?_ ?_
        ·exact ⟨ym Z Z Z, ym Z Z Z, ym Z Z Z, stepg_plain Z (op_indexAddrVslM Z underlying24 sizeOf64 (tm Z) (j := 0) Z (tm Z) c2558 c2559 ⟨Z, Z⟩), stepg_plain Z (op_loadENM (i := 0) (sz := 2) Z isAgg64 sizeOf64 (tm Z) Z c2560 (by decide) Z ⟨Z, Z⟩), ym Z Z Z, ym Z Z Z, yp Z (pu_int (v := .i (IntKind.wrap .i64 (s2537.k2 - 1))) Z Z (tm Z) (AEv.int _ _) Z), stepg_plain Z (op_indexAddrVslM Z underlying24 sizeOf64 (tm Z) (j := 0) Z (tm Z) c2561 c2562 ⟨Z, Z⟩), stepg_plain Z (op_loadENM (i := 0) (sz := 2) Z isAgg64 sizeOf64 (tm Z) Z c2563 (by decide) Z ⟨Z, Z⟩), stepg_plain Z (op_callV (vs := [.agg [.str (ix s2537.v (s2361.k + s2537.k2)).Member, .i (ix s2537.v (s2361.k + s2537.k2)).Score], .agg [.str (ix s2537.v (s2361.k + (IntKind.wrap .i64 (s2537.k2 - 1)))).Member, .i (ix s2537.v (s2361.k + (IntKind.wrap .i64 (s2537.k2 - 1)))).Score]]) (H := []) Z (tm Z) call42 ⟨(tm Z), (tm Z), trivial⟩ (R := []) (List.Perm.refl _) (charge.ZSet_2.ok r2564e) (by rintro _ _ ⟨rfl, rfl⟩; exact ⟨Z, Z⟩)), yp Z (pu_not Z (tm Z)), trivial⟩
        refine aw_cond (b := (!r2564)) (tm Z) (fun hb2570 => ?_) (fun hb2570 => ?_)
        ·replace h := ite_t hb2570 h
         refine xr (xm Z Z Z (xm Z Z Z (xm Z Z Z (xm Z Z Z ?_))))
         obtain ⟨c2565, h⟩ := need_of h
         obtain ⟨c2566, h⟩ := need_of h
         refine xc Z (op_indexAddrVslM Z underlying24 sizeOf64 (tm Z) (j := 0) Z (tm Z) c2565 c2566 ?_)
         obtain ⟨c2567, h⟩ := need_of h
         refine xc Z (op_loadENM (i := 0) (sz := 2) Z isAgg64 sizeOf64 (tm Z) Z c2567 (by decide) Z ?_)
         obtain ⟨c2568, h⟩ := need_of h
         refine xc Z (op_indexAddrVecM Z underlying24 sizeOf64 (tm Z) (j := 0) Z (tm Z) c2568 ?_)
         obtain ⟨c2569, h⟩ := need_of h
         refine ac0 Z Z (op_storeEM (i := 0) (sz := 2) (y' := (ix s2537.v (s2361.k + s2537.k2))) Z sizeOf64 (tm Z) (v := .agg [.str (ix s2537.v (s2361.k + s2537.k2)).Member, .i (ix s2537.v (s2361.k + s2537.k2)).Score]) (tm Z) Z c2569 Z Z (by decide) Z (xe (aw_region (xm Z Z Z (xa (.i (IntKind.wrap .i64 (s2537.k + 1))) Z (pu_int (v := .i (IntKind.wrap .i64 (s2537.k + 1))) Z Z (tm Z) (AEv.int _ _) Z) (xm Z Z Z (xe ?_)))))))
         obtain rfl := some_of h
         exact ⟨(), Weak.mkL [0] (by decide) ⟨⟨_, Z, Z⟩, trivial⟩ ⟨tm Z, tm Z, (AEv.le (tm Z) vr), tm Z, tm Z, trivial⟩⟩
        ·replace h := ite_fb hb2570 h
         refine aw_skip ?_
         obtain rfl := some_of h
         exact ⟨(), Weak.mkL [0] (by decide) ⟨⟨_, Z, Z⟩, trivial⟩ ⟨tm Z, tm Z, tm Z, tm Z, tm Z, trivial⟩⟩
       ·intro _
        have h := h2556
        refine aw_region (xm Z Z Z (xa (.i (IntKind.wrap .i64 (s2537.k2 + 1))) Z (pu_int (v := .i (IntKind.wrap .i64 (s2537.k2 + 1))) Z Z (tm Z) (AEv.int _ _) Z) (xm Z Z Z (xe ?_))))
        obtain rfl := some_of h
        exact ⟨_, (), Z, Weak.mkL [0] (by decide) ⟨⟨_, Z, Z⟩, trivial⟩ ⟨tm Z, tm Z, tm Z, tm Z, (AEv.le (tm Z) vr), trivial⟩⟩
      ·replace h := ite_f (dec_f hb2571) h
       refine aw_exit ?_
       obtain rfl := some_of h
       have h := congrArg some (hx2538 _ rfl)
       obtain rfl := some_of h
       exact ⟨(), Weak.mkL [0] (by decide) ⟨⟨_, Z, Z⟩, trivial⟩ ⟨tm Z, tm Z, trivial⟩⟩
     ·intro _
      have h := h2471
      refine xr (xm Z Z Z (xm Z Z Z ?_))
      obtain ⟨c2572, h⟩ := need_of h
      refine xc Z (op_sliceVecM Z underlying24 sizeOf64 (tm Z) (q := 0) Z ⟨_, (tm Z)⟩ Z c2572 ?_)
      obtain ⟨c2573, h⟩ := need_of h
      refine ac0 Z Z (op_clearVM (q := 0) api.Scored.av (({ Member := ([] : List UInt8), Score := 0 } : api.Scored) : api.Scored) Z underlying24 zeroValue64 Z Z (tm Z) Z c2573 (xe (xr (xm Z Z Z (xm Z Z Z ?_)))))
      obtain ⟨c2574, h⟩ := need_of h
      refine xc Z (op_sliceVecM Z underlying24 sizeOf64 (tm Z) (q := 0) Z Z ⟨_, (tm Z)⟩ c2574 (xm Z Z Z (xe ?_)))
      obtain ⟨c2575, h⟩ := need_of h
      refine aw_shrinkM 4 0 (tm Z) Z c2575 fun p2576 => (aw_ret ?_)
      obtain rfl := some_of h
      have h := congrArg some (hx2362 _ rfl)
      obtain rfl := some_of h
      have h := onSum_inr h1933
      obtain rfl := some_of h
      exact ⟨[.vec p2576], _, [(p2576, .vec 2 ((List.take (Int.toNat s2470.1) (clrL s2470.2 (Int.toNat s2470.1) (Int.toNat (s2470.2.length : Int)) (({ Member := ([] : List UInt8), Score := 0 } : api.Scored) : api.Scored))).map api.Scored.av))], ⟨(tm Z), trivial⟩, vr, Weak.mkL [0] (by decide) ⟨⟨_, Z, Z⟩, trivial⟩ trivial, ⟨p2576, Z, Z⟩⟩
    ·replace h := ite_fb hb2577 h
     refine aw_skip (aw_region (xm Z Z Z (xa (.i (IntKind.wrap .i64 (s2361.k + 1))) Z (pu_int (v := .i (IntKind.wrap .i64 (s2361.k + 1))) Z Z (tm Z) (AEv.int _ _) Z) (xm Z Z Z (xe ?_)))))
     obtain rfl := some_of h
     exact ⟨_, (), Z, Weak.mkL [0] (by decide) ⟨⟨_, Z, Z⟩, trivial⟩ ⟨tm Z, tm Z, (AEv.le (tm Z) vr), trivial⟩⟩
   ·replace h := ite_f (dec_f hb2578) h
    refine aw_exit ?_
    obtain rfl := some_of h
    have h := congrArg some (hx2362 _ rfl)
    exact ⟨(), (), (some_of h).symm, Weak.mkL [0] (by decide) ⟨⟨_, Z, Z⟩, trivial⟩ ⟨tm Z, trivial⟩⟩

def slices.SortFunc_api_Scored.enc (x : api.Scored) : List Value := [Go.Proofs.encStr x.Member, Value.int IntKind.i64 x.Score]

theorem slices.SortFunc_api_Scored.less (a b : List UInt8) (m n : Int) (W : World) : Calls prog 45 #[.agg #[.string ⟨a.toArray⟩, Value.int IntKind.i64 m], .agg #[.string ⟨b.toArray⟩, Value.int IntKind.i64 n]] W fun e w' => e = .returned (.bool (decide (m < n) || (decide (m = n) && strLt a b))) ∧ w' = (W.alloc (.cells #[.string ⟨a.toArray⟩, Value.int IntKind.i64 m] 64)).alloc (.cells #[.string ⟨b.toArray⟩, Value.int IntKind.i64 n] 64) := by
 by_cases h1 : m < n
 ·go_enter func45, ntmps45
  go_wp2
  go_ret
  simp [h1]
 ·by_cases h2 : m = n
  ·go_enter func45, ntmps45
   go_wp2
   go_ret
   simp [h1, h2, strLt]
  ·go_enter func45, ntmps45
   go_wp2
   go_ret
   simp [h1, h2]

theorem slices.SortFunc_api_Scored.closure (x y : api.Scored) (W : World) : Calls prog 44 (#[.agg (slices.SortFunc_api_Scored.enc x).toArray, .agg (slices.SortFunc_api_Scored.enc y).toArray] ++ #[]) W fun e w' => e = .returned (.int .i64 (pairCmp (fun y : api.Scored => y.Score) (fun y : api.Scored => y.Member) x y)) ∧ ∃ q os', w' = Go.Sort.grow (W.drewN q) os' := by
 have hc := slices.SortFunc_api_Scored.less x.Member y.Member x.Score y.Score
 show Calls prog 44 #[.agg (slices.SortFunc_api_Scored.enc x).toArray, .agg (slices.SortFunc_api_Scored.enc y).toArray] W _
 unfold slices.SortFunc_api_Scored.enc Go.Proofs.encStr pairCmp pairLt
 generalize (decide (x.Score < y.Score) || (decide (x.Score = y.Score) && strLt x.Member y.Member)) = r at hc ⊢
 cases r
 ·go_enter func44, ntmps44
  go_wp2_with (go_at_call 45; refine (hc _).mono ?_; rintro e w' ⟨rfl, rfl⟩)
  go_ret
  exact ⟨Z, 0, _, by rw [Go.Sort.alloc_eq_grow, Go.Sort.alloc_eq_grow, Go.Sort.alloc_eq_grow, Go.Sort.alloc_eq_grow, Go.Sort.grow_grow, Go.Sort.grow_grow, Go.Sort.grow_grow]; rfl⟩
 ·go_enter func44, ntmps44
  go_wp2_with (go_at_call 45; refine (hc _).mono ?_; rintro e w' ⟨rfl, rfl⟩)
  go_ret
  exact ⟨Z, 0, _, by rw [Go.Sort.alloc_eq_grow, Go.Sort.alloc_eq_grow, Go.Sort.alloc_eq_grow, Go.Sort.alloc_eq_grow, Go.Sort.grow_grow, Go.Sort.grow_grow, Go.Sort.grow_grow]; rfl⟩

theorem slices.SortFunc_api_Scored.ok {x : List api.Scored} {r : List api.Scored} (h : slices.SortFunc_api_Scored x = some r) (o0 : Nat) : Go.Lift.Spec prog 43 [.vec o0, .fn 44 []] [(o0, .vec 2 (x.map api.Scored.av))] (fun v H => v = .tup [] ∧ H = [(o0, .vec 2 (r.map api.Scored.av))]) := by
 unfold slices.SortFunc_api_Scored at h
 obtain ⟨c, h⟩ := need_of h
 obtain rfl := some_of h
 refine spec_sortF (by decide) slices.SortFunc_api_Scored.enc api.Scored.av (Go.Proofs.ltOf (pairCmp (fun y : api.Scored => y.Score) (fun y : api.Scored => y.Member))) (fun _ => Z) (fun x gh w c v hc h => ?_) (fun x gh w c hc => ?_) (fun _ => Z) (fun blk off cap d w hH hb hsz => ?_) (fun p cap fv w => Go.Proofs.AnyF.slices_SortFunc_none Go.Proofs.Tryz.sortF43 p cap fv w) (fun d hp hs => pair_unique (fun y : api.Scored => y.Score) (fun y : api.Scored => y.Member) (fun a b h1 h2 => by cases a; cases b; cases h1; cases h2; exact Eq.refl _) hp hs) c o0
 ·rcases c with _ | _ | c
  ·cases h; rfl
  ·cases h; rfl
  ·omega
 ·rcases c with _ | _ | c
  ·constructor
  ·constructor
  ·omega
 ·exact Go.Proofs.AnyQ.slices_SortFunc Go.Proofs.Tryz.sortF43 2 isAgg64 sizeOf64 slices.SortFunc_api_Scored.enc (fun _ => Z) (fun x v hv => by simp [slices.SortFunc_api_Scored.enc] at hv; rcases hv with h1 | h1 <;> (subst h1; exact Eq.refl _)) (pairCmp (fun y : api.Scored => y.Score) (fun y : api.Scored => y.Member)) (swo_pair _ _) 44 #[] blk off cap d w (enters_of func44 (by kernel_rfl) Z) (fun _ _ _ _ x y => slices.SortFunc_api_Scored.closure x y _) hH hb hsz

theorem charge.ZSet.ok {l : List api.Scored} {r : api.Value} (h : charge.ZSet l = some r) : Go.Lift.Spec prog 13 [.sl .no 2 (l.map api.Scored.av)] [] (fun v H => v = .agg (api.Value.ct .full .full .no ({ Kind := r.Kind, Text := r.Text, List_ := r.List_, Hash := r.Hash, ZSet := r.ZSet } : api.Value)) ∧ H = []) := by
 unfold charge.ZSet at h
 refine Go.Lift.Spec.of_body (rs := [.cell 2 26]) func13 Z Z (nb Z) Z (xr (xc Z (op_alloc (cs := (api.Value.ct .full .full .full ({ Kind := 0, Text := ([] : List UInt8), List_ := ([] : List (List UInt8)), Hash := ([] : List api.Field), ZSet := ([] : List api.Scored) } : api.Value))) (v := .agg (api.Value.ct .full .full .full ({ Kind := 0, Text := ([] : List UInt8), List_ := ([] : List (List UInt8)), Hash := ([] : List api.Field), ZSet := ([] : List api.Scored) } : api.Value))) Z zeroValue26 Z Z Z ?_)))
 intro p10
 refine xe (xr (xm Z Z Z ?_))
 obtain ⟨r11, r11e, h⟩ := bind_some h
 refine xc Z (op_call (vs := [.sl .no 2 (l.map api.Scored.av)]) (H := []) Z call37 ⟨(tm Z), trivial⟩ (List.Perm.refl _) (slices.Clone_api_Scored.ok r11e) ?_)
 rintro _ _ ⟨t12, rfl, rfl⟩
 refine xm Z Z Z (xe (xr (xm Z Z Z ?_)))
 obtain ⟨r13, r13e, h⟩ := bind_some h
 refine xc Z (op_call (vs := [.vec t12]) (H := [(t12, .vec 2 (r11.map api.Scored.av))]) Z call38 ⟨(tm Z), trivial⟩ (List.Perm.refl _) (slices.Reverse_api_Scored_v.ok r13e t12) ?_)
 rintro _ _ ⟨rfl, rfl⟩
 refine xe (xr (xm Z Z Z ?_))
 obtain ⟨r14, r14e, h⟩ := bind_some h
 refine xc Z (op_call (vs := [.vec t12, .fn 40 []]) (H := [(t12, .vec 2 (r13.map api.Scored.av))]) Z call39 ⟨(tm Z), (AEv.func _), trivial⟩ (List.Perm.refl _) (slices.SortStableFunc_api_Scored_v_charge_ZSet_1.ok r14e t12) ?_)
 rintro _ _ ⟨rfl, rfl⟩
 refine xe (xr (xm Z Z Z ?_))
 obtain ⟨r15, r15e, h⟩ := bind_some h
 refine xc Z (op_call (vs := [.vec t12, .fn 42 []]) (H := [(t12, .vec 2 (r14.map api.Scored.av))]) Z call41 ⟨(tm Z), (AEv.func _), trivial⟩ (List.Perm.refl _) (slices.CompactFunc_api_Scored_v_charge_ZSet_2.ok r15e t12) ?_)
 rintro _ _ ⟨t16, rfl, rfl⟩
 refine xm Z Z Z (xe (xr (xm Z Z Z ?_)))
 obtain ⟨r17, r17e, h⟩ := bind_some h
 refine xc Z (op_call (vs := [.vec t16, .fn 44 []]) (H := [(t16, .vec 2 (r15.map api.Scored.av))]) Z call43 ⟨(tm Z), (AEv.func _), trivial⟩ (List.Perm.refl _) (slices.SortFunc_api_Scored.ok r17e t16) ?_)
 rintro _ _ ⟨rfl, rfl⟩
 refine xe (aw_seq (xr (xm Z Z Z (xc Z (op_lenVecM (i := 0) Z underlying24 (tm Z) Z (xa (.bool (decide ((r17.length : Int) = 0))) Z (pu_int (v := .bool (decide ((r17.length : Int) = 0))) Z Z (tm Z) (AEv.int _ _) Z) (xe (aw_cond (b := decide ((r17.length : Int) = 0)) (tm Z) (fun hb18 => ?_) (fun hb18 => ?_)))))))))
 ·replace h := ite_t (dec_t hb18) h
  refine xr (xa (.agg (api.Value.ct .full .full .full ({ Kind := 0, Text := ([] : List UInt8), List_ := ([] : List (List UInt8)), Hash := ([] : List api.Field), ZSet := ([] : List api.Scored) } : api.Value))) Z (pu_build (zs := [.i 0, .str ([] : List UInt8), .sl .full 1 (([] : List (List UInt8)).map AV.str), .sl .full 2 (([] : List api.Field).map api.Field.av), .sl .full 2 (([] : List api.Scored).map api.Scored.av)]) (szs := [1, 1, 1, 1, 1]) (aparts := []) (cs := [.i 0, .str ([] : List UInt8), .sl .full 1 (([] : List (List UInt8)).map AV.str), .sl .full 2 (([] : List api.Field).map api.Field.av), .sl .full 2 (([] : List api.Scored).map api.Scored.av)]) Z underlying26 zeroValue26 Z ⟨sizeOf3, sizeOf9, sizeOf22, sizeOf23, sizeOf24, trivial⟩ trivial Z) (ac0 Z Z (op_store (i := 1) (cs' := (api.Value.ct .full .full .full ({ Kind := 0, Text := ([] : List UInt8), List_ := ([] : List (List UInt8)), Hash := ([] : List api.Field), ZSet := ([] : List api.Scored) } : api.Value))) Z sizeOf26 (tm Z) (v := .agg (api.Value.ct .full .full .full ({ Kind := 0, Text := ([] : List UInt8), List_ := ([] : List (List UInt8)), Hash := ([] : List api.Field), ZSet := ([] : List api.Scored) } : api.Value))) (tm Z) Z Z Z (nb Z) Z (xe (aw_ret ?_)))))
  obtain rfl := some_of h
  exact ⟨[.agg (api.Value.ct .full .full .full ({ Kind := 0, Text := ([] : List UInt8), List_ := ([] : List (List UInt8)), Hash := ([] : List api.Field), ZSet := ([] : List api.Scored) } : api.Value))], .agg (api.Value.ct .full .full .no ({ Kind := 0, Text := ([] : List UInt8), List_ := ([] : List (List UInt8)), Hash := ([] : List api.Field), ZSet := ([] : List api.Scored) } : api.Value)), [], ⟨(CellOk.agg 1 (tm Z) Z isAgg26 sizeOf26 (nb Z) Z), trivial⟩, (AV.Le.agg ⟨vr, vr, vr, vr, (AV.Le.forget _ _ _), trivial⟩), Weak.mkL [] (by decide) trivial trivial, ⟨Z, Z⟩⟩
 ·replace h := ite_f (dec_f hb18) h
  refine aw_skip (xr (xm Z Z Z (aops_publish 18 0 (tm Z) Z (xa (.agg (api.Value.ct .full .full .no ({ Kind := 5, Text := ([] : List UInt8), List_ := ([] : List (List UInt8)), Hash := ([] : List api.Field), ZSet := r17 } : api.Value))) Z (pu_build (zs := [.i 0, .str ([] : List UInt8), .sl .full 1 (([] : List (List UInt8)).map AV.str), .sl .full 2 (([] : List api.Field).map api.Field.av), .sl .full 2 (([] : List api.Scored).map api.Scored.av)]) (szs := [1, 1, 1, 1, 1]) (aparts := [(0, .i 5), (4, .sl .no 2 (r17.map api.Scored.av))]) (cs := [.i 5, .str ([] : List UInt8), .sl .full 1 (([] : List (List UInt8)).map AV.str), .sl .full 2 (([] : List api.Field).map api.Field.av), .sl .no 2 (r17.map api.Scored.av)]) Z underlying26 zeroValue26 Z ⟨sizeOf3, sizeOf9, sizeOf22, sizeOf23, sizeOf24, trivial⟩ ⟨Z, (AEv.int _ _), ⟨Z, (tm Z), trivial⟩⟩ Z) (ac0 Z Z (op_store (i := 0) (cs' := (api.Value.ct .full .full .no ({ Kind := 5, Text := ([] : List UInt8), List_ := ([] : List (List UInt8)), Hash := ([] : List api.Field), ZSet := r17 } : api.Value))) Z sizeOf26 (tm Z) (v := .agg (api.Value.ct .full .full .no ({ Kind := 5, Text := ([] : List UInt8), List_ := ([] : List (List UInt8)), Hash := ([] : List api.Field), ZSet := r17 } : api.Value))) (tm Z) Z Z Z (nb Z) Z (xe (aw_ret ?_))))))))
  obtain rfl := some_of h
  exact ⟨[.agg (api.Value.ct .full .full .no ({ Kind := 5, Text := ([] : List UInt8), List_ := ([] : List (List UInt8)), Hash := ([] : List api.Field), ZSet := r17 } : api.Value))], _, [], ⟨(CellOk.agg 0 (tm Z) Z isAgg26 sizeOf26 (nb Z) Z), trivial⟩, vr, Weak.mkL [] (by decide) trivial trivial, ⟨Z, Z⟩⟩

theorem mewsref19.Out.ok {l : List api.Scored} {member : List UInt8} {r : List api.Scored} (h : mewsref19.Out l member = some r) : Go.Lift.Spec prog 60 [.sl .no 2 (l.map api.Scored.av), .str member] [] (fun v H => ∃ n0, v = .sl (.own n0) 2 (r.map api.Scored.av) ∧ H = [(n0, .spare)]) := by
 unfold mewsref19.Out at h
 refine Go.Lift.Spec.of_body (rs := [.tmp 4]) func60 Z Z (nb Z) Z (xr (xa (.sl .full 2 (([] : List api.Scored).map api.Scored.av)) Z (pu_assign Z (AEv.nil 2 (by decide))) (xe (xr (xa (.sl .full 2 (([] : List api.Scored).map api.Scored.av)) Z (pu_assign Z (AEv.nil 2 (by decide))) (xe ?_))))))
 obtain ⟨s170, s170e, h172⟩ := bind_some h
 refine aw_meet (ν := Nat) (fun v => [(5, .sl (.own v) 2 (s170.map api.Scored.av))]) (fun v => [(v, .spare)]) ?_ ?_
 ·have h := s170e
  refine xr (xa (.i 0) Z (pu_assign Z (AEv.int _ _)) (xe (aw_block (aw_claim 5 (tm Z) fun t228 => (aw_while (σ := mewsref19.Out.S0) (ν := Nat) (mewsref19.Out.body0 l member) (fun s208 v => [(0, .sl .no 2 (l.map api.Scored.av)), (1, .str member), (5, .sl (.own v) 2 (s208.out.map api.Scored.av)), (6, .i s208.i)]) (fun s208 v => [(v, .spare)]) ⟨([] : List api.Scored), 0⟩ t228 _ h (Weak.mkL [0] (by decide) ⟨⟨_, Z, Z⟩, trivial⟩ ⟨tm Z, tm Z, tm Z, tm Z, trivial⟩) ?_)))))
  rintro s208 n209 x211 h hx210
  unfold mewsref19.Out.body0 at h
  refine aw_seq (xr (xm Z Z Z (xm Z Z Z (xa (.i (l.length : Int)) Z (pu_lenM Z underlying24 (tm Z)) (xa (.bool (decide (s208.i < (l.length : Int)))) Z (pu_int (v := .bool (decide (s208.i < (l.length : Int)))) Z Z (tm Z) (tm Z) Z) (xe (aw_cond (b := decide (s208.i < (l.length : Int))) (tm Z) (fun hb227 => ?_) (fun hb227 => ?_))))))))
  ·replace h := ite_t (dec_t hb227) h
   refine aw_skip ?_
   obtain ⟨s218, s218e, h220⟩ := bind_some h
   refine aw_meet (ν := Nat) (fun v => [(0, .sl .no 2 (l.map api.Scored.av)), (1, .str member), (5, .sl (.own v) 2 (s218.map api.Scored.av)), (6, .i s208.i)]) (fun v => [(v, .spare)]) ?_ ?_
   ·have h := s218e
    refine aw_block (xr (xm Z Z Z (xm Z Z Z ?_)))
    obtain ⟨c222, h⟩ := need_of h
    refine xa (.vptr [.str (ix l s208.i).Member, .i (ix l s208.i).Score]) Z (pu_indexAddrM Z underlying24 sizeOf64 (tm Z) (tm Z) c222 Z) (xa (.vptr [.str (ix l s208.i).Member, .i (ix l s208.i).Score]) Z (fa Z underlying64 Z sizeOf9 Z Z Z) (xc Z (op_loadV1 Z isAgg9 (tm Z) Z (xm Z Z Z (xa (.bool (!decide ((ix l s208.i).Member = member))) Z (pu_str (v := .bool (!decide ((ix l s208.i).Member = member))) Z Z (tm Z) (tm Z) Z) (xe (aw_cond (b := (!decide ((ix l s208.i).Member = member))) (tm Z) (fun hb226 => ?_) (fun hb226 => ?_))))))))
    ·replace h := ite_f (ndec_t hb226) h
     refine aw_region (xm Z Z Z (xm Z Z Z (xm Z Z Z ?_)))
     obtain ⟨c223, h⟩ := need_of h
     refine xa (.vptr [.str (ix l s208.i).Member, .i (ix l s208.i).Score]) Z (pu_indexAddrM Z underlying24 sizeOf64 (tm Z) (tm Z) c223 Z) (xc Z (op_loadVN Z isAgg64 sizeOf64 (tm Z) (nb Z) Z (xc Z (op_buildSlice (xs := ([(ix l s208.i)] : List api.Scored).map api.Scored.av) (aparts := [(0, .agg [.str (ix l s208.i).Member, .i (ix l s208.i).Score])]) Z underlying24 sizeOf64 zeroValue64 (by decide) (by decide) ⟨Z, (tm Z), trivial⟩ Z Z Z ?_))))
     obtain ⟨c224, h⟩ := need_of h
     refine xc Z (op_appendOM (q := 0) Z underlying24 underlying24 (.inl Z) typeInfo64 Z Z Z (by decide) (tm Z) Z (given_sl (tm Z)) c224 ?_)
     intro t225
     refine xm Z Z Z (xe ?_)
     obtain rfl := some_of h
     exact ⟨t225, Weak.mkL [0] (by decide) ⟨⟨_, Z, Z⟩, trivial⟩ ⟨tm Z, tm Z, (AEv.le (tm Z) vr), tm Z, trivial⟩⟩
    ·replace h := ite_t (ndec_f hb226) h
     refine aw_skip ?_
     obtain rfl := some_of h
     exact ⟨n209, Weak.mkL [0] (by decide) ⟨⟨_, Z, Z⟩, trivial⟩ ⟨tm Z, tm Z, tm Z, tm Z, trivial⟩⟩
   ·intro n219
    have h := h220
    refine aw_region (xm Z Z Z (xa (.i (IntKind.wrap .i64 (s208.i + 1))) Z (pu_int (v := .i (IntKind.wrap .i64 (s208.i + 1))) Z Z (tm Z) (AEv.int _ _) Z) (xm Z Z Z (xe ?_))))
    obtain rfl := some_of h
    exact ⟨_, n219, Z, Weak.mkL [0] (by decide) ⟨⟨_, Z, Z⟩, trivial⟩ ⟨tm Z, tm Z, tm Z, (AEv.le (tm Z) vr), trivial⟩⟩
  ·replace h := ite_f (dec_f hb227) h
   refine aw_exit ?_
   obtain rfl := some_of h
   have h := congrArg some (hx210 _ rfl)
   obtain rfl := some_of h
   exact ⟨n209, Weak.mkL [0] (by decide) ⟨⟨_, Z, Z⟩, trivial⟩ ⟨tm Z, trivial⟩⟩
 ·intro n171
  have h := h172
  refine xr (xm Z Z Z (xm Z Z Z (xe (aw_ret ?_))))
  obtain rfl := some_of h
  exact ⟨[.sl (.own n171) 2 (s170.map api.Scored.av)], _, [(n171, .spare)], ⟨(tm Z), trivial⟩, vr, Weak.mkL [0] (by decide) ⟨⟨_, Z, Z⟩, trivial⟩ trivial, ⟨n171, Z, Z⟩⟩

theorem mewsref10.Rank.ok {l : List api.Scored} {x_ : api.Scored} {r : Int} (h : mewsref10.Rank l x_ = some r) : Go.Lift.Spec prog 87 [.sl .no 2 (l.map api.Scored.av), .agg [.str x_.Member, .i x_.Score]] [] (fun v H => v = .i r ∧ H = []) := by
 unfold mewsref10.Rank at h
 refine Go.Lift.Spec.of_body (rs := [.tmp 4]) func87 Z Z (nb Z) Z (xr (xc Z (op_box (cs := [.str x_.Member, .i x_.Score]) (v := .agg [.str x_.Member, .i x_.Score]) Z (tm Z) Z Z ?_)))
 intro p36
 refine xa (.i 0) Z (pu_assign Z (AEv.int _ _)) (xe ?_)
 obtain ⟨s70, s70e, h53⟩ := bind_some h
 refine aw_join (σ := Unit) (ν := Unit) (fun u v => []) (fun u v => []) (fun u => s70 = .inl u) ?_ ?_
 ·intro s52
  intro _
  rintro rfl
  have h := onSum_inl h53
  refine xr (xa (.i (-1)) Z (pu_assign Z (AEv.int _ _)) (xe (aw_ret ?_)))
  obtain rfl := some_of h
  exact ⟨[.i (-1)], _, [], ⟨(tm Z), trivial⟩, vr, Weak.mkL [] (by decide) trivial trivial, ⟨Z, Z⟩⟩
 ·have h := s70e
  refine xr (xa (.i 0) Z (pu_assign Z (AEv.int _ _)) (xe (aw_block (aw_while (σ := mewsref10.Rank.S0) (ν := Unit) (mewsref10.Rank.body0 l x_) (fun s63 v => [(0, .sl .no 2 (l.map api.Scored.av)), (3, .ptr p36 0), (5, .i s63.i)]) (fun s63 v => [(p36, .cells [.str x_.Member, .i x_.Score])]) ⟨0⟩ () _ h (Weak.mkL [0] (by decide) ⟨⟨_, Z, cr, Z⟩, trivial⟩ ⟨tm Z, tm Z, tm Z, trivial⟩) ?_))))
  rintro s63 _ x65 h hx64
  unfold mewsref10.Rank.body0 at h
  refine aw_seq (xr (xm Z Z Z (xm Z Z Z (xa (.i (l.length : Int)) Z (pu_lenM Z underlying24 (tm Z)) (xa (.bool (decide (s63.i < (l.length : Int)))) Z (pu_int (v := .bool (decide (s63.i < (l.length : Int)))) Z Z (tm Z) (tm Z) Z) (xe (aw_cond (b := decide (s63.i < (l.length : Int))) (tm Z) (fun hb69 => ?_) (fun hb69 => ?_))))))))
  ·replace h := ite_t (dec_t hb69) h
   refine aw_skip (aw_seq (aw_block (aw_seq ?_)))
   obtain ⟨c67, h⟩ := need_of h
   refine aw_planR (by decide +kernel) [[], [], [], [], [(0, 0, false)], []] [[]] [[[(p36, .cells [.str x_.Member, .i x_.Score])]]] [.sl .no 2 (l.map api.Scored.av), .i s63.i, .vptr [.str (ix l s63.i).Member, .i (ix l s63.i).Score], .agg [.str (ix l s63.i).Member, .i (ix l s63.i).Score], .agg [.str x_.Member, .i x_.Score], .bool (decide ((ix l s63.i) = x_))] (by decide +kernel) Z Z ?_ ?_
   ·exact ⟨ym Z Z Z, ym Z Z Z, yp Z (pu_indexAddrM Z underlying24 sizeOf64 (tm Z) (tm Z) c67 Z), stepg_plain Z (op_loadVN Z isAgg64 sizeOf64 (tm Z) (nb Z) Z ⟨Z, Z⟩), stepg_plain Z (op_loadN (i := 0) Z isAgg64 sizeOf64 (tm Z) Z (nb Z) Z ⟨Z, Z⟩), yp Z (APure.eq (pu_structEq (b := (decide ((ix l s63.i).Member = x_.Member) && (decide ((ix l s63.i).Score = x_.Score) && true))) Z underlying64 (by kernel_rfl) (by kernel_rfl) (tm Z) (tm Z) ⟨_, _, _, _, ⟨by decide, isAgg9, Z, Z, CEq.str underlying9⟩, ⟨_, _, _, _, ⟨by decide, isAgg2, Z, Z, CEq.int underlying2⟩, Z, Z⟩, Z⟩) (congrArg AV.bool (api.Scored.eq_iff (ix l s63.i) x_).symm)), trivial⟩
   refine aw_cond (b := decide ((ix l s63.i) = x_)) (tm Z) (fun hb68 => ?_) (fun hb68 => ?_)
   ·replace h := ite_t (dec_t hb68) h
    refine xr (xm Z Z Z (xm Z Z Z (xe (aw_ret ?_))))
    obtain rfl := some_of h
    have h := congrArg some (hx64 _ rfl)
    obtain rfl := some_of h
    have h := onSum_inr h53
    obtain rfl := some_of h
    exact ⟨[.i s63.i], _, [], ⟨(tm Z), trivial⟩, vr, Weak.mkL [] (by decide) trivial trivial, ⟨Z, Z⟩⟩
   ·replace h := ite_f (dec_f hb68) h
    refine aw_skip (aw_region (xm Z Z Z (xa (.i (IntKind.wrap .i64 (s63.i + 1))) Z (pu_int (v := .i (IntKind.wrap .i64 (s63.i + 1))) Z Z (tm Z) (AEv.int _ _) Z) (xm Z Z Z (xe ?_)))))
    obtain rfl := some_of h
    exact ⟨_, (), Z, Weak.mkL [0] (by decide) ⟨⟨_, Z, cr, Z⟩, trivial⟩ ⟨tm Z, tm Z, (AEv.le (tm Z) vr), trivial⟩⟩
  ·replace h := ite_f (dec_f hb69) h
   refine aw_exit ?_
   obtain rfl := some_of h
   have h := congrArg some (hx64 _ rfl)
   exact ⟨(), (), (some_of h).symm, Weak.mkL [] (by decide) trivial trivial⟩

theorem mewsref10.Less.ok {a : api.Scored} {b : api.Scored} {r : Bool} (h : mewsref10.Less a b = some r) : Go.Lift.Spec prog 100 [.agg [.str a.Member, .i a.Score], .agg [.str b.Member, .i b.Score]] [] (fun v H => v = .bool r ∧ H = []) := by
 unfold mewsref10.Less at h
 refine Go.Lift.Spec.of_body (rs := [.tmp 4]) func100 Z Z (nb Z) Z (xr (xc Z (op_box (cs := [.str a.Member, .i a.Score]) (v := .agg [.str a.Member, .i a.Score]) Z (tm Z) Z Z ?_)))
 intro p4
 refine xc Z (op_box (cs := [.str b.Member, .i b.Score]) (v := .agg [.str b.Member, .i b.Score]) Z (tm Z) Z Z ?_)
 intro p5
 refine xa (.bool false) Z (pu_assign Z (AEv.bool _)) (xe (aw_seq (xr (xa (.ptr p4 1) Z (fa Z underlying64 Z sizeOf2 Z Z Z) (xc Z (op_load1 (i := 1) Z isAgg2 (tm Z) Z Z (xa (.ptr p5 1) Z (fa Z underlying64 Z sizeOf2 Z Z Z) (xc Z (op_load1 (i := 0) Z isAgg2 (tm Z) Z Z (xa (.bool (!decide (a.Score = b.Score))) Z (pu_int (v := .bool (!decide (a.Score = b.Score))) Z Z (tm Z) (tm Z) Z) ?_))))))))))
 refine xe (aw_cond (b := (!decide (a.Score = b.Score))) (tm Z) (fun hb6 => ?_) (fun hb6 => ?_))
 ·replace h := ite_f (ndec_t hb6) h
  refine xr (xa (.ptr p4 1) Z (fa Z underlying64 Z sizeOf2 Z Z Z) (xc Z (op_load1 (i := 1) Z isAgg2 (tm Z) Z Z (xa (.ptr p5 1) Z (fa Z underlying64 Z sizeOf2 Z Z Z) (xc Z (op_load1 (i := 0) Z isAgg2 (tm Z) Z Z (xa (.bool (decide (a.Score < b.Score))) Z (pu_int (v := .bool (decide (a.Score < b.Score))) Z Z (tm Z) (tm Z) Z) (xm Z Z Z (xe (aw_ret ?_))))))))))
  obtain rfl := some_of h
  exact ⟨[.bool (decide (a.Score < b.Score))], _, [], ⟨(tm Z), trivial⟩, vr, Weak.mkL [] (by decide) trivial trivial, ⟨Z, Z⟩⟩
 ·replace h := ite_t (ndec_f hb6) h
  refine aw_skip (xr (xa (.ptr p4 0) Z (fa Z underlying64 Z sizeOf9 Z Z Z) (xc Z (op_load1 (i := 1) Z isAgg9 (tm Z) Z Z (xa (.ptr p5 0) Z (fa Z underlying64 Z sizeOf9 Z Z Z) (xc Z (op_load1 (i := 0) Z isAgg9 (tm Z) Z Z (xa (.bool (strLt a.Member b.Member)) Z (pu_str (v := .bool (strLt a.Member b.Member)) Z Z (tm Z) (tm Z) Z) (xm Z Z Z (xe ?_))))))))))
  refine aw_ret ?_
  obtain rfl := some_of h
  exact ⟨[.bool (strLt a.Member b.Member)], _, [], ⟨(tm Z), trivial⟩, vr, Weak.mkL [] (by decide) trivial trivial, ⟨Z, Z⟩⟩

theorem mewsref10.Ahead.ok {l : List api.Scored} {x_ : api.Scored} {r : Int} (h : mewsref10.Ahead l x_ = some r) : Go.Lift.Spec prog 88 [.sl .no 2 (l.map api.Scored.av), .agg [.str x_.Member, .i x_.Score]] [] (fun v H => v = .i r ∧ H = []) := by
 unfold mewsref10.Ahead at h
 refine Go.Lift.Spec.of_body (rs := [.tmp 4]) func88 Z Z (nb Z) Z (xr (xc Z (op_box (cs := [.str x_.Member, .i x_.Score]) (v := .agg [.str x_.Member, .i x_.Score]) Z (tm Z) Z Z ?_)))
 intro p77
 refine xa (.i 0) Z (pu_assign Z (AEv.int _ _)) (xe (xr (xa (.i 0) Z (pu_assign Z (AEv.int _ _)) (xe ?_))))
 obtain ⟨s114, s114e, h115⟩ := bind_some h
 refine aw_meet (ν := Unit) (fun v => [(5, .i s114)]) (fun v => []) ?_ ?_
 ·have h := s114e
  refine xr (xa (.i 0) Z (pu_assign Z (AEv.int _ _)) (xe (aw_block (aw_while (σ := mewsref10.Ahead.S0) (ν := Unit) (mewsref10.Ahead.body0 l x_) (fun s139 v => [(0, .sl .no 2 (l.map api.Scored.av)), (3, .ptr p77 0), (5, .i s139.n), (6, .i s139.i)]) (fun s139 v => [(p77, .cells [.str x_.Member, .i x_.Score])]) ⟨0, 0⟩ () _ h (Weak.mkL [0] (by decide) ⟨⟨_, Z, cr, Z⟩, trivial⟩ ⟨tm Z, tm Z, tm Z, tm Z, trivial⟩) ?_))))
  rintro s139 _ x141 h hx140
  unfold mewsref10.Ahead.body0 at h
  refine aw_seq (xr (xm Z Z Z (xm Z Z Z (xa (.i (l.length : Int)) Z (pu_lenM Z underlying24 (tm Z)) (xa (.bool (decide (s139.i < (l.length : Int)))) Z (pu_int (v := .bool (decide (s139.i < (l.length : Int)))) Z Z (tm Z) (tm Z) Z) (xe (aw_cond (b := decide (s139.i < (l.length : Int))) (tm Z) (fun hb152 => ?_) (fun hb152 => ?_))))))))
  ·replace h := ite_t (dec_t hb152) h
   refine aw_skip ?_
   obtain ⟨s146, s146e, h147⟩ := bind_some h
   refine aw_meet (ν := Unit) (fun v => [(0, .sl .no 2 (l.map api.Scored.av)), (3, .ptr p77 0), (5, .i s146), (6, .i s139.i)]) (fun v => [(p77, .cells [.str x_.Member, .i x_.Score])]) ?_ ?_
   ·have h := s146e
    refine aw_block (aw_seq ?_)
    obtain ⟨c149, h⟩ := need_of h
    obtain ⟨r150, r150e, h⟩ := bind_some h
    refine aw_planR (by decide +kernel) [[], [], [], [], [(0, 0, false)], []] [[]] [[[(p77, .cells [.str x_.Member, .i x_.Score])]]] [.sl .no 2 (l.map api.Scored.av), .i s139.i, .vptr [.str (ix l s139.i).Member, .i (ix l s139.i).Score], .agg [.str (ix l s139.i).Member, .i (ix l s139.i).Score], .agg [.str x_.Member, .i x_.Score], .bool r150] (by decide +kernel) Z Z ?_ ?_
    ·exact ⟨ym Z Z Z, ym Z Z Z, yp Z (pu_indexAddrM Z underlying24 sizeOf64 (tm Z) (tm Z) c149 Z), stepg_plain Z (op_loadVN Z isAgg64 sizeOf64 (tm Z) (nb Z) Z ⟨Z, Z⟩), stepg_plain Z (op_loadN (i := 0) Z isAgg64 sizeOf64 (tm Z) Z (nb Z) Z ⟨Z, Z⟩), stepg_plain Z (op_call (vs := [.agg [.str (ix l s139.i).Member, .i (ix l s139.i).Score], .agg [.str x_.Member, .i x_.Score]]) (H := []) Z call100 ⟨(tm Z), (tm Z), trivial⟩ (R := []) (List.Perm.refl _) (mewsref10.Less.ok r150e) (by rintro _ _ ⟨rfl, rfl⟩; exact ⟨Z, Z⟩)), trivial⟩
    refine aw_cond (b := r150) (tm Z) (fun hb151 => ?_) (fun hb151 => ?_)
    ·replace h := ite_t hb151 h
     refine aw_region (xm Z Z Z (xa (.i (IntKind.wrap .i64 (s139.n + 1))) Z (pu_int (v := .i (IntKind.wrap .i64 (s139.n + 1))) Z Z (tm Z) (AEv.int _ _) Z) (xm Z Z Z (xe ?_))))
     obtain rfl := some_of h
     exact ⟨(), Weak.mkL [0] (by decide) ⟨⟨_, Z, cr, Z⟩, trivial⟩ ⟨tm Z, tm Z, (AEv.le (tm Z) vr), tm Z, trivial⟩⟩
    ·replace h := ite_fb hb151 h
     refine aw_skip ?_
     obtain rfl := some_of h
     exact ⟨(), Weak.mkL [0] (by decide) ⟨⟨_, Z, cr, Z⟩, trivial⟩ ⟨tm Z, tm Z, tm Z, tm Z, trivial⟩⟩
   ·intro _
    have h := h147
    refine aw_region (xm Z Z Z (xa (.i (IntKind.wrap .i64 (s139.i + 1))) Z (pu_int (v := .i (IntKind.wrap .i64 (s139.i + 1))) Z Z (tm Z) (AEv.int _ _) Z) (xm Z Z Z (xe ?_))))
    obtain rfl := some_of h
    exact ⟨_, (), Z, Weak.mkL [0] (by decide) ⟨⟨_, Z, cr, Z⟩, trivial⟩ ⟨tm Z, tm Z, tm Z, (AEv.le (tm Z) vr), trivial⟩⟩
  ·replace h := ite_f (dec_f hb152) h
   refine aw_exit ?_
   obtain rfl := some_of h
   have h := congrArg some (hx140 _ rfl)
   obtain rfl := some_of h
   exact ⟨(), Weak.mkL [] (by decide) trivial ⟨tm Z, trivial⟩⟩
 ·intro _
  have h := h115
  refine xr (xm Z Z Z (xm Z Z Z (xe (aw_ret ?_))))
  obtain rfl := some_of h
  exact ⟨[.i s114], _, [], ⟨(tm Z), trivial⟩, vr, Weak.mkL [] (by decide) trivial trivial, ⟨Z, Z⟩⟩

theorem mewsref10.Put.ok {l : List api.Scored} {x_ : api.Scored} {r : (List api.Scored) × Bool} (h : mewsref10.Put l x_ = some r) : Go.Lift.Spec prog 59 [.sl .no 2 (l.map api.Scored.av), .agg [.str x_.Member, .i x_.Score]] [] (fun v H => v = .tup [.sl .no 2 (r.1.map api.Scored.av), .bool r.2] ∧ H = []) := by
 unfold mewsref10.Put at h
 refine Go.Lift.Spec.of_body (rs := [.tmp 4, .tmp 5]) func59 Z Z (nb Z) Z (xr (xc Z (op_box (cs := [.str x_.Member, .i x_.Score]) (v := .agg [.str x_.Member, .i x_.Score]) Z (tm Z) Z Z ?_)))
 intro p13
 refine xa (.sl .full 2 (([] : List api.Scored).map api.Scored.av)) Z (pu_assign Z (AEv.nil 2 (by decide))) (xa (.bool false) Z (pu_assign Z (AEv.bool _)) (xe (aw_seq (xr (xm Z Z Z (xc Z (op_loadN (i := 0) Z isAgg64 sizeOf64 (tm Z) Z (nb Z) Z ?_)))))))
 obtain ⟨r14, r14e, h⟩ := bind_some h
 refine xc Z (op_call (vs := [.sl .no 2 (l.map api.Scored.av), .agg [.str x_.Member, .i x_.Score]]) (H := []) Z call87 ⟨(tm Z), (tm Z), trivial⟩ (List.Perm.refl _) (mewsref10.Rank.ok r14e) ?_)
 rintro _ _ ⟨rfl, rfl⟩
 refine xa (.bool (decide (0 ≤ r14))) Z (pu_int (v := .bool (decide (0 ≤ r14))) Z Z (tm Z) (AEv.int _ _) Z) (xe (aw_cond (b := decide (0 ≤ r14)) (tm Z) (fun hb24 => ?_) (fun hb24 => ?_)))
 ·replace h := ite_t (dec_t hb24) h
  refine xr (xm Z Z Z (xm Z Z Z (xa (.bool false) Z (pu_assign Z (AEv.bool _)) (xe (aw_ret ?_)))))
  obtain rfl := some_of h
  exact ⟨[.sl .no 2 (l.map api.Scored.av), .bool false], _, [], ⟨(tm Z), (tm Z), trivial⟩, vr, Weak.mkL [] (by decide) trivial trivial, ⟨Z, Z⟩⟩
 ·replace h := ite_f (dec_f hb24) h
  refine aw_skip (xr (xm Z Z Z (xc Z (op_loadN (i := 0) Z isAgg64 sizeOf64 (tm Z) Z (nb Z) Z ?_))))
  obtain ⟨r15, r15e, h⟩ := bind_some h
  refine xc Z (op_call (vs := [.sl .no 2 (l.map api.Scored.av), .agg [.str x_.Member, .i x_.Score]]) (H := []) Z call88 ⟨(tm Z), (tm Z), trivial⟩ (List.Perm.refl _) (mewsref10.Ahead.ok r15e) ?_)
  rintro _ _ ⟨rfl, rfl⟩
  refine xm Z Z Z (xe (xr (xm Z Z Z (xm Z Z Z ?_))))
  obtain ⟨c16, h⟩ := need_of h
  refine xa (.sl .no 2 ((sub l 0 r15).map api.Scored.av)) Z (pu_sliceM Z underlying24 sizeOf64 (tm Z) Z ⟨_, (tm Z)⟩ c16) ?_
  obtain ⟨c17, h⟩ := need_of h
  refine xc Z (op_appendFM Z underlying24 underlying24 (.inl Z) typeInfo64 Z Z Z (by decide) (AEv.nil 2 (by decide)) (given_sl (tm Z)) c17 ?_)
  intro t18
  refine xm Z Z Z (xe (xr (xm Z Z Z (xc Z (op_loadN (i := 1) Z isAgg64 sizeOf64 (tm Z) Z (nb Z) Z (xc Z (op_buildSlice (xs := ([x_] : List api.Scored).map api.Scored.av) (aparts := [(0, .agg [.str x_.Member, .i x_.Score])]) Z underlying24 sizeOf64 zeroValue64 (by decide) (by decide) ⟨Z, (tm Z), trivial⟩ Z Z Z ?_)))))))
  obtain ⟨c19, h⟩ := need_of h
  refine xc Z (op_appendOM (q := 0) Z underlying24 underlying24 (.inl Z) typeInfo64 Z Z Z (by decide) (tm Z) Z (given_sl (tm Z)) c19 ?_)
  intro t20
  refine xm Z Z Z (xe (xr (xm Z Z Z (xm Z Z Z (xm Z Z Z ?_)))))
  obtain ⟨c21, h⟩ := need_of h
  refine xa (.sl .no 2 ((sub l r15 (l.length : Int)).map api.Scored.av)) Z (pu_sliceM Z underlying24 sizeOf64 (tm Z) ⟨_, (tm Z)⟩ Z c21) ?_
  obtain ⟨c22, h⟩ := need_of h
  refine xc Z (op_appendOM (q := 0) Z underlying24 underlying24 (.inl Z) typeInfo64 Z Z Z (by decide) (tm Z) Z (given_sl (tm Z)) c22 ?_)
  intro t23
  refine xm Z Z Z (xa (.bool true) Z (pu_assign Z (AEv.bool _)) (xe (aw_ret ?_)))
  obtain rfl := some_of h
  exact ⟨[.sl .no 2 ((((([] : List api.Scored) ++ (sub l 0 r15)) ++ [x_]) ++ (sub l r15 (l.length : Int))).map api.Scored.av), .bool true], _, [], ⟨(AEv.le (tm Z) (AV.Le.forget _ _ _)), (tm Z), trivial⟩, vr, Weak.mkL [] (by decide) trivial trivial, ⟨Z, Z⟩⟩

theorem mewsref19.Score.ok {l : List api.Scored} {x_ : api.Scored} {r : List api.Scored} (h : mewsref19.Score l x_ = some r) : Go.Lift.Spec prog 46 [.sl .no 2 (l.map api.Scored.av), .agg [.str x_.Member, .i x_.Score]] [] (fun v H => v = .sl .no 2 (r.map api.Scored.av) ∧ H = []) := by
 unfold mewsref19.Score at h
 refine Go.Lift.Spec.of_body (rs := [.tmp 4]) func46 Z Z (nb Z) Z (xr (xc Z (op_box (cs := [.str x_.Member, .i x_.Score]) (v := .agg [.str x_.Member, .i x_.Score]) Z (tm Z) Z Z ?_)))
 intro p5
 refine xa (.sl .full 2 (([] : List api.Scored).map api.Scored.av)) Z (pu_assign Z (AEv.nil 2 (by decide))) (xe (aw_seq ?_))
 obtain ⟨r6, r6e, h⟩ := bind_some h
 obtain ⟨r8, r8e, h⟩ := bind_some h
 refine aw_reserve fun p7 => (aw_planR (by decide +kernel) [[], [], [(1, 0, false)], [(0, 0, true)], [(1, 0, false)], [], [], [], [], [], []] [[3], []] [[[(p7, .resv)], [(p7, .spare)]], [[(p5, .cells [.str x_.Member, .i x_.Score])]]] [.sl .no 2 (l.map api.Scored.av), .ptr p5 0, .str x_.Member, .sl (.own p7) 2 (r6.map api.Scored.av), .agg [.str x_.Member, .i x_.Score], .tup [.sl .no 2 (r8.1.map api.Scored.av), .bool r8.2], .tup [.sl .no 2 (r8.1.map api.Scored.av), .bool r8.2], .sl .no 2 (r8.1.map api.Scored.av), .bool r8.2, .sl .no 2 (r8.1.map api.Scored.av), .bool r8.2] (by decide +kernel) Z Z ?_ ?_)
 ·exact ⟨ym Z Z Z, yp Z (fa Z underlying64 Z sizeOf9 Z Z Z), stepg_plain Z (op_load1 (i := 0) Z isAgg9 (tm Z) Z Z ⟨Z, Z⟩), stepg_plain Z (aop_settleS (op_call (vs := [.sl .no 2 (l.map api.Scored.av), .str x_.Member]) (H := []) (R := [(p7, .resv)]) Z call60 ⟨(tm Z), (tm Z), trivial⟩ (List.Perm.refl _) (mewsref19.Out.ok r6e) (by rintro _ _ ⟨t, rfl, rfl⟩; exact ⟨t, Z, Z⟩)) ⟨Z, Z⟩), stepg_plain Z (op_loadN (i := 0) Z isAgg64 sizeOf64 (tm Z) Z (nb Z) Z ⟨Z, Z⟩), stepg_plain Z (op_call (vs := [.sl .no 2 (r6.map api.Scored.av), .agg [.str x_.Member, .i x_.Score]]) (H := []) Z call59 ⟨(AEv.le (tm Z) (AV.Le.forget _ _ _)), (tm Z), trivial⟩ (R := []) (List.Perm.refl _) (mewsref10.Put.ok r8e) (by rintro _ _ ⟨rfl, rfl⟩; exact ⟨Z, Z⟩)), ym Z Z Z, yp Z (pu_extract Z (tm Z) (nb Z) Z), yp Z (pu_extract Z (tm Z) (nb Z) Z), ym Z Z Z, ym Z Z Z, trivial⟩
 refine xr (xm Z Z Z (xm Z Z Z (xe (aw_ret ?_))))
 obtain rfl := some_of h
 exact ⟨[.sl .no 2 (r8.1.map api.Scored.av)], _, [], ⟨(tm Z), trivial⟩, vr, Weak.mkL [] (by decide) trivial trivial, ⟨Z, Z⟩⟩

theorem mewsref19.ZSet.ok {l : List api.Scored} {r : api.Value} (h : mewsref19.ZSet l = some r) : Go.Lift.Spec prog 14 [.sl .no 2 (l.map api.Scored.av)] [] (fun v H => v = .agg (api.Value.ct .full .full .no ({ Kind := r.Kind, Text := r.Text, List_ := r.List_, Hash := r.Hash, ZSet := r.ZSet } : api.Value)) ∧ H = []) := by
 unfold mewsref19.ZSet at h
 refine Go.Lift.Spec.of_body (rs := [.cell 2 26]) func14 Z Z (nb Z) Z (xr (xc Z (op_alloc (cs := (api.Value.ct .full .full .full ({ Kind := 0, Text := ([] : List UInt8), List_ := ([] : List (List UInt8)), Hash := ([] : List api.Field), ZSet := ([] : List api.Scored) } : api.Value))) (v := .agg (api.Value.ct .full .full .full ({ Kind := 0, Text := ([] : List UInt8), List_ := ([] : List (List UInt8)), Hash := ([] : List api.Field), ZSet := ([] : List api.Scored) } : api.Value))) Z zeroValue26 Z Z Z ?_)))
 intro p37
 refine xe (aw_seq (xr (xm Z Z Z (xa (.i (l.length : Int)) Z (pu_lenM Z underlying24 (tm Z)) (xa (.bool (decide ((l.length : Int) = 0))) Z (pu_int (v := .bool (decide ((l.length : Int) = 0))) Z Z (tm Z) (AEv.int _ _) Z) (xe (aw_cond (b := decide ((l.length : Int) = 0)) (tm Z) (fun hb72 => ?_) (fun hb72 => ?_))))))))
 ·replace h := ite_t (dec_t hb72) h
  refine xr (xa (.agg (api.Value.ct .full .full .full ({ Kind := 0, Text := ([] : List UInt8), List_ := ([] : List (List UInt8)), Hash := ([] : List api.Field), ZSet := ([] : List api.Scored) } : api.Value))) Z (pu_build (zs := [.i 0, .str ([] : List UInt8), .sl .full 1 (([] : List (List UInt8)).map AV.str), .sl .full 2 (([] : List api.Field).map api.Field.av), .sl .full 2 (([] : List api.Scored).map api.Scored.av)]) (szs := [1, 1, 1, 1, 1]) (aparts := []) (cs := [.i 0, .str ([] : List UInt8), .sl .full 1 (([] : List (List UInt8)).map AV.str), .sl .full 2 (([] : List api.Field).map api.Field.av), .sl .full 2 (([] : List api.Scored).map api.Scored.av)]) Z underlying26 zeroValue26 Z ⟨sizeOf3, sizeOf9, sizeOf22, sizeOf23, sizeOf24, trivial⟩ trivial Z) (ac0 Z Z (op_store (i := 0) (cs' := (api.Value.ct .full .full .full ({ Kind := 0, Text := ([] : List UInt8), List_ := ([] : List (List UInt8)), Hash := ([] : List api.Field), ZSet := ([] : List api.Scored) } : api.Value))) Z sizeOf26 (tm Z) (v := .agg (api.Value.ct .full .full .full ({ Kind := 0, Text := ([] : List UInt8), List_ := ([] : List (List UInt8)), Hash := ([] : List api.Field), ZSet := ([] : List api.Scored) } : api.Value))) (tm Z) Z Z Z (nb Z) Z (xe (aw_ret ?_)))))
  obtain rfl := some_of h
  exact ⟨[.agg (api.Value.ct .full .full .full ({ Kind := 0, Text := ([] : List UInt8), List_ := ([] : List (List UInt8)), Hash := ([] : List api.Field), ZSet := ([] : List api.Scored) } : api.Value))], .agg (api.Value.ct .full .full .no ({ Kind := 0, Text := ([] : List UInt8), List_ := ([] : List (List UInt8)), Hash := ([] : List api.Field), ZSet := ([] : List api.Scored) } : api.Value)), [], ⟨(CellOk.agg 0 (tm Z) Z isAgg26 sizeOf26 (nb Z) Z), trivial⟩, (AV.Le.agg ⟨vr, vr, vr, vr, (AV.Le.forget _ _ _), trivial⟩), Weak.mkL [] (by decide) trivial trivial, ⟨Z, Z⟩⟩
 ·replace h := ite_f (dec_f hb72) h
  refine aw_skip (xr (xa (.agg (api.Value.ct .full .full .full ({ Kind := 5, Text := ([] : List UInt8), List_ := ([] : List (List UInt8)), Hash := ([] : List api.Field), ZSet := ([] : List api.Scored) } : api.Value))) Z (pu_build (zs := [.i 0, .str ([] : List UInt8), .sl .full 1 (([] : List (List UInt8)).map AV.str), .sl .full 2 (([] : List api.Field).map api.Field.av), .sl .full 2 (([] : List api.Scored).map api.Scored.av)]) (szs := [1, 1, 1, 1, 1]) (aparts := [(0, .i 5)]) (cs := [.i 5, .str ([] : List UInt8), .sl .full 1 (([] : List (List UInt8)).map AV.str), .sl .full 2 (([] : List api.Field).map api.Field.av), .sl .full 2 (([] : List api.Scored).map api.Scored.av)]) Z underlying26 zeroValue26 Z ⟨sizeOf3, sizeOf9, sizeOf22, sizeOf23, sizeOf24, trivial⟩ ⟨Z, (AEv.int _ _), trivial⟩ Z) (xc Z (op_alloc (cs := (api.Value.ct .full .full .full ({ Kind := 0, Text := ([] : List UInt8), List_ := ([] : List (List UInt8)), Hash := ([] : List api.Field), ZSet := ([] : List api.Scored) } : api.Value))) (v := .agg (api.Value.ct .full .full .full ({ Kind := 0, Text := ([] : List UInt8), List_ := ([] : List (List UInt8)), Hash := ([] : List api.Field), ZSet := ([] : List api.Scored) } : api.Value))) Z zeroValue26 Z Z Z ?_))))
  intro p38
  refine ac0 Z Z (op_store (i := 0) (cs' := (api.Value.ct .full .full .full ({ Kind := 5, Text := ([] : List UInt8), List_ := ([] : List (List UInt8)), Hash := ([] : List api.Field), ZSet := ([] : List api.Scored) } : api.Value))) Z sizeOf26 (tm Z) (v := .agg (api.Value.ct .full .full .full ({ Kind := 5, Text := ([] : List UInt8), List_ := ([] : List (List UInt8)), Hash := ([] : List api.Field), ZSet := ([] : List api.Scored) } : api.Value))) (tm Z) Z Z Z (nb Z) Z (xe ?_))
  obtain ⟨s54, s54e, h55⟩ := bind_some h
  refine aw_meet (ν := Unit) (fun v => [(2, .ptr p37 0), (3, .ptr p38 0)]) (fun v => [(p37, .cells (api.Value.ct .full .full .full ({ Kind := 0, Text := ([] : List UInt8), List_ := ([] : List (List UInt8)), Hash := ([] : List api.Field), ZSet := ([] : List api.Scored) } : api.Value))), (p38, .cells (api.Value.ct .full .full .no ({ Kind := 5, Text := ([] : List UInt8), List_ := ([] : List (List UInt8)), Hash := ([] : List api.Field), ZSet := s54 } : api.Value)))]) ?_ ?_
  ·have h := s54e
   refine xr (xa (.i 0) Z (pu_assign Z (AEv.int _ _)) (xe (aw_block (aw_while (σ := mewsref19.ZSet.S0) (ν := Unit) (mewsref19.ZSet.body0 l) (fun s65 v => [(0, .sl .no 2 (l.map api.Scored.av)), (2, .ptr p37 0), (3, .ptr p38 0), (4, .i s65.i)]) (fun s65 v => [(p37, .cells (api.Value.ct .full .full .full ({ Kind := 0, Text := ([] : List UInt8), List_ := ([] : List (List UInt8)), Hash := ([] : List api.Field), ZSet := ([] : List api.Scored) } : api.Value))), (p38, .cells (api.Value.ct .full .full .no ({ Kind := 5, Text := ([] : List UInt8), List_ := ([] : List (List UInt8)), Hash := ([] : List api.Field), ZSet := s65.c } : api.Value)))]) ⟨0, ([] : List api.Scored)⟩ () _ h (Weak.mkL [1, 0] (by decide) ⟨⟨_, Z, cr, Z⟩, ⟨_, Z, ⟨vr, vr, vr, vr, (AV.Le.forget _ _ _), trivial⟩, Z⟩, trivial⟩ ⟨tm Z, tm Z, tm Z, tm Z, trivial⟩) ?_))))
   rintro s65 _ x67 h hx66
   unfold mewsref19.ZSet.body0 at h
   refine aw_seq (xr (xm Z Z Z (xm Z Z Z (xa (.i (l.length : Int)) Z (pu_lenM Z underlying24 (tm Z)) (xa (.bool (decide (s65.i < (l.length : Int)))) Z (pu_int (v := .bool (decide (s65.i < (l.length : Int)))) Z Z (tm Z) (tm Z) Z) (xe (aw_cond (b := decide (s65.i < (l.length : Int))) (tm Z) (fun hb71 => ?_) (fun hb71 => ?_))))))))
   ·replace h := ite_t (dec_t hb71) h
    refine aw_skip (aw_seq (aw_block ?_))
    obtain ⟨c69, h⟩ := need_of h
    obtain ⟨r70, r70e, h⟩ := bind_some h
    refine aw_planR (by decide +kernel) [[], [(1, 0, false)], [], [], [], [], [], [], [(1, 0, true)]] [[], [8]] [[[(p37, .cells (api.Value.ct .full .full .full ({ Kind := 0, Text := ([] : List UInt8), List_ := ([] : List (List UInt8)), Hash := ([] : List api.Field), ZSet := ([] : List api.Scored) } : api.Value)))]], [[(p38, .cells (api.Value.ct .full .full .no ({ Kind := 5, Text := ([] : List UInt8), List_ := ([] : List (List UInt8)), Hash := ([] : List api.Field), ZSet := s65.c } : api.Value)))], [(p38, .cells (api.Value.ct .full .full .no ({ Kind := 5, Text := ([] : List UInt8), List_ := ([] : List (List UInt8)), Hash := ([] : List api.Field), ZSet := r70 } : api.Value)))]]] [.ptr p38 4, .sl .no 2 (s65.c.map api.Scored.av), .sl .no 2 (l.map api.Scored.av), .i s65.i, .vptr [.str (ix l s65.i).Member, .i (ix l s65.i).Score], .agg [.str (ix l s65.i).Member, .i (ix l s65.i).Score], .sl .no 2 (r70.map api.Scored.av), .ptr p38 4, .un] (by decide +kernel) Z Z ?_ ?_
    ·exact ⟨yp Z (fa Z underlying26 Z sizeOf24 Z Z Z), stepg_plain Z (op_load1 (i := 0) Z isAgg24 (tm Z) Z Z ⟨Z, Z⟩), ym Z Z Z, ym Z Z Z, yp Z (pu_indexAddrM Z underlying24 sizeOf64 (tm Z) (tm Z) c69 Z), stepg_plain Z (op_loadVN Z isAgg64 sizeOf64 (tm Z) (nb Z) Z ⟨Z, Z⟩), stepg_plain Z (op_call (vs := [.sl .no 2 (s65.c.map api.Scored.av), .agg [.str (ix l s65.i).Member, .i (ix l s65.i).Score]]) (H := []) Z call46 ⟨(tm Z), (tm Z), trivial⟩ (R := []) (List.Perm.refl _) (mewsref19.Score.ok r70e) (by rintro _ _ ⟨rfl, rfl⟩; exact ⟨Z, Z⟩)), yp Z (fa Z underlying26 Z sizeOf24 Z Z Z), stepg_plain Z (op_store (i := 0) (cs' := (api.Value.ct .full .full .no ({ Kind := 5, Text := ([] : List UInt8), List_ := ([] : List (List UInt8)), Hash := ([] : List api.Field), ZSet := r70 } : api.Value))) Z sizeOf24 (tm Z) (v := .sl .no 2 (r70.map api.Scored.av)) (tm Z) Z Z Z (nb Z) Z ⟨Z, Z⟩), trivial⟩
    refine aw_region (xm Z Z Z (xa (.i (IntKind.wrap .i64 (s65.i + 1))) Z (pu_int (v := .i (IntKind.wrap .i64 (s65.i + 1))) Z Z (tm Z) (AEv.int _ _) Z) (xm Z Z Z (xe ?_))))
    obtain rfl := some_of h
    exact ⟨_, (), Z, Weak.mkL [0, 1] (by decide) ⟨⟨_, Z, cr, Z⟩, ⟨_, Z, cr, Z⟩, trivial⟩ ⟨tm Z, tm Z, tm Z, (AEv.le (tm Z) vr), trivial⟩⟩
   ·replace h := ite_f (dec_f hb71) h
    refine aw_exit ?_
    obtain rfl := some_of h
    have h := congrArg some (hx66 _ rfl)
    obtain rfl := some_of h
    exact ⟨(), Weak.mkL [0, 1] (by decide) ⟨⟨_, Z, cr, Z⟩, ⟨_, Z, cr, Z⟩, trivial⟩ ⟨tm Z, tm Z, trivial⟩⟩
  ·intro _
   have h := h55
   refine xr (xc Z (op_loadN (i := 1) Z isAgg26 sizeOf26 (tm Z) Z (nb Z) Z (ac0 Z Z (op_store (i := 0) (cs' := (api.Value.ct .full .full .no ({ Kind := 5, Text := ([] : List UInt8), List_ := ([] : List (List UInt8)), Hash := ([] : List api.Field), ZSet := s54 } : api.Value))) Z sizeOf26 (tm Z) (v := .agg (api.Value.ct .full .full .no ({ Kind := 5, Text := ([] : List UInt8), List_ := ([] : List (List UInt8)), Hash := ([] : List api.Field), ZSet := s54 } : api.Value))) (tm Z) Z Z Z (nb Z) Z (xe (aw_ret ?_))))))
   obtain rfl := some_of h
   exact ⟨[.agg (api.Value.ct .full .full .no ({ Kind := 5, Text := ([] : List UInt8), List_ := ([] : List (List UInt8)), Hash := ([] : List api.Field), ZSet := s54 } : api.Value))], _, [], ⟨(CellOk.agg 0 (tm Z) Z isAgg26 sizeOf26 (nb Z) Z), trivial⟩, vr, Weak.mkL [] (by decide) trivial trivial, ⟨Z, Z⟩⟩

theorem mewslaw19.ChargeMakes.ok {l : List (List UInt8)} {h_ : List api.Field} {z : List api.Scored} {r : Bool} (h : mewslaw19.ChargeMakes l h_ z = some r) : Go.Lift.Spec prog 3 [.sl .no 1 (l.map AV.str), .sl .no 2 (h_.map api.Field.av), .sl .no 2 (z.map api.Scored.av)] [] (fun v H => v = .bool r ∧ H = []) := by
 unfold mewslaw19.ChargeMakes at h
 refine Go.Lift.Spec.of_body (rs := [.tmp 6]) func3 Z Z (nb Z) Z (xr (xa (.bool false) Z (pu_assign Z (AEv.bool _)) (xe (xr (xm Z Z Z (xm Z Z Z (xm Z Z Z ?_)))))))
 refine xa (.agg (api.Value.ct .no .no .no ({ Kind := 0, Text := ([] : List UInt8), List_ := l, Hash := h_, ZSet := z } : api.Value))) Z (pu_build (zs := [.i 0, .str ([] : List UInt8), .sl .full 1 (([] : List (List UInt8)).map AV.str), .sl .full 2 (([] : List api.Field).map api.Field.av), .sl .full 2 (([] : List api.Scored).map api.Scored.av)]) (szs := [1, 1, 1, 1, 1]) (aparts := [(2, .sl .no 1 (l.map AV.str)), (3, .sl .no 2 (h_.map api.Field.av)), (4, .sl .no 2 (z.map api.Scored.av))]) (cs := [.i 0, .str ([] : List UInt8), .sl .no 1 (l.map AV.str), .sl .no 2 (h_.map api.Field.av), .sl .no 2 (z.map api.Scored.av)]) Z underlying26 zeroValue26 Z ⟨sizeOf3, sizeOf9, sizeOf22, sizeOf23, sizeOf24, trivial⟩ ⟨Z, (tm Z), ⟨Z, (tm Z), ⟨Z, (tm Z), trivial⟩⟩⟩ Z) (xc Z (op_alloc (cs := (api.Value.ct .full .full .full ({ Kind := 0, Text := ([] : List UInt8), List_ := ([] : List (List UInt8)), Hash := ([] : List api.Field), ZSet := ([] : List api.Scored) } : api.Value))) (v := .agg (api.Value.ct .full .full .full ({ Kind := 0, Text := ([] : List UInt8), List_ := ([] : List (List UInt8)), Hash := ([] : List api.Field), ZSet := ([] : List api.Scored) } : api.Value))) Z zeroValue26 Z Z Z ?_))
 intro p42
 refine ac0 Z Z (op_store (i := 0) (cs' := (api.Value.ct .no .no .no ({ Kind := 0, Text := ([] : List UInt8), List_ := l, Hash := h_, ZSet := z } : api.Value))) Z sizeOf26 (tm Z) (v := .agg (api.Value.ct .no .no .no ({ Kind := 0, Text := ([] : List UInt8), List_ := l, Hash := h_, ZSet := z } : api.Value))) (tm Z) Z Z Z (nb Z) Z (xe (aw_seq (xr (xc Z (op_loadN (i := 0) Z isAgg26 sizeOf26 (tm Z) Z (nb Z) Z (xc Z (op_buildSlice (xs := ([({ Kind := 0, Text := ([] : List UInt8), List_ := l, Hash := h_, ZSet := z } : api.Value)] : List api.Value).map api.Value.av) (aparts := [(0, .agg (api.Value.ct .no .no .no ({ Kind := 0, Text := ([] : List UInt8), List_ := l, Hash := h_, ZSet := z } : api.Value)))]) Z underlying37 sizeOf26 zeroValue26 (by decide) (by decide) ⟨Z, (tm Z), trivial⟩ Z Z Z ?_))))))))
 obtain ⟨r43, r43e, h⟩ := bind_some h
 refine xc Z (op_call (vs := [.sl .no 5 ([({ Kind := 0, Text := ([] : List UInt8), List_ := l, Hash := h_, ZSet := z } : api.Value)].map api.Value.av)]) (H := []) Z call4 ⟨(AEv.le (tm Z) (AV.Le.forget _ _ _)), trivial⟩ (List.Perm.refl _) (mewslaw19.Far.ok r43e) ?_)
 rintro _ _ ⟨rfl, rfl⟩
 refine xe (aw_cond (b := r43) (tm Z) (fun hb82 => ?_) (fun hb82 => ?_))
 ·replace h := ite_t hb82 h
  refine aw_seq (aw_region ?_)
  obtain ⟨r44, r44e, h⟩ := bind_some h
  refine xc Z (op_call (vs := []) (H := []) Z call5 trivial (List.Perm.refl _) (mewslaw19.alive.ok r44e) ?_)
  rintro _ _ ⟨rfl, rfl⟩
  refine xm Z Z Z (xe (aw_ret ?_))
  obtain rfl := some_of h
  exact ⟨[.bool r44], _, [], ⟨(tm Z), trivial⟩, vr, Weak.mkL [] (by decide) trivial trivial, ⟨Z, Z⟩⟩
 ·replace h := ite_fb hb82 h
  refine aw_skip ?_
  obtain ⟨s62, s62e, h63⟩ := bind_some h
  refine aw_meet (ν := Unit) (fun v => [(6, .bool s62)]) (fun v => []) ?_ ?_
  ·have h := s62e
   refine aw_region (xm Z Z Z ?_)
   obtain ⟨r65, r65e, h⟩ := bind_some h
   refine xc Z (op_call (vs := [.sl .no 1 (l.map AV.str)]) (H := []) Z call7 ⟨(tm Z), trivial⟩ (List.Perm.refl _) (charge.List_.ok r65e) ?_)
   rintro _ _ ⟨rfl, rfl⟩
   refine xm Z Z Z ?_
   obtain ⟨r66, r66e, h⟩ := bind_some h
   refine xc Z (op_call (vs := [.sl .no 1 (l.map AV.str)]) (H := []) Z call8 ⟨(tm Z), trivial⟩ (List.Perm.refl _) (mewsref19.List_.ok r66e) ?_)
   rintro _ _ ⟨rfl, rfl⟩
   obtain ⟨r67, r67e, h⟩ := bind_some h
   refine xc Z (op_call (vs := [.agg (api.Value.ct .no .no .no r65), .agg (api.Value.ct .no .no .no r66)]) (H := []) Z call6 ⟨(AEv.le (tm Z) (AV.Le.agg ⟨vr, vr, vr, (AV.Le.forget _ _ _), (AV.Le.forget _ _ _), trivial⟩)), (AEv.le (tm Z) (AV.Le.agg ⟨vr, vr, vr, (AV.Le.forget _ _ _), (AV.Le.forget _ _ _), trivial⟩)), trivial⟩ (List.Perm.refl _) (mewsref19.Same.ok r67e) ?_)
   rintro _ _ ⟨rfl, rfl⟩
   refine xm Z Z Z ?_
   rcases Bool.eq_false_or_eq_true r67 with hb68 | hb68
   ·replace h := ite_t hb68 h
    refine aops_known 21 Z hb68 (xq Z Z Z Z ?_)
    obtain ⟨r69, r69e, h⟩ := bind_some h
    refine xg Z Z (op_call (vs := [.sl .no 1 (l.map AV.str)]) (H := []) Z call9 ⟨(tm Z), trivial⟩ (List.Perm.refl _) (charge.Set.ok r69e) ?_)
    rintro _ _ ⟨rfl, rfl⟩
    refine xq Z Z Z Z ?_
    obtain ⟨r70, r70e, h⟩ := bind_some h
    refine xg Z Z (op_call (vs := [.sl .no 1 (l.map AV.str)]) (H := []) Z call10 ⟨(tm Z), trivial⟩ (List.Perm.refl _) (mewsref19.Set.ok r70e) ?_)
    rintro _ _ ⟨rfl, rfl⟩
    obtain ⟨r71, r71e, h⟩ := bind_some h
    refine xg Z Z (op_call (vs := [.agg (api.Value.ct .no .no .no r69), .agg (api.Value.ct .no .no .no r70)]) (H := []) Z call6 ⟨(AEv.le (tm Z) (AV.Le.agg ⟨vr, vr, (AV.Le.forget _ _ _), (AV.Le.forget _ _ _), (AV.Le.forget _ _ _), trivial⟩)), (AEv.le (tm Z) (AV.Le.agg ⟨vr, vr, vr, (AV.Le.forget _ _ _), (AV.Le.forget _ _ _), trivial⟩)), trivial⟩ (List.Perm.refl _) (mewsref19.Same.ok r71e) ?_)
    rintro _ _ ⟨rfl, rfl⟩
    refine xa (.bool r71) Z (pu_pick (b := true) Z (tm Z) (fun _ => (tm Z)) (fun h => nomatch h)) (xm Z Z Z ?_)
    rcases Bool.eq_false_or_eq_true r71 with hb72 | hb72
    ·replace h := ite_t hb72 h
     refine aops_known 28 Z hb72 (xq Z Z Z Z ?_)
     obtain ⟨r73, r73e, h⟩ := bind_some h
     refine xg Z Z (op_call (vs := [.sl .no 2 (h_.map api.Field.av)]) (H := []) Z call11 ⟨(tm Z), trivial⟩ (List.Perm.refl _) (charge.Hash.ok r73e) ?_)
     rintro _ _ ⟨rfl, rfl⟩
     refine xq Z Z Z Z ?_
     obtain ⟨r74, r74e, h⟩ := bind_some h
     refine xg Z Z (op_call (vs := [.sl .no 2 (h_.map api.Field.av)]) (H := []) Z call12 ⟨(tm Z), trivial⟩ (List.Perm.refl _) (mewsref19.Hash.ok r74e) ?_)
     rintro _ _ ⟨rfl, rfl⟩
     obtain ⟨r75, r75e, h⟩ := bind_some h
     refine xg Z Z (op_call (vs := [.agg (api.Value.ct .no .no .no r73), .agg (api.Value.ct .no .no .no r74)]) (H := []) Z call6 ⟨(AEv.le (tm Z) (AV.Le.agg ⟨vr, vr, (AV.Le.forget _ _ _), vr, (AV.Le.forget _ _ _), trivial⟩)), (AEv.le (tm Z) (AV.Le.agg ⟨vr, vr, (AV.Le.forget _ _ _), vr, (AV.Le.forget _ _ _), trivial⟩)), trivial⟩ (List.Perm.refl _) (mewsref19.Same.ok r75e) ?_)
     rintro _ _ ⟨rfl, rfl⟩
     refine xa (.bool r75) Z (pu_pick (b := true) Z (tm Z) (fun _ => (tm Z)) (fun h => nomatch h)) (xm Z Z Z ?_)
     rcases Bool.eq_false_or_eq_true r75 with hb76 | hb76
     ·replace h := ite_t hb76 h
      refine aops_known 35 Z hb76 (xq Z Z Z Z ?_)
      obtain ⟨r77, r77e, h⟩ := bind_some h
      refine xg Z Z (op_call (vs := [.sl .no 2 (z.map api.Scored.av)]) (H := []) Z call13 ⟨(tm Z), trivial⟩ (List.Perm.refl _) (charge.ZSet.ok r77e) ?_)
      rintro _ _ ⟨rfl, rfl⟩
      refine xq Z Z Z Z ?_
      obtain ⟨r78, r78e, h⟩ := bind_some h
      refine xg Z Z (op_call (vs := [.sl .no 2 (z.map api.Scored.av)]) (H := []) Z call14 ⟨(tm Z), trivial⟩ (List.Perm.refl _) (mewsref19.ZSet.ok r78e) ?_)
      rintro _ _ ⟨rfl, rfl⟩
      obtain ⟨r79, r79e, h⟩ := bind_some h
      refine xg Z Z (op_call (vs := [.agg (api.Value.ct .no .no .no r77), .agg (api.Value.ct .no .no .no r78)]) (H := []) Z call6 ⟨(AEv.le (tm Z) (AV.Le.agg ⟨vr, vr, (AV.Le.forget _ _ _), (AV.Le.forget _ _ _), vr, trivial⟩)), (AEv.le (tm Z) (AV.Le.agg ⟨vr, vr, (AV.Le.forget _ _ _), (AV.Le.forget _ _ _), vr, trivial⟩)), trivial⟩ (List.Perm.refl _) (mewsref19.Same.ok r79e) ?_)
      rintro _ _ ⟨rfl, rfl⟩
      refine xa (.bool r79) Z (pu_pick (b := true) Z (tm Z) (fun _ => (tm Z)) (fun h => nomatch h)) (xm Z Z Z ?_)
      rcases Bool.eq_false_or_eq_true r79 with hb80 | hb80
      ·replace h := ite_t hb80 h
       refine aops_known 42 Z hb80 ?_
       obtain ⟨r81, r81e, h⟩ := bind_some h
       refine xg Z Z (op_call (vs := []) (H := []) Z call5 trivial (List.Perm.refl _) (mewslaw19.alive.ok r81e) ?_)
       rintro _ _ ⟨rfl, rfl⟩
       refine xa (.bool r81) Z (pu_pick (b := true) Z (tm Z) (fun _ => (tm Z)) (fun h => nomatch h)) (xm Z Z Z (xe ?_))
       obtain rfl := some_of h
       exact ⟨(), Weak.mkL [] (by decide) trivial ⟨tm Z, trivial⟩⟩
      ·replace h := ite_fb hb80 h
       refine aops_known 42 Z hb80 (xn Z Z Z (xa (.bool false) Z (pu_pick (b := false) Z (tm Z) (fun h => nomatch h) (fun _ => (AEv.bool _))) (xm Z Z Z (xe ?_))))
       obtain rfl := some_of h
       exact ⟨(), Weak.mkL [] (by decide) trivial ⟨tm Z, trivial⟩⟩
     ·replace h := ite_fb hb76 h
      refine aops_known 35 Z hb76 (xn Z Z Z (xn Z Z Z (xn Z Z Z (xn Z Z Z (xn Z Z Z (xa (.bool false) Z (pu_pick (b := false) Z (tm Z) (fun h => nomatch h) (fun _ => (AEv.bool _))) (xm Z Z Z (xn Z Z Z (xa (.bool false) Z (pu_pick (b := false) Z (tm Z) (fun h => nomatch h) (fun _ => (AEv.bool _))) ?_)))))))))
      refine xm Z Z Z (xe ?_)
      obtain rfl := some_of h
      exact ⟨(), Weak.mkL [] (by decide) trivial ⟨tm Z, trivial⟩⟩
    ·replace h := ite_fb hb72 h
     refine aops_known 28 Z hb72 (xn Z Z Z (xn Z Z Z (xn Z Z Z (xn Z Z Z (xn Z Z Z (xa (.bool false) Z (pu_pick (b := false) Z (tm Z) (fun h => nomatch h) (fun _ => (AEv.bool _))) (xm Z Z Z (xn Z Z Z (xn Z Z Z ?_)))))))))
     refine xn Z Z Z (xn Z Z Z (xn Z Z Z (xa (.bool false) Z (pu_pick (b := false) Z (tm Z) (fun h => nomatch h) (fun _ => (AEv.bool _))) (xm Z Z Z (xn Z Z Z (xa (.bool false) Z (pu_pick (b := false) Z (tm Z) (fun h => nomatch h) (fun _ => (AEv.bool _))) (xm Z Z Z (xe ?_))))))))
     obtain rfl := some_of h
     exact ⟨(), Weak.mkL [] (by decide) trivial ⟨tm Z, trivial⟩⟩
   ·replace h := ite_fb hb68 h
    refine aops_known 21 Z hb68 (xn Z Z Z (xn Z Z Z (xn Z Z Z (xn Z Z Z (xn Z Z Z (xa (.bool false) Z (pu_pick (b := false) Z (tm Z) (fun h => nomatch h) (fun _ => (AEv.bool _))) (xm Z Z Z (xn Z Z Z (xn Z Z Z ?_)))))))))
    refine xn Z Z Z (xn Z Z Z (xn Z Z Z (xa (.bool false) Z (pu_pick (b := false) Z (tm Z) (fun h => nomatch h) (fun _ => (AEv.bool _))) (xm Z Z Z (xn Z Z Z (xn Z Z Z (xn Z Z Z (xn Z Z Z (xn Z Z Z ?_)))))))))
    refine xa (.bool false) Z (pu_pick (b := false) Z (tm Z) (fun h => nomatch h) (fun _ => (AEv.bool _))) (xm Z Z Z (xn Z Z Z (xa (.bool false) Z (pu_pick (b := false) Z (tm Z) (fun h => nomatch h) (fun _ => (AEv.bool _))) (xm Z Z Z (xe ?_)))))
    obtain rfl := some_of h
    exact ⟨(), Weak.mkL [] (by decide) trivial ⟨tm Z, trivial⟩⟩
  ·intro _
   have h := h63
   refine aw_ret ?_
   obtain rfl := some_of h
   exact ⟨[.bool s62], _, [], ⟨(tm Z), trivial⟩, vr, Weak.mkL [] (by decide) trivial trivial, ⟨Z, Z⟩⟩

end Go.Pu
