/- Printed by lift.py: the functions come to them. -/
import Derived.Test.YtfapgollkabopaaLiftW
import Derived.Test.YtfapgollkabopaaCPK1
set_option maxRecDepth 100000
set_option maxHeartbeats 0
namespace Go.Pu
open Go.Lift Go.Proofs.Try Go.RowKit Go.Proofs

theorem mewsref05.many.ok {s_ : List UInt8} {l : api.Limits} {r : api.Input × Int} (h : mewsref05.many s_ l = some r) : Go.Lift.Spec prog 53 [.str s_, .agg [.i l.Args, .i l.Bulk, .i l.Line]] [] (fun v H => v = .tup [.agg [.str r.1.Rest, .sl .no 1 (r.1.Args.map AV.str), .i r.1.Left, .i r.1.Size, .bool r.1.Body, .i r.1.Need, .i r.1.Dead], .i r.2] ∧ H = []) := by
 unfold mewsref05.many at h
 refine Go.Lift.Spec.of_body (rs := [.cell 4 29, .tmp 5]) func53 Z Z (nb Z) Z (xr (xc Z (op_box (cs := [.i l.Args, .i l.Bulk, .i l.Line]) (v := .agg [.i l.Args, .i l.Bulk, .i l.Line]) Z (tm Z) Z Z ?_)))
 intro p161
 refine xc Z (op_alloc (cs := [.str ([] : List UInt8), .sl .full 1 (([] : List (List UInt8)).map AV.str), .i 0, .i 0, .bool false, .i 0, .i 0]) (v := .agg [.str ([] : List UInt8), .sl .full 1 (([] : List (List UInt8)).map AV.str), .i 0, .i 0, .bool false, .i 0, .i 0]) Z zeroValue29 Z Z Z ?_)
 intro p162
 refine xa (.i 0) Z (pu_assign Z (AEv.int _ _)) (xe (xr (xm Z Z Z (xa (.ptr p161 0) Z (fa Z underlying23 Z sizeOf3 Z Z Z) (xc Z (op_load1 (i := 1) Z isAgg3 (tm Z) Z Z ?_))))))
 obtain ⟨r163, r163e, h⟩ := bind_some h
 refine xc Z (op_call (vs := [.str s_, .int .u8 42, .i l.Args, .i 7]) (H := []) Z call78 ⟨(tm Z), (AEv.int _ _), (tm Z), (AEv.int _ _), trivial⟩ (List.Perm.refl _) (mewsref05.first.ok r163e) ?_)
 rintro _ _ ⟨rfl, rfl⟩
 refine xm Z Z Z (xa (.i r163.1) Z (pu_extract Z (tm Z) (nb Z) Z) (xa (.i r163.2.1) Z (pu_extract Z (tm Z) (nb Z) Z) (xa (.i r163.2.2) Z (pu_extract Z (tm Z) (nb Z) Z) (xm Z Z Z (xm Z Z Z (xm Z Z Z (xe (aw_seq (aw_seq ?_)))))))))
 refine aw_region (xm Z Z Z (xa (.bool (!decide (r163.2.2 = 0))) Z (pu_int (v := .bool (!decide (r163.2.2 = 0))) Z Z (tm Z) (AEv.int _ _) Z) (xe (aw_cond (b := (!decide (r163.2.2 = 0))) (tm Z) (fun hb320 => ?_) (fun hb320 => ?_)))))
 ·replace h := ite_f (ndec_t hb320) h
  refine xr (xm Z Z Z (xa (.agg [.str s_, .sl .full 1 (([] : List (List UInt8)).map AV.str), .i 0, .i 0, .bool false, .i 0, .i 0]) Z (pu_build (zs := [.str ([] : List UInt8), .sl .full 1 (([] : List (List UInt8)).map AV.str), .i 0, .i 0, .bool false, .i 0, .i 0]) (szs := [1, 1, 1, 1, 1, 1, 1]) (aparts := [(0, .str s_)]) (cs := [.str s_, .sl .full 1 (([] : List (List UInt8)).map AV.str), .i 0, .i 0, .bool false, .i 0, .i 0]) Z underlying29 zeroValue29 Z ⟨sizeOf9, sizeOf26, sizeOf3, sizeOf3, sizeOf4, sizeOf3, sizeOf27, trivial⟩ ⟨Z, (tm Z), trivial⟩ Z) (xm Z Z Z (ac0 Z Z (op_store (i := 0) (cs' := [.str s_, .sl .full 1 (([] : List (List UInt8)).map AV.str), .i 0, .i 0, .bool false, .i 0, .i 0]) Z sizeOf29 (tm Z) (v := .agg [.str s_, .sl .full 1 (([] : List (List UInt8)).map AV.str), .i 0, .i 0, .bool false, .i 0, .i 0]) (tm Z) Z Z Z (nb Z) Z (xm Z Z Z (xe (aw_ret ?_))))))))
  obtain rfl := some_of h
  exact ⟨[.agg [.str s_, .sl .full 1 (([] : List (List UInt8)).map AV.str), .i 0, .i 0, .bool false, .i 0, .i 0], .i r163.2.2], .tup [.agg [.str s_, .sl .no 1 (([] : List (List UInt8)).map AV.str), .i 0, .i 0, .bool false, .i 0, .i 0], .i r163.2.2], [], ⟨(CellOk.agg 0 (tm Z) Z isAgg29 sizeOf29 (nb Z) Z), (tm Z), trivial⟩, (AV.Le.tup ⟨(AV.Le.agg ⟨vr, (AV.Le.forget _ _ _), vr, vr, vr, vr, vr, trivial⟩), vr, trivial⟩), Weak.mkL [] (by decide) trivial trivial, ⟨Z, Z⟩⟩
 ·replace h := ite_t (ndec_f hb320) h
  refine aw_skip (xr (xm Z Z Z (xm Z Z Z (xa (.agg [.str ([] : List UInt8), .sl .full 1 (([] : List (List UInt8)).map AV.str), .i r163.1, .i r163.2.1, .bool false, .i 0, .i 0]) Z (pu_build (zs := [.str ([] : List UInt8), .sl .full 1 (([] : List (List UInt8)).map AV.str), .i 0, .i 0, .bool false, .i 0, .i 0]) (szs := [1, 1, 1, 1, 1, 1, 1]) (aparts := [(2, .i r163.1), (3, .i r163.2.1)]) (cs := [.str ([] : List UInt8), .sl .full 1 (([] : List (List UInt8)).map AV.str), .i r163.1, .i r163.2.1, .bool false, .i 0, .i 0]) Z underlying29 zeroValue29 Z ⟨sizeOf9, sizeOf26, sizeOf3, sizeOf3, sizeOf4, sizeOf3, sizeOf27, trivial⟩ ⟨Z, (tm Z), ⟨Z, (tm Z), trivial⟩⟩ Z) (xc Z (op_alloc (cs := [.str ([] : List UInt8), .sl .full 1 (([] : List (List UInt8)).map AV.str), .i 0, .i 0, .bool false, .i 0, .i 0]) (v := .agg [.str ([] : List UInt8), .sl .full 1 (([] : List (List UInt8)).map AV.str), .i 0, .i 0, .bool false, .i 0, .i 0]) Z zeroValue29 Z Z Z ?_))))))
  intro p164
  refine ac0 Z Z (op_store (i := 0) (cs' := [.str ([] : List UInt8), .sl .full 1 (([] : List (List UInt8)).map AV.str), .i r163.1, .i r163.2.1, .bool false, .i 0, .i 0]) Z sizeOf29 (tm Z) (v := .agg [.str ([] : List UInt8), .sl .full 1 (([] : List (List UInt8)).map AV.str), .i r163.1, .i r163.2.1, .bool false, .i 0, .i 0]) (tm Z) Z Z Z (nb Z) Z (xe ?_))
  obtain ⟨s319, s319e, h242⟩ := bind_some h
  refine aw_join (σ := (List (List UInt8)) × Int × Int) (ν := Nat) (fun u v => [(4, .ptr p162 0), (9, .ptr p164 0)]) (fun u v => [(p162, .cells [.str ([] : List UInt8), .sl .full 1 (([] : List (List UInt8)).map AV.str), .i 0, .i 0, .bool false, .i 0, .i 0]), (p164, .cells [.str ([] : List UInt8), .sl (.own v) 1 (u.1.map AV.str), .i u.2.1, .i u.2.2, .bool false, .i 0, .i 0]), (v, .spare)]) (fun u => s319 = .inl u) ?_ ?_
  ·intro s240
   intro n241
   rintro rfl
   have h := onSum_inl h242
   refine xr (xc Z (op_loadN (i := 1) Z isAgg29 sizeOf29 (tm Z) Z (nb Z) Z (ac0 Z Z (op_store (i := 0) (cs' := [.str ([] : List UInt8), .sl (.own n241) 1 (s240.1.map AV.str), .i s240.2.1, .i s240.2.2, .bool false, .i 0, .i 0]) Z sizeOf29 (tm Z) (v := .agg [.str ([] : List UInt8), .sl (.own n241) 1 (s240.1.map AV.str), .i s240.2.1, .i s240.2.2, .bool false, .i 0, .i 0]) (tm Z) Z Z Z (nb Z) Z (xa (.i 0) Z (pu_assign Z (AEv.int _ _)) (xe (aw_ret ?_)))))))
   obtain rfl := some_of h
   exact ⟨[.agg [.str ([] : List UInt8), .sl (.own n241) 1 (s240.1.map AV.str), .i s240.2.1, .i s240.2.2, .bool false, .i 0, .i 0], .i 0], .tup [.agg [.str ([] : List UInt8), .sl .no 1 (s240.1.map AV.str), .i s240.2.1, .i s240.2.2, .bool false, .i 0, .i 0], .i 0], [], ⟨(CellOk.agg 0 (tm Z) Z isAgg29 sizeOf29 (nb Z) Z), (tm Z), trivial⟩, (AV.Le.tup ⟨(AV.Le.agg ⟨vr, (AV.Le.forget _ _ _), vr, vr, vr, vr, vr, trivial⟩), vr, trivial⟩), Weak.mkL [] (by decide) trivial trivial, ⟨Z, Z⟩⟩
  ·have h := s319e
   refine aw_block (aw_claimCell 0 1 Z Z fun t318 => (aw_while (σ := mewsref05.many.S0) (ν := Nat) (mewsref05.many.body0 s_ l) (fun s291 v => [(0, .str s_), (3, .ptr p161 0), (4, .ptr p162 0), (9, .ptr p164 0)]) (fun s291 v => [(p161, .cells [.i l.Args, .i l.Bulk, .i l.Line]), (p162, .cells [.str ([] : List UInt8), .sl .full 1 (([] : List (List UInt8)).map AV.str), .i 0, .i 0, .bool false, .i 0, .i 0]), (p164, .cells [.str ([] : List UInt8), .sl (.own v) 1 (s291.c.map AV.str), .i s291.c2, .i s291.c3, .bool false, .i 0, .i 0]), (v, .spare)]) ⟨([] : List (List UInt8)), r163.1, r163.2.1⟩ t318 _ h (Weak.mkL [3, 2, 1, 0] (by decide) ⟨⟨_, Z, cr, Z⟩, ⟨_, Z, cr, Z⟩, ⟨_, Z, cr, Z⟩, ⟨_, Z, Z⟩, trivial⟩ ⟨tm Z, tm Z, tm Z, tm Z, trivial⟩) ?_))
   rintro s291 n292 x294 h hx293
   unfold mewsref05.many.body0 at h
   refine aw_seq (xr (xa (.ptr p164 2) Z (fa Z underlying29 Z sizeOf3 Z Z Z) (xc Z (op_load1 (i := 2) Z isAgg3 (tm Z) Z Z (xa (.bool (decide (0 < s291.c2))) Z (pu_int (v := .bool (decide (0 < s291.c2))) Z Z (tm Z) (AEv.int _ _) Z) (xe (aw_cond (b := decide (0 < s291.c2)) (tm Z) (fun hb317 => ?_) (fun hb317 => ?_))))))))
   ·replace h := ite_t (dec_t hb317) h
    refine aw_skip (aw_block (aw_seq ?_))
    obtain ⟨c296, h⟩ := need_of h
    obtain ⟨r297, r297e, h⟩ := bind_some h
    refine aw_planR (by decide +kernel) [[], [], [(2, 0, false)], [], [], [(0, 0, false)], [], [], [], [], [], [], [], []] [[], [], [], []] [[[(p161, .cells [.i l.Args, .i l.Bulk, .i l.Line])]], [[(p162, .cells [.str ([] : List UInt8), .sl .full 1 (([] : List (List UInt8)).map AV.str), .i 0, .i 0, .bool false, .i 0, .i 0])]], [[(p164, .cells [.str ([] : List UInt8), .sl (.own n292) 1 (s291.c.map AV.str), .i s291.c2, .i s291.c3, .bool false, .i 0, .i 0])]], [[(n292, .spare)]]] [.str s_, .ptr p164 3, .i s291.c3, .str (sub s_ s291.c3 (s_.length : Int)), .ptr p161 1, .i l.Bulk, .tup [.i r297.1, .i r297.2.1, .i r297.2.2], .tup [.i r297.1, .i r297.2.1, .i r297.2.2], .i r297.1, .i r297.2.1, .i r297.2.2, .i r297.1, .i r297.2.1, .i r297.2.2] (by decide +kernel) Z Z ?_ ?_
    ·exact ⟨ym Z Z Z, yp Z (fa Z underlying29 Z sizeOf3 Z Z Z), stepg_plain Z (op_load1 (i := 0) Z isAgg3 (tm Z) Z Z ⟨Z, Z⟩), yp Z (pu_strSliceM Z underlying9 (tm Z) ⟨_, (tm Z)⟩ Z c296), yp Z (fa Z underlying23 Z sizeOf3 Z Z Z), stepg_plain Z (op_load1 (i := 0) Z isAgg3 (tm Z) Z Z ⟨Z, Z⟩), stepg_plain Z (op_call (vs := [.str (sub s_ s291.c3 (s_.length : Int)), .int .u8 36, .i l.Bulk, .i 6]) (H := []) Z call78 ⟨(tm Z), (AEv.int _ _), (tm Z), (AEv.int _ _), trivial⟩ (R := []) (List.Perm.refl _) (mewsref05.first.ok r297e) (by rintro _ _ ⟨rfl, rfl⟩; exact ⟨Z, Z⟩)), ym Z Z Z, yp Z (pu_extract Z (tm Z) (nb Z) Z), yp Z (pu_extract Z (tm Z) (nb Z) Z), yp Z (pu_extract Z (tm Z) (nb Z) Z), ym Z Z Z, ym Z Z Z, ym Z Z Z, trivial⟩
    refine aw_seq (xr (xm Z Z Z (xa (.bool (!decide (r297.2.2 = 0))) Z (pu_int (v := .bool (!decide (r297.2.2 = 0))) Z Z (tm Z) (AEv.int _ _) Z) (xe (aw_cond (b := (!decide (r297.2.2 = 0))) (tm Z) (fun hb316 => ?_) (fun hb316 => ?_))))))
    ·replace h := ite_f (ndec_t hb316) h
     refine xr (xm Z Z Z (xa (.ptr p164 3) Z (fa Z underlying29 Z sizeOf3 Z Z Z) (xc Z (op_load1 (i := 2) Z isAgg3 (tm Z) Z Z ?_))))
     obtain ⟨c298, h⟩ := need_of h
     refine xa (.str (sub s_ s291.c3 (s_.length : Int))) Z (pu_strSliceM Z underlying9 (tm Z) ⟨_, (tm Z)⟩ Z c298) (xa (.ptr p164 0) Z (fa Z underlying29 Z sizeOf9 Z Z Z) (ac0 Z Z (op_store (i := 2) (cs' := [.str (sub s_ s291.c3 (s_.length : Int)), .sl (.own n292) 1 (s291.c.map AV.str), .i s291.c2, .i s291.c3, .bool false, .i 0, .i 0]) Z sizeOf9 (tm Z) (v := .str (sub s_ s291.c3 (s_.length : Int))) (tm Z) Z Z Z (nb Z) Z (xe (xr (xc Z (op_loadN (i := 2) Z isAgg29 sizeOf29 (tm Z) Z (nb Z) Z (xm Z Z Z (ac0 Z Z (op_store (i := 1) (cs' := [.str (sub s_ s291.c3 (s_.length : Int)), .sl (.own n292) 1 (s291.c.map AV.str), .i s291.c2, .i s291.c3, .bool false, .i 0, .i 0]) Z sizeOf29 (tm Z) (v := .agg [.str (sub s_ s291.c3 (s_.length : Int)), .sl (.own n292) 1 (s291.c.map AV.str), .i s291.c2, .i s291.c3, .bool false, .i 0, .i 0]) (tm Z) Z Z Z (nb Z) Z (xm Z Z Z ?_)))))))))))
     refine xe (aw_ret ?_)
     obtain rfl := some_of h
     have h := congrArg some (hx293 _ rfl)
     obtain rfl := some_of h
     have h := onSum_inr h242
     obtain rfl := some_of h
     exact ⟨[.agg [.str (sub s_ s291.c3 (s_.length : Int)), .sl (.own n292) 1 (s291.c.map AV.str), .i s291.c2, .i s291.c3, .bool false, .i 0, .i 0], .i r297.2.2], .tup [.agg [.str (sub s_ s291.c3 (s_.length : Int)), .sl .no 1 (s291.c.map AV.str), .i s291.c2, .i s291.c3, .bool false, .i 0, .i 0], .i r297.2.2], [], ⟨(CellOk.agg 1 (tm Z) Z isAgg29 sizeOf29 (nb Z) Z), (tm Z), trivial⟩, (AV.Le.tup ⟨(AV.Le.agg ⟨vr, (AV.Le.forget _ _ _), vr, vr, vr, vr, vr, trivial⟩), vr, trivial⟩), Weak.mkL [] (by decide) trivial trivial, ⟨Z, Z⟩⟩
    ·replace h := ite_t (ndec_f hb316) h
     refine aw_skip (xr (xa (.ptr p164 3) Z (fa Z underlying29 Z sizeOf3 Z Z Z) (xc Z (op_load1 (i := 2) Z isAgg3 (tm Z) Z Z (xm Z Z Z (xa (.i (IntKind.wrap .i64 (s291.c3 + r297.2.1))) Z (pu_int (v := .i (IntKind.wrap .i64 (s291.c3 + r297.2.1))) Z Z (tm Z) (tm Z) Z) (xa (.ptr p164 3) Z (fa Z underlying29 Z sizeOf3 Z Z Z) (ac0 Z Z (op_store (i := 2) (cs' := [.str ([] : List UInt8), .sl (.own n292) 1 (s291.c.map AV.str), .i s291.c2, .i (IntKind.wrap .i64 (s291.c3 + r297.2.1)), .bool false, .i 0, .i 0]) Z sizeOf3 (tm Z) (v := .i (IntKind.wrap .i64 (s291.c3 + r297.2.1))) (tm Z) Z Z Z (nb Z) Z (xe ?_))))))))))
     refine xr (xm Z Z Z (xa (.ptr p164 3) Z (fa Z underlying29 Z sizeOf3 Z Z Z) (xc Z (op_load1 (i := 2) Z isAgg3 (tm Z) Z Z ?_))))
     obtain ⟨c299, h⟩ := need_of h
     refine xa (.str (sub s_ (IntKind.wrap .i64 (s291.c3 + r297.2.1)) (s_.length : Int))) Z (pu_strSliceM Z underlying9 (tm Z) ⟨_, (tm Z)⟩ Z c299) (xm Z Z Z (xe (xr (xa (.i (-1)) Z (pu_assign Z (AEv.int _ _)) (xe ?_)))))
     obtain ⟨s304, s304e, h305⟩ := bind_some h
     refine aw_meet (ν := Unit) (fun v => [(0, .str s_), (3, .ptr p161 0), (4, .ptr p162 0), (9, .ptr p164 0), (10, .i r297.1), (13, .str (sub s_ (IntKind.wrap .i64 (s291.c3 + r297.2.1)) (s_.length : Int))), (14, .i s304)]) (fun v => [(p161, .cells [.i l.Args, .i l.Bulk, .i l.Line]), (p162, .cells [.str ([] : List UInt8), .sl .full 1 (([] : List (List UInt8)).map AV.str), .i 0, .i 0, .bool false, .i 0, .i 0]), (p164, .cells [.str ([] : List UInt8), .sl (.own n292) 1 (s291.c.map AV.str), .i s291.c2, .i (IntKind.wrap .i64 (s291.c3 + r297.2.1)), .bool false, .i 0, .i 0]), (n292, .spare)]) ?_ ?_
     ·have h := s304e
      refine xr (xm Z Z Z (xa (.i ((sub s_ (IntKind.wrap .i64 (s291.c3 + r297.2.1)) (s_.length : Int)).length : Int)) Z (pu_strLen Z underlying9 (tm Z)) (xm Z Z Z (xa (.bool (decide (r297.1 ≤ ((sub s_ (IntKind.wrap .i64 (s291.c3 + r297.2.1)) (s_.length : Int)).length : Int)))) Z (pu_int (v := .bool (decide (r297.1 ≤ ((sub s_ (IntKind.wrap .i64 (s291.c3 + r297.2.1)) (s_.length : Int)).length : Int)))) Z Z (tm Z) (tm Z) Z) (xe (aw_cond (b := decide (r297.1 ≤ ((sub s_ (IntKind.wrap .i64 (s291.c3 + r297.2.1)) (s_.length : Int)).length : Int))) (tm Z) (fun hb310 => ?_) (fun hb310 => ?_)))))))
      ·replace h := ite_t (dec_t hb310) h
       refine aw_region (xm Z Z Z (xm Z Z Z ?_))
       obtain ⟨c307, h⟩ := need_of h
       obtain ⟨x308, x308e, h⟩ := letO_of h
       refine xa (.str x308) Z (APure.eq (pu_strSliceM Z underlying9 (tm Z) ⟨_, (tm Z)⟩ Z c307) (congrArg (AV.str) x308e.symm)) ?_
       obtain ⟨r309, r309e, h⟩ := bind_some h
       refine xc Z (op_call (vs := [.str x308]) (H := []) Z call79 ⟨(tm Z), trivial⟩ (List.Perm.refl _) (mewsref05.ends.ok r309e) ?_)
       rintro _ _ ⟨rfl, rfl⟩
       refine xm Z Z Z (xe ?_)
       obtain rfl := some_of h
       exact ⟨(), Weak.mkL [0, 1, 2, 3] (by decide) ⟨⟨_, Z, cr, Z⟩, ⟨_, Z, cr, Z⟩, ⟨_, Z, cr, Z⟩, ⟨_, Z, Z⟩, trivial⟩ ⟨tm Z, tm Z, tm Z, tm Z, tm Z, tm Z, tm Z, trivial⟩⟩
      ·replace h := ite_f (dec_f hb310) h
       refine aw_skip ?_
       obtain rfl := some_of h
       exact ⟨(), Weak.mkL [0, 1, 2, 3] (by decide) ⟨⟨_, Z, cr, Z⟩, ⟨_, Z, cr, Z⟩, ⟨_, Z, cr, Z⟩, ⟨_, Z, Z⟩, trivial⟩ ⟨tm Z, tm Z, tm Z, tm Z, tm Z, tm Z, tm Z, trivial⟩⟩
     ·intro _
      have h := h305
      refine aw_seq (xr (xm Z Z Z (xa (.bool (!decide (s304 = 0))) Z (pu_int (v := .bool (!decide (s304 = 0))) Z Z (tm Z) (AEv.int _ _) Z) (xe (aw_cond (b := (!decide (s304 = 0))) (tm Z) (fun hb315 => ?_) (fun hb315 => ?_))))))
      ·replace h := ite_f (ndec_t hb315) h
       refine xr (xa (.ptr p164 4) Z (fa Z underlying29 Z sizeOf4 Z Z Z) (ac0 Z Z (op_store (i := 2) (cs' := [.str ([] : List UInt8), .sl (.own n292) 1 (s291.c.map AV.str), .i s291.c2, .i (IntKind.wrap .i64 (s291.c3 + r297.2.1)), .bool true, .i 0, .i 0]) Z sizeOf4 (tm Z) (v := .bool true) (AEv.bool _) Z Z Z (nb Z) Z (xe (xr (xm Z Z Z (xa (.ptr p164 5) Z (fa Z underlying29 Z sizeOf3 Z Z Z) (ac0 Z Z (op_store (i := 2) (cs' := [.str ([] : List UInt8), .sl (.own n292) 1 (s291.c.map AV.str), .i s291.c2, .i (IntKind.wrap .i64 (s291.c3 + r297.2.1)), .bool true, .i r297.1, .i 0]) Z sizeOf3 (tm Z) (v := .i r297.1) (tm Z) Z Z Z (nb Z) Z ?_)))))))))
       refine xe (xr (xm Z Z Z (xa (.ptr p164 0) Z (fa Z underlying29 Z sizeOf9 Z Z Z) (ac0 Z Z (op_store (i := 2) (cs' := [.str (sub s_ (IntKind.wrap .i64 (s291.c3 + r297.2.1)) (s_.length : Int)), .sl (.own n292) 1 (s291.c.map AV.str), .i s291.c2, .i (IntKind.wrap .i64 (s291.c3 + r297.2.1)), .bool true, .i r297.1, .i 0]) Z sizeOf9 (tm Z) (v := .str (sub s_ (IntKind.wrap .i64 (s291.c3 + r297.2.1)) (s_.length : Int))) (tm Z) Z Z Z (nb Z) Z (xe (xr (xc Z (op_loadN (i := 2) Z isAgg29 sizeOf29 (tm Z) Z (nb Z) Z ?_)))))))))
       refine xm Z Z Z (ac0 Z Z (op_store (i := 1) (cs' := [.str (sub s_ (IntKind.wrap .i64 (s291.c3 + r297.2.1)) (s_.length : Int)), .sl (.own n292) 1 (s291.c.map AV.str), .i s291.c2, .i (IntKind.wrap .i64 (s291.c3 + r297.2.1)), .bool true, .i r297.1, .i 0]) Z sizeOf29 (tm Z) (v := .agg [.str (sub s_ (IntKind.wrap .i64 (s291.c3 + r297.2.1)) (s_.length : Int)), .sl (.own n292) 1 (s291.c.map AV.str), .i s291.c2, .i (IntKind.wrap .i64 (s291.c3 + r297.2.1)), .bool true, .i r297.1, .i 0]) (tm Z) Z Z Z (nb Z) Z (xm Z Z Z (xe (aw_ret ?_)))))
       obtain rfl := some_of h
       have h := congrArg some (hx293 _ rfl)
       obtain rfl := some_of h
       have h := onSum_inr h242
       obtain rfl := some_of h
       exact ⟨[.agg [.str (sub s_ (IntKind.wrap .i64 (s291.c3 + r297.2.1)) (s_.length : Int)), .sl (.own n292) 1 (s291.c.map AV.str), .i s291.c2, .i (IntKind.wrap .i64 (s291.c3 + r297.2.1)), .bool true, .i r297.1, .i 0], .i s304], .tup [.agg [.str (sub s_ (IntKind.wrap .i64 (s291.c3 + r297.2.1)) (s_.length : Int)), .sl .no 1 (s291.c.map AV.str), .i s291.c2, .i (IntKind.wrap .i64 (s291.c3 + r297.2.1)), .bool true, .i r297.1, .i 0], .i s304], [], ⟨(CellOk.agg 1 (tm Z) Z isAgg29 sizeOf29 (nb Z) Z), (tm Z), trivial⟩, (AV.Le.tup ⟨(AV.Le.agg ⟨vr, (AV.Le.forget _ _ _), vr, vr, vr, vr, vr, trivial⟩), vr, trivial⟩), Weak.mkL [] (by decide) trivial trivial, ⟨Z, Z⟩⟩
      ·replace h := ite_t (ndec_f hb315) h
       refine aw_skip (aw_seq ?_)
       obtain ⟨c311, h⟩ := need_of h
       obtain ⟨x312, x312e, h⟩ := letO_of h
       obtain ⟨c313, h⟩ := need_of h
       refine aw_reserve fun p314 => (aw_planR (by decide +kernel) [[], [(3, 0, false)], [], [], [], [], [(4, 0, true), (0, 0, true)], [], [(3, 0, true)]] [[6], [], [], [8], [6]] [[[(p314, .resv)], [(p314, .spare)]], [[(p161, .cells [.i l.Args, .i l.Bulk, .i l.Line])]], [[(p162, .cells [.str ([] : List UInt8), .sl .full 1 (([] : List (List UInt8)).map AV.str), .i 0, .i 0, .bool false, .i 0, .i 0])]], [[(p164, .cells [.str ([] : List UInt8), .sl (.own n292) 1 (s291.c.map AV.str), .i s291.c2, .i (IntKind.wrap .i64 (s291.c3 + r297.2.1)), .bool false, .i 0, .i 0])], [(p164, .cells [.str ([] : List UInt8), .sl (.own p314) 1 ((s291.c ++ [x312]).map AV.str), .i s291.c2, .i (IntKind.wrap .i64 (s291.c3 + r297.2.1)), .bool false, .i 0, .i 0])]], [[(n292, .spare)], []]] [.ptr p164 1, .sl (.own n292) 1 (s291.c.map AV.str), .str (sub s_ (IntKind.wrap .i64 (s291.c3 + r297.2.1)) (s_.length : Int)), .i r297.1, .str x312, .sl .full 1 ([x312].map AV.str), .sl (.own p314) 1 ((s291.c ++ [x312]).map AV.str), .ptr p164 1, .un] (by decide +kernel) Z Z ?_ ?_)
       ·exact ⟨yp Z (fa Z underlying29 Z sizeOf26 Z Z Z), stepg_plain Z (op_load1 (i := 0) Z isAgg26 (tm Z) Z Z ⟨Z, Z⟩), ym Z Z Z, ym Z Z Z, yp Z (APure.eq (pu_strSliceM Z underlying9 (tm Z) Z ⟨_, (tm Z)⟩ c311) (congrArg (AV.str) x312e.symm)), stepg_plain Z (op_buildSlice (xs := ([x312] : List (List UInt8)).map AV.str) (aparts := [(0, .str x312)]) Z underlying26 sizeOf9 zeroValue9 (by decide) (by decide) ⟨Z, (tm Z), trivial⟩ Z Z Z ⟨Z, Z⟩), stepg_plain Z (aop_settleS (op_appendOM (q := 0) Z underlying26 underlying26 (.inl Z) typeInfo9 Z Z Z (by decide) (tm Z) Z (given_sl (tm Z)) c313 fun t => ⟨t, Z, Z⟩) ⟨Z, Z⟩), yp Z (fa Z underlying29 Z sizeOf26 Z Z Z), stepg_plain Z (op_store (i := 0) (cs' := [.str ([] : List UInt8), .sl (.own p314) 1 ((s291.c ++ [x312]).map AV.str), .i s291.c2, .i (IntKind.wrap .i64 (s291.c3 + r297.2.1)), .bool false, .i 0, .i 0]) Z sizeOf26 (tm Z) (v := .sl (.own p314) 1 ((s291.c ++ [x312]).map AV.str)) (tm Z) Z Z Z (nb Z) Z ⟨Z, Z⟩), trivial⟩
       refine xr (xa (.ptr p164 2) Z (fa Z underlying29 Z sizeOf3 Z Z Z) (xc Z (op_load1 (i := 3) Z isAgg3 (tm Z) Z Z (xa (.i (IntKind.wrap .i64 (s291.c2 - 1))) Z (pu_int (v := .i (IntKind.wrap .i64 (s291.c2 - 1))) Z Z (tm Z) (AEv.int _ _) Z) (xa (.ptr p164 2) Z (fa Z underlying29 Z sizeOf3 Z Z Z) (ac0 Z Z (op_store (i := 3) (cs' := [.str ([] : List UInt8), .sl (.own p314) 1 ((s291.c ++ [x312]).map AV.str), .i (IntKind.wrap .i64 (s291.c2 - 1)), .i (IntKind.wrap .i64 (s291.c3 + r297.2.1)), .bool false, .i 0, .i 0]) Z sizeOf3 (tm Z) (v := .i (IntKind.wrap .i64 (s291.c2 - 1))) (tm Z) Z Z Z (nb Z) Z (xe (aw_region (xa (.ptr p164 3) Z (fa Z underlying29 Z sizeOf3 Z Z Z) ?_))))))))))
       refine xc Z (op_load1 (i := 3) Z isAgg3 (tm Z) Z Z (xm Z Z Z (xa (.i (IntKind.wrap .i64 (r297.1 + 2))) Z (pu_int (v := .i (IntKind.wrap .i64 (r297.1 + 2))) Z Z (tm Z) (AEv.int _ _) Z) (xa (.i (IntKind.wrap .i64 ((IntKind.wrap .i64 (s291.c3 + r297.2.1)) + (IntKind.wrap .i64 (r297.1 + 2))))) Z (pu_int (v := .i (IntKind.wrap .i64 ((IntKind.wrap .i64 (s291.c3 + r297.2.1)) + (IntKind.wrap .i64 (r297.1 + 2))))) Z Z (tm Z) (tm Z) Z) (xa (.ptr p164 3) Z (fa Z underlying29 Z sizeOf3 Z Z Z) (ac0 Z Z (op_store (i := 3) (cs' := [.str ([] : List UInt8), .sl (.own p314) 1 ((s291.c ++ [x312]).map AV.str), .i (IntKind.wrap .i64 (s291.c2 - 1)), .i (IntKind.wrap .i64 ((IntKind.wrap .i64 (s291.c3 + r297.2.1)) + (IntKind.wrap .i64 (r297.1 + 2)))), .bool false, .i 0, .i 0]) Z sizeOf3 (tm Z) (v := .i (IntKind.wrap .i64 ((IntKind.wrap .i64 (s291.c3 + r297.2.1)) + (IntKind.wrap .i64 (r297.1 + 2))))) (tm Z) Z Z Z (nb Z) Z (xe ?_))))))))
       obtain rfl := some_of h
       exact ⟨_, p314, Z, Weak.mkL [1, 2, 3, 0] (by decide) ⟨⟨_, Z, cr, Z⟩, ⟨_, Z, cr, Z⟩, ⟨_, Z, ⟨vr, vr, vr, vr, vr, vr, vr, trivial⟩, Z⟩, ⟨_, Z, Z⟩, trivial⟩ ⟨tm Z, tm Z, tm Z, tm Z, trivial⟩⟩
   ·replace h := ite_f (dec_f hb317) h
    refine aw_exit ?_
    obtain rfl := some_of h
    have h := congrArg some (hx293 _ rfl)
    exact ⟨(s291.c, s291.c2, s291.c3), n292, (some_of h).symm, Weak.mkL [1, 2, 3] (by decide) ⟨⟨_, Z, cr, Z⟩, ⟨_, Z, cr, Z⟩, ⟨_, Z, Z⟩, trivial⟩ ⟨tm Z, tm Z, trivial⟩⟩

theorem mewsref04.digit.ok {c_ : Int} {r : Int} (h : mewsref04.digit c_ = some r) : Go.Lift.Spec prog 93 [.int .u8 c_] [] (fun v H => v = .i r ∧ H = []) := by
 unfold mewsref04.digit at h
 refine Go.Lift.Spec.of_body (rs := [.tmp 2]) func93 Z Z (nb Z) Z (xr (xa (.i 0) Z (pu_assign Z (AEv.int _ _)) (xe (xr (xa (.str [48, 49, 50, 51, 52, 53, 54, 55, 56, 57, 97, 98, 99, 100, 101, 102]) Z (pu_assign Z (AEv.const Z)) (xa (.str [48, 49, 50, 51, 52, 53, 54, 55, 56, 57, 65, 66, 67, 68, 69, 70]) Z (pu_assign Z (AEv.const Z)) (xe ?_)))))))
 obtain ⟨s164, s164e, h123⟩ := bind_some h
 refine aw_join (σ := Unit) (ν := Unit) (fun u v => []) (fun u v => []) (fun u => s164 = .inl u) ?_ ?_
 ·intro s122
  intro _
  rintro rfl
  have h := onSum_inl h123
  refine xr (xa (.i 16) Z (pu_assign Z (AEv.int _ _)) (xe (aw_ret ?_)))
  obtain rfl := some_of h
  exact ⟨[.i 16], _, [], ⟨(tm Z), trivial⟩, vr, Weak.mkL [] (by decide) trivial trivial, ⟨Z, Z⟩⟩
 ·have h := s164e
  refine xr (xa (.i 0) Z (pu_assign Z (AEv.int _ _)) (xe (aw_block (aw_while (σ := mewsref04.digit.S0) (ν := Unit) (mewsref04.digit.body0 c_) (fun s149 v => [(0, .int .u8 c_), (3, .str [48, 49, 50, 51, 52, 53, 54, 55, 56, 57, 97, 98, 99, 100, 101, 102]), (4, .str [48, 49, 50, 51, 52, 53, 54, 55, 56, 57, 65, 66, 67, 68, 69, 70]), (5, .i s149.i)]) (fun s149 v => []) ⟨0⟩ () _ h (Weak.mkL [] (by decide) trivial ⟨tm Z, tm Z, tm Z, tm Z, trivial⟩) ?_))))
  rintro s149 _ x151 h hx150
  unfold mewsref04.digit.body0 at h
  refine aw_seq (xr (xm Z Z Z (xa (.bool (decide (s149.i < 16))) Z (pu_int (v := .bool (decide (s149.i < 16))) Z Z (tm Z) (AEv.int _ _) Z) (xe (aw_cond (b := decide (s149.i < 16)) (tm Z) (fun hb163 => ?_) (fun hb163 => ?_))))))
  ·replace h := ite_t (dec_t hb163) h
   refine aw_skip (aw_seq (aw_block ?_))
   obtain ⟨s156, s156e, h157⟩ := bind_some h
   refine aw_meet (ν := Unit) (fun v => [(0, .int .u8 c_), (3, .str [48, 49, 50, 51, 52, 53, 54, 55, 56, 57, 97, 98, 99, 100, 101, 102]), (4, .str [48, 49, 50, 51, 52, 53, 54, 55, 56, 57, 65, 66, 67, 68, 69, 70]), (5, .i s149.i), (21, .bool s156)]) (fun v => []) ?_ ?_
   ·have h := s156e
    refine aw_region (xm Z Z Z (xm Z Z Z ?_))
    obtain ⟨c159, h⟩ := need_of h
    refine xa (.int .u8 (bix [48, 49, 50, 51, 52, 53, 54, 55, 56, 57, 97, 98, 99, 100, 101, 102] s149.i)) Z (pu_strIdxM Z underlying9 (tm Z) (tm Z) c159) (xm Z Z Z (xa (.bool (decide ((bix [48, 49, 50, 51, 52, 53, 54, 55, 56, 57, 97, 98, 99, 100, 101, 102] s149.i) = c_))) Z (pu_int (v := .bool (decide ((bix [48, 49, 50, 51, 52, 53, 54, 55, 56, 57, 97, 98, 99, 100, 101, 102] s149.i) = c_))) Z Z (tm Z) (tm Z) Z) (xm Z Z Z ?_)))
    rcases Bool.eq_false_or_eq_true (decide ((bix [48, 49, 50, 51, 52, 53, 54, 55, 56, 57, 97, 98, 99, 100, 101, 102] s149.i) = c_)) with hb160 | hb160
    ·replace h := ite_t (dec_t hb160) h
     refine aops_known 15 Z hb160 (xn Z Z Z (xn Z Z Z (xn Z Z Z (xn Z Z Z (xn Z Z Z (xa (.bool true) Z (pu_pick (b := true) Z (tm Z) (fun _ => (AEv.bool _)) (fun h => nomatch h)) (xe ?_)))))))
     obtain rfl := some_of h
     exact ⟨(), Weak.mkL [] (by decide) trivial ⟨tm Z, tm Z, tm Z, tm Z, tm Z, trivial⟩⟩
    ·replace h := ite_f (dec_f hb160) h
     refine aops_known 15 Z hb160 (xq Z Z Z Z (xq Z Z Z Z ?_))
     obtain ⟨c161, h⟩ := need_of h
     refine xp (.int .u8 (bix [48, 49, 50, 51, 52, 53, 54, 55, 56, 57, 65, 66, 67, 68, 69, 70] s149.i)) Z Z (pu_strIdxM Z underlying9 (tm Z) (tm Z) c161) (xq Z Z Z Z (xp (.bool (decide ((bix [48, 49, 50, 51, 52, 53, 54, 55, 56, 57, 65, 66, 67, 68, 69, 70] s149.i) = c_))) Z Z (pu_int (v := .bool (decide ((bix [48, 49, 50, 51, 52, 53, 54, 55, 56, 57, 65, 66, 67, 68, 69, 70] s149.i) = c_))) Z Z (tm Z) (tm Z) Z) (xa (.bool (decide ((bix [48, 49, 50, 51, 52, 53, 54, 55, 56, 57, 65, 66, 67, 68, 69, 70] s149.i) = c_))) Z (pu_pick (b := false) Z (tm Z) (fun h => nomatch h) (fun _ => (tm Z))) (xe ?_))))
     obtain rfl := some_of h
     exact ⟨(), Weak.mkL [] (by decide) trivial ⟨tm Z, tm Z, tm Z, tm Z, (AEv.le (tm Z) vr), trivial⟩⟩
   ·intro _
    have h := h157
    refine aw_cond (b := s156) (tm Z) (fun hb162 => ?_) (fun hb162 => ?_)
    ·replace h := ite_t hb162 h
     refine xr (xm Z Z Z (xm Z Z Z (xe (aw_ret ?_))))
     obtain rfl := some_of h
     have h := congrArg some (hx150 _ rfl)
     obtain rfl := some_of h
     have h := onSum_inr h123
     obtain rfl := some_of h
     exact ⟨[.i s149.i], _, [], ⟨(tm Z), trivial⟩, vr, Weak.mkL [] (by decide) trivial trivial, ⟨Z, Z⟩⟩
    ·replace h := ite_fb hb162 h
     refine aw_skip (aw_region (xm Z Z Z (xa (.i (IntKind.wrap .i64 (s149.i + 1))) Z (pu_int (v := .i (IntKind.wrap .i64 (s149.i + 1))) Z Z (tm Z) (AEv.int _ _) Z) (xm Z Z Z (xe ?_)))))
     obtain rfl := some_of h
     exact ⟨_, (), Z, Weak.mkL [] (by decide) trivial ⟨tm Z, tm Z, tm Z, (AEv.le (tm Z) vr), trivial⟩⟩
  ·replace h := ite_f (dec_f hb163) h
   refine aw_exit ?_
   obtain rfl := some_of h
   have h := congrArg some (hx150 _ rfl)
   exact ⟨(), (), (some_of h).symm, Weak.mkL [] (by decide) trivial trivial⟩

theorem mewsref04.turned.ok {c_ : Int} {r : Int} (h : mewsref04.turned c_ = some r) : Go.Lift.Spec prog 94 [.int .u8 c_] [] (fun v H => v = .int .u8 r ∧ H = []) := by
 unfold mewsref04.turned at h
 refine Go.Lift.Spec.of_body (rs := [.tmp 2]) func94 Z Z (nb Z) Z (xr (xa (.int .u8 0) Z (pu_assign Z (AEv.int _ _)) (xe (xr (xa (.str [110, 114, 116, 98, 97]) Z (pu_assign Z (AEv.const Z)) (xa (.str [10, 13, 9, 8, 7]) Z (pu_assign Z (AEv.const Z)) (xe ?_)))))))
 obtain ⟨s80, s80e, h60⟩ := bind_some h
 refine aw_join (σ := Unit) (ν := Unit) (fun u v => [(0, .int .u8 c_)]) (fun u v => []) (fun u => s80 = .inl u) ?_ ?_
 ·intro s59
  intro _
  rintro rfl
  have h := onSum_inl h60
  refine xr (xm Z Z Z (xm Z Z Z (xe (aw_ret ?_))))
  obtain rfl := some_of h
  exact ⟨[.int .u8 c_], _, [], ⟨(tm Z), trivial⟩, vr, Weak.mkL [] (by decide) trivial trivial, ⟨Z, Z⟩⟩
 ·have h := s80e
  refine xr (xa (.i 0) Z (pu_assign Z (AEv.int _ _)) (xe (aw_block (aw_while (σ := mewsref04.turned.S0) (ν := Unit) (mewsref04.turned.body0 c_) (fun s72 v => [(0, .int .u8 c_), (3, .str [110, 114, 116, 98, 97]), (4, .str [10, 13, 9, 8, 7]), (5, .i s72.i)]) (fun s72 v => []) ⟨0⟩ () _ h (Weak.mkL [] (by decide) trivial ⟨tm Z, tm Z, tm Z, tm Z, trivial⟩) ?_))))
  rintro s72 _ x74 h hx73
  unfold mewsref04.turned.body0 at h
  refine aw_seq (xr (xm Z Z Z (xm Z Z Z (xa (.i ([110, 114, 116, 98, 97].length : Int)) Z (pu_strLen Z underlying9 (tm Z)) (xa (.bool (decide (s72.i < ([110, 114, 116, 98, 97].length : Int)))) Z (pu_int (v := .bool (decide (s72.i < ([110, 114, 116, 98, 97].length : Int)))) Z Z (tm Z) (tm Z) Z) (xe (aw_cond (b := decide (s72.i < ([110, 114, 116, 98, 97].length : Int))) (tm Z) (fun hb79 => ?_) (fun hb79 => ?_))))))))
  ·replace h := ite_t (dec_t hb79) h
   refine aw_skip (aw_seq (aw_block (xr (xm Z Z Z (xm Z Z Z ?_)))))
   obtain ⟨c76, h⟩ := need_of h
   refine xa (.int .u8 (bix [110, 114, 116, 98, 97] s72.i)) Z (pu_strIdxM Z underlying9 (tm Z) (tm Z) c76) (xm Z Z Z (xa (.bool (decide ((bix [110, 114, 116, 98, 97] s72.i) = c_))) Z (pu_int (v := .bool (decide ((bix [110, 114, 116, 98, 97] s72.i) = c_))) Z Z (tm Z) (tm Z) Z) (xe (aw_cond (b := decide ((bix [110, 114, 116, 98, 97] s72.i) = c_)) (tm Z) (fun hb78 => ?_) (fun hb78 => ?_)))))
   ·replace h := ite_t (dec_t hb78) h
    refine xr (xm Z Z Z (xm Z Z Z ?_))
    obtain ⟨c77, h⟩ := need_of h
    refine xa (.int .u8 (bix [10, 13, 9, 8, 7] s72.i)) Z (pu_strIdxM Z underlying9 (tm Z) (tm Z) c77) (xm Z Z Z (xe (aw_ret ?_)))
    obtain rfl := some_of h
    have h := congrArg some (hx73 _ rfl)
    obtain rfl := some_of h
    have h := onSum_inr h60
    obtain rfl := some_of h
    exact ⟨[.int .u8 (bix [10, 13, 9, 8, 7] s72.i)], _, [], ⟨(tm Z), trivial⟩, vr, Weak.mkL [] (by decide) trivial trivial, ⟨Z, Z⟩⟩
   ·replace h := ite_f (dec_f hb78) h
    refine aw_skip (aw_region (xm Z Z Z (xa (.i (IntKind.wrap .i64 (s72.i + 1))) Z (pu_int (v := .i (IntKind.wrap .i64 (s72.i + 1))) Z Z (tm Z) (AEv.int _ _) Z) (xm Z Z Z (xe ?_)))))
    obtain rfl := some_of h
    exact ⟨_, (), Z, Weak.mkL [] (by decide) trivial ⟨tm Z, tm Z, tm Z, (AEv.le (tm Z) vr), trivial⟩⟩
  ·replace h := ite_f (dec_f hb79) h
   refine aw_exit ?_
   obtain rfl := some_of h
   have h := congrArg some (hx73 _ rfl)
   exact ⟨(), (), (some_of h).symm, Weak.mkL [] (by decide) trivial ⟨tm Z, trivial⟩⟩

theorem mewsref04.Split.ok {s_ : List UInt8} {r : (List (List UInt8)) × Bool} (h : mewsref04.Split s_ = some r) : Go.Lift.Spec prog 80 [.str s_] [] (fun v H => ∃ n0, v = .tup [.sl (.own n0) 1 (r.1.map AV.str), .bool r.2] ∧ H = [(n0, .spare)]) := by
 unfold mewsref04.Split at h
 refine Go.Lift.Spec.of_body (rs := [.tmp 2, .tmp 3]) func80 Z Z (nb Z) Z (xr (xa (.sl .full 1 (([] : List (List UInt8)).map AV.str)) Z (pu_assign Z (AEv.nil 1 (by decide))) (xa (.bool false) Z (pu_assign Z (AEv.bool _)) (xe (xr (xa (.sl .full 1 (([] : List (List UInt8)).map AV.str)) Z (pu_assign Z (AEv.nil 1 (by decide))) (xe ?_)))))))
 refine xr (xa (.int .u8 0) Z (pu_assign Z (AEv.int _ _)) (xe (xr (xa (.bool false) Z (pu_assign Z (AEv.bool _)) (xa (.bool false) Z (pu_assign Z (AEv.bool _)) (xe (aw_seq ?_)))))))
 refine aw_region (xa (.str ([] : List UInt8)) Z (pu_assign Z (AEv.const Z)) (xe ?_))
 obtain ⟨s3254, s3254e, h2434⟩ := bind_some h
 refine aw_join (σ := (List (List UInt8)) × Int × Bool × (List UInt8)) (ν := Nat) (fun u v => [(4, .sl (.own v) 1 (u.1.map AV.str)), (5, .int .u8 u.2.1), (6, .bool u.2.2.1), (8, .str u.2.2.2)]) (fun u v => [(v, .spare)]) (fun u => s3254 = .inl u) ?_ ?_
 ·intro s2432
  intro n2433
  rintro rfl
  have h := onSum_inl h2434
  refine aw_seq (xr (xm Z Z Z (xa (.bool (!decide (s2432.2.1 = 0))) Z (pu_int (v := .bool (!decide (s2432.2.1 = 0))) Z Z (tm Z) (AEv.int _ _) Z) (xe (aw_cond (b := (!decide (s2432.2.1 = 0))) (tm Z) (fun hb3253 => ?_) (fun hb3253 => ?_))))))
  ·replace h := ite_f (ndec_t hb3253) h
   refine xr (xa (.sl .full 1 (([] : List (List UInt8)).map AV.str)) Z (pu_assign Z (AEv.nil 1 (by decide))) (xa (.bool false) Z (pu_assign Z (AEv.bool _)) (xe (aw_claim 2 (tm Z) fun t3242 => (aw_ret ?_)))))
   obtain rfl := some_of h
   exact ⟨[.sl (.own t3242) 1 (([] : List (List UInt8)).map AV.str), .bool false], _, [(t3242, .spare)], ⟨(tm Z), (tm Z), trivial⟩, vr, Weak.mkL [0] (by decide) ⟨⟨_, Z, Z⟩, trivial⟩ trivial, ⟨t3242, Z, Z⟩⟩
  ·replace h := ite_t (ndec_f hb3253) h
   refine aw_skip ?_
   obtain ⟨s3246, s3246e, h3248⟩ := bind_some h
   refine aw_meet (ν := Nat) (fun v => [(4, .sl (.own v) 1 (s3246.map AV.str))]) (fun v => [(v, .spare)]) ?_ ?_
   ·have h := s3246e
    refine xr (xm Z Z Z (xe (aw_cond (b := s2432.2.2.1) (tm Z) (fun hb3252 => ?_) (fun hb3252 => ?_))))
    ·replace h := ite_t hb3252 h
     refine aw_region (xm Z Z Z (xm Z Z Z (xc Z (op_buildSlice (xs := ([s2432.2.2.2] : List (List UInt8)).map AV.str) (aparts := [(0, .str s2432.2.2.2)]) Z underlying26 sizeOf9 zeroValue9 (by decide) (by decide) ⟨Z, (tm Z), trivial⟩ Z Z Z ?_))))
     obtain ⟨c3250, h⟩ := need_of h
     refine xc Z (op_appendOM (q := 0) Z underlying26 underlying26 (.inl Z) typeInfo9 Z Z Z (by decide) (tm Z) Z (given_sl (tm Z)) c3250 ?_)
     intro t3251
     refine xm Z Z Z (xe ?_)
     obtain rfl := some_of h
     exact ⟨t3251, Weak.mkL [0] (by decide) ⟨⟨_, Z, Z⟩, trivial⟩ ⟨(AEv.le (tm Z) vr), trivial⟩⟩
    ·replace h := ite_fb hb3252 h
     refine aw_skip ?_
     obtain rfl := some_of h
     exact ⟨n2433, Weak.mkL [0] (by decide) ⟨⟨_, Z, Z⟩, trivial⟩ ⟨tm Z, trivial⟩⟩
   ·intro n3247
    have h := h3248
    refine xr (xm Z Z Z (xm Z Z Z (xa (.bool true) Z (pu_assign Z (AEv.bool _)) (xe (aw_ret ?_)))))
    obtain rfl := some_of h
    exact ⟨[.sl (.own n3247) 1 (s3246.map AV.str), .bool true], _, [(n3247, .spare)], ⟨(tm Z), (tm Z), trivial⟩, vr, Weak.mkL [0] (by decide) ⟨⟨_, Z, Z⟩, trivial⟩ trivial, ⟨n3247, Z, Z⟩⟩
 ·have h := s3254e
  refine xr (xa (.i 0) Z (pu_assign Z (AEv.int _ _)) (xe (aw_block (aw_claim 4 (tm Z) fun t3241 => (aw_while (σ := mewsref04.Split.S0) (ν := Nat) (mewsref04.Split.body0 s_) (fun s3033 v => [(0, .str s_), (4, .sl (.own v) 1 (s3033.out.map AV.str)), (5, .int .u8 s3033.in_), (6, .bool s3033.open_), (7, .bool s3033.closed), (8, .str s3033.now), (9, .i s3033.i)]) (fun s3033 v => [(v, .spare)]) ⟨([] : List (List UInt8)), 0, false, false, ([] : List UInt8), 0⟩ t3241 _ h (Weak.mkL [0] (by decide) ⟨⟨_, Z, Z⟩, trivial⟩ ⟨tm Z, tm Z, tm Z, tm Z, tm Z, tm Z, tm Z, trivial⟩) ?_)))))
  rintro s3033 n3034 x3036 h hx3035
  unfold mewsref04.Split.body0 at h
  refine aw_seq (xr (xm Z Z Z (xm Z Z Z (xa (.i (s_.length : Int)) Z (pu_strLen Z underlying9 (tm Z)) (xa (.bool (decide (s3033.i < (s_.length : Int)))) Z (pu_int (v := .bool (decide (s3033.i < (s_.length : Int)))) Z Z (tm Z) (tm Z) Z) (xe (aw_cond (b := decide (s3033.i < (s_.length : Int))) (tm Z) (fun hb3240 => ?_) (fun hb3240 => ?_))))))))
  ·replace h := ite_t (dec_t hb3240) h
   refine aw_skip ?_
   obtain ⟨s3239, s3239e, h3138⟩ := bind_some h
   refine aw_join (σ := (List (List UInt8)) × Int × Bool × Bool × (List UInt8) × Int) (ν := Nat) (fun u v => [(0, .str s_), (4, .sl (.own v) 1 (u.1.map AV.str)), (5, .int .u8 u.2.1), (6, .bool u.2.2.1), (7, .bool u.2.2.2.1), (8, .str u.2.2.2.2.1), (9, .i u.2.2.2.2.2)]) (fun u v => [(v, .spare)]) (fun u => s3239 = .inl u) ?_ ?_
   ·intro s3136
    intro n3137
    rintro rfl
    have h := onSum_inl h3138
    refine aw_region (xm Z Z Z (xa (.i (IntKind.wrap .i64 (s3136.2.2.2.2.2 + 1))) Z (pu_int (v := .i (IntKind.wrap .i64 (s3136.2.2.2.2.2 + 1))) Z Z (tm Z) (AEv.int _ _) Z) (xm Z Z Z (xe ?_))))
    obtain rfl := some_of h
    exact ⟨_, n3137, Z, Weak.mkL [0] (by decide) ⟨⟨_, Z, Z⟩, trivial⟩ ⟨tm Z, tm Z, tm Z, tm Z, tm Z, tm Z, (AEv.le (tm Z) vr), trivial⟩⟩
   ·have h := s3239e
    refine aw_block (xr (xm Z Z Z (xm Z Z Z ?_)))
    obtain ⟨c3140, h⟩ := need_of h
    refine xa (.int .u8 (bix s_ s3033.i)) Z (pu_strIdxM Z underlying9 (tm Z) (tm Z) c3140) (xm Z Z Z (xe ?_))
    obtain ⟨s3142, s3142e, h3143⟩ := letO_of h
    refine aw_meet (ν := Unit) (fun v => [(0, .str s_), (4, .sl (.own n3034) 1 (s3033.out.map AV.str)), (5, .int .u8 s3033.in_), (6, .bool s3033.open_), (7, .bool s3033.closed), (8, .str s3033.now), (9, .i s3033.i), (10, .int .u8 (bix s_ s3033.i)), (11, .bool s3142)]) (fun v => [(n3034, .spare)]) ?_ ?_
    ·have h := s3142e.symm
     refine aw_region (xm Z Z Z (xa (.bool (decide ((bix s_ s3033.i) = 32))) Z (pu_int (v := .bool (decide ((bix s_ s3033.i) = 32))) Z Z (tm Z) (AEv.int _ _) Z) (xm Z Z Z ?_)))
     rcases Bool.eq_false_or_eq_true (decide ((bix s_ s3033.i) = 32)) with hb3145 | hb3145
     ·replace h := ite_t (dec_t hb3145) h
      refine aops_known 23 Z hb3145 (xn Z Z Z (xn Z Z Z (xa (.bool true) Z (pu_pick (b := true) Z (tm Z) (fun _ => (AEv.bool _)) (fun h => nomatch h)) (xm Z Z Z (xe ?_)))))
      subst h
      exact ⟨(), Weak.mkL [0] (by decide) ⟨⟨_, Z, Z⟩, trivial⟩ ⟨tm Z, tm Z, tm Z, tm Z, tm Z, tm Z, tm Z, tm Z, tm Z, trivial⟩⟩
     ·replace h := ite_f (dec_f hb3145) h
      refine aops_known 23 Z hb3145 (xq Z Z Z Z (xp (.bool (decide ((bix s_ s3033.i) = 9))) Z Z (pu_int (v := .bool (decide ((bix s_ s3033.i) = 9))) Z Z (tm Z) (AEv.int _ _) Z) (xa (.bool (decide ((bix s_ s3033.i) = 9))) Z (pu_pick (b := false) Z (tm Z) (fun h => nomatch h) (fun _ => (tm Z))) (xm Z Z Z (xe ?_)))))
      subst h
      exact ⟨(), Weak.mkL [0] (by decide) ⟨⟨_, Z, Z⟩, trivial⟩ ⟨tm Z, tm Z, tm Z, tm Z, tm Z, tm Z, tm Z, tm Z, (AEv.le (tm Z) vr), trivial⟩⟩
    ·intro _
     have h := h3143
     refine aw_seq ?_
     obtain ⟨s3147, s3147e, h3148⟩ := letO_of h
     refine aw_meet (ν := Unit) (fun v => [(0, .str s_), (4, .sl (.own n3034) 1 (s3033.out.map AV.str)), (5, .int .u8 s3033.in_), (6, .bool s3033.open_), (8, .str s3033.now), (9, .i s3033.i), (10, .int .u8 (bix s_ s3033.i)), (11, .bool s3142), (31, .bool s3147)]) (fun v => [(n3034, .spare)]) ?_ ?_
     ·have h := s3147e.symm
      refine aw_region (xm Z Z Z (xm Z Z Z ?_))
      rcases Bool.eq_false_or_eq_true s3033.closed with hb3150 | hb3150
      ·replace h := ite_t hb3150 h
       refine aops_known 28 Z hb3150 (xq Z Z Z Z (xp (.bool (!s3142)) Z Z (pu_not Z (tm Z)) (xa (.bool (!s3142)) Z (pu_pick (b := true) Z (tm Z) (fun _ => (tm Z)) (fun h => nomatch h)) (xe ?_))))
       subst h
       exact ⟨(), Weak.mkL [0] (by decide) ⟨⟨_, Z, Z⟩, trivial⟩ ⟨tm Z, tm Z, tm Z, tm Z, tm Z, tm Z, tm Z, tm Z, tm Z, trivial⟩⟩
      ·replace h := ite_fb hb3150 h
       refine aops_known 28 Z hb3150 (xn Z Z Z (xn Z Z Z (xa (.bool false) Z (pu_pick (b := false) Z (tm Z) (fun h => nomatch h) (fun _ => (AEv.bool _))) (xe ?_))))
       subst h
       exact ⟨(), Weak.mkL [0] (by decide) ⟨⟨_, Z, Z⟩, trivial⟩ ⟨tm Z, tm Z, tm Z, tm Z, tm Z, tm Z, tm Z, tm Z, tm Z, trivial⟩⟩
     ·intro _
      have h := h3148
      refine aw_cond (b := s3147) (tm Z) (fun hb3238 => ?_) (fun hb3238 => ?_)
      ·replace h := ite_t hb3238 h
       refine xr (xa (.sl .full 1 (([] : List (List UInt8)).map AV.str)) Z (pu_assign Z (AEv.nil 1 (by decide))) (xa (.bool false) Z (pu_assign Z (AEv.bool _)) (xe (aw_claim 2 (tm Z) fun t3151 => (aw_ret ?_)))))
       obtain rfl := some_of h
       have h := onSum_inr h3138
       obtain rfl := some_of h
       have h := congrArg some (hx3035 _ rfl)
       obtain rfl := some_of h
       have h := onSum_inr h2434
       obtain rfl := some_of h
       exact ⟨[.sl (.own t3151) 1 (([] : List (List UInt8)).map AV.str), .bool false], _, [(t3151, .spare)], ⟨(tm Z), (tm Z), trivial⟩, vr, Weak.mkL [0] (by decide) ⟨⟨_, Z, Z⟩, trivial⟩ trivial, ⟨t3151, Z, Z⟩⟩
      ·replace h := ite_fb hb3238 h
       refine aw_skip (xr (xa (.bool false) Z (pu_assign Z (AEv.bool _)) (xe (aw_block ?_))))
       obtain ⟨s3153, s3153e, h3154⟩ := letO_of h
       refine aw_meet (ν := Unit) (fun v => [(0, .str s_), (4, .sl (.own n3034) 1 (s3033.out.map AV.str)), (5, .int .u8 s3033.in_), (6, .bool s3033.open_), (7, .bool false), (8, .str s3033.now), (9, .i s3033.i), (10, .int .u8 (bix s_ s3033.i)), (39, .bool s3153)]) (fun v => [(n3034, .spare)]) ?_ ?_
       ·have h := s3153e.symm
        refine aw_region (xm Z Z Z (xa (.bool (decide (s3033.in_ = 0))) Z (pu_int (v := .bool (decide (s3033.in_ = 0))) Z Z (tm Z) (AEv.int _ _) Z) (xm Z Z Z ?_)))
        rcases Bool.eq_false_or_eq_true (decide (s3033.in_ = 0)) with hb3156 | hb3156
        ·replace h := ite_t (dec_t hb3156) h
         refine aops_known 42 Z hb3156 (xq Z Z Z Z (xa (.bool s3142) Z (pu_pick (b := true) Z (tm Z) (fun _ => (tm Z)) (fun h => nomatch h)) (xm Z Z Z (xe ?_))))
         subst h
         exact ⟨(), Weak.mkL [0] (by decide) ⟨⟨_, Z, Z⟩, trivial⟩ ⟨tm Z, tm Z, tm Z, tm Z, tm Z, tm Z, tm Z, tm Z, tm Z, trivial⟩⟩
        ·replace h := ite_f (dec_f hb3156) h
         refine aops_known 42 Z hb3156 (xn Z Z Z (xa (.bool false) Z (pu_pick (b := false) Z (tm Z) (fun h => nomatch h) (fun _ => (AEv.bool _))) (xm Z Z Z (xe ?_))))
         subst h
         exact ⟨(), Weak.mkL [0] (by decide) ⟨⟨_, Z, Z⟩, trivial⟩ ⟨tm Z, tm Z, tm Z, tm Z, tm Z, tm Z, tm Z, tm Z, tm Z, trivial⟩⟩
       ·intro _
        have h := h3154
        refine aw_cond (b := s3153) (tm Z) (fun hb3237 => ?_) (fun hb3237 => ?_)
        ·replace h := ite_t hb3237 h
         obtain ⟨s3160, s3160e, h3162⟩ := bind_some h
         refine aw_meet (ν := Nat) (fun v => [(0, .str s_), (4, .sl (.own v) 1 (s3160.map AV.str)), (5, .int .u8 s3033.in_), (7, .bool false), (9, .i s3033.i)]) (fun v => [(v, .spare)]) ?_ ?_
         ·have h := s3160e
          refine xr (xm Z Z Z (xe (aw_cond (b := s3033.open_) (tm Z) (fun hb3166 => ?_) (fun hb3166 => ?_))))
          ·replace h := ite_t hb3166 h
           refine aw_region (xm Z Z Z (xm Z Z Z (xc Z (op_buildSlice (xs := ([s3033.now] : List (List UInt8)).map AV.str) (aparts := [(0, .str s3033.now)]) Z underlying26 sizeOf9 zeroValue9 (by decide) (by decide) ⟨Z, (tm Z), trivial⟩ Z Z Z ?_))))
           obtain ⟨c3164, h⟩ := need_of h
           refine xc Z (op_appendOM (q := 0) Z underlying26 underlying26 (.inl Z) typeInfo9 Z Z Z (by decide) (tm Z) Z (given_sl (tm Z)) c3164 ?_)
           intro t3165
           refine xm Z Z Z (xe ?_)
           obtain rfl := some_of h
           exact ⟨t3165, Weak.mkL [0] (by decide) ⟨⟨_, Z, Z⟩, trivial⟩ ⟨tm Z, (AEv.le (tm Z) vr), tm Z, tm Z, tm Z, trivial⟩⟩
          ·replace h := ite_fb hb3166 h
           refine aw_skip ?_
           obtain rfl := some_of h
           exact ⟨n3034, Weak.mkL [0] (by decide) ⟨⟨_, Z, Z⟩, trivial⟩ ⟨tm Z, tm Z, tm Z, tm Z, tm Z, trivial⟩⟩
         ·intro n3161
          have h := h3162
          refine aw_region (xa (.bool false) Z (pu_assign Z (AEv.bool _)) (xa (.str ([] : List UInt8)) Z (pu_assign Z (AEv.const Z)) (xe ?_)))
          exact ⟨(s3160, s3033.in_, false, false, ([] : List UInt8), s3033.i), n3161, (some_of h).symm, Weak.mkL [0] (by decide) ⟨⟨_, Z, Z⟩, trivial⟩ ⟨tm Z, tm Z, tm Z, tm Z, tm Z, tm Z, tm Z, trivial⟩⟩
        ·replace h := ite_fb hb3237 h
         obtain ⟨s3169, s3169e, h3170⟩ := letO_of h
         refine aw_meet (ν := Unit) (fun v => [(0, .str s_), (4, .sl (.own n3034) 1 (s3033.out.map AV.str)), (5, .int .u8 s3033.in_), (6, .bool s3033.open_), (7, .bool false), (8, .str s3033.now), (9, .i s3033.i), (10, .int .u8 (bix s_ s3033.i)), (50, .bool s3169)]) (fun v => [(n3034, .spare)]) ?_ ?_
         ·have h := s3169e.symm
          refine aw_region (xm Z Z Z (xa (.bool (decide (s3033.in_ = 0))) Z (pu_int (v := .bool (decide (s3033.in_ = 0))) Z Z (tm Z) (AEv.int _ _) Z) (xm Z Z Z ?_)))
          rcases Bool.eq_false_or_eq_true (decide (s3033.in_ = 0)) with hb3172 | hb3172
          ·replace h := ite_t (dec_t hb3172) h
           refine aops_known 53 Z hb3172 (xq Z Z Z Z (xp (.bool (decide ((bix s_ s3033.i) = 34))) Z Z (pu_int (v := .bool (decide ((bix s_ s3033.i) = 34))) Z Z (tm Z) (AEv.int _ _) Z) (xq Z Z Z Z ?_)))
           rcases Bool.eq_false_or_eq_true (decide ((bix s_ s3033.i) = 34)) with hb3173 | hb3173
           ·replace h := ite_t (dec_t hb3173) h
            refine aops_known 56 Z hb3173 (xn Z Z Z (xn Z Z Z (xp (.bool true) Z Z (pu_pick (b := true) Z (tm Z) (fun _ => (AEv.bool _)) (fun h => nomatch h)) (xa (.bool true) Z (pu_pick (b := true) Z (tm Z) (fun _ => (tm Z)) (fun h => nomatch h)) (xm Z Z Z (xe ?_))))))
            subst h
            exact ⟨(), Weak.mkL [0] (by decide) ⟨⟨_, Z, Z⟩, trivial⟩ ⟨tm Z, tm Z, tm Z, tm Z, tm Z, tm Z, tm Z, tm Z, tm Z, trivial⟩⟩
           ·replace h := ite_f (dec_f hb3173) h
            refine aops_known 56 Z hb3173 (xq Z Z Z Z (xp (.bool (decide ((bix s_ s3033.i) = 39))) Z Z (pu_int (v := .bool (decide ((bix s_ s3033.i) = 39))) Z Z (tm Z) (AEv.int _ _) Z) (xp (.bool (decide ((bix s_ s3033.i) = 39))) Z Z (pu_pick (b := false) Z (tm Z) (fun h => nomatch h) (fun _ => (tm Z))) (xa (.bool (decide ((bix s_ s3033.i) = 39))) Z (pu_pick (b := true) Z (tm Z) (fun _ => (tm Z)) (fun h => nomatch h)) (xm Z Z Z (xe ?_))))))
            subst h
            exact ⟨(), Weak.mkL [0] (by decide) ⟨⟨_, Z, Z⟩, trivial⟩ ⟨tm Z, tm Z, tm Z, tm Z, tm Z, tm Z, tm Z, tm Z, (AEv.le (tm Z) vr), trivial⟩⟩
          ·replace h := ite_f (dec_f hb3172) h
           refine aops_known 53 Z hb3172 (xn Z Z Z (xn Z Z Z (xn Z Z Z (xv Z Z (xv Z Z (xn Z Z Z (xa (.bool false) Z (pu_pick (b := false) Z (tm Z) (fun h => nomatch h) (fun _ => (AEv.bool _))) (xm Z Z Z (xe ?_)))))))))
           subst h
           exact ⟨(), Weak.mkL [0] (by decide) ⟨⟨_, Z, Z⟩, trivial⟩ ⟨tm Z, tm Z, tm Z, tm Z, tm Z, tm Z, tm Z, tm Z, tm Z, trivial⟩⟩
         ·intro _
          have h := h3170
          refine aw_cond (b := s3169) (tm Z) (fun hb3236 => ?_) (fun hb3236 => ?_)
          ·replace h := ite_t hb3236 h
           refine aw_region (xm Z Z Z (xm Z Z Z (xa (.bool true) Z (pu_assign Z (AEv.bool _)) (xe ?_))))
           exact ⟨(s3033.out, bix s_ s3033.i, true, false, s3033.now, s3033.i), n3034, (some_of h).symm, Weak.mkL [0] (by decide) ⟨⟨_, Z, Z⟩, trivial⟩ ⟨tm Z, tm Z, (AEv.le (tm Z) vr), tm Z, tm Z, tm Z, tm Z, trivial⟩⟩
          ·replace h := ite_fb hb3236 h
           refine xr (xm Z Z Z (xa (.bool (decide (s3033.in_ = 0))) Z (pu_int (v := .bool (decide (s3033.in_ = 0))) Z Z (tm Z) (AEv.int _ _) Z) (xm Z Z Z (xe (aw_cond (b := decide (s3033.in_ = 0)) (tm Z) (fun hb3235 => ?_) (fun hb3235 => ?_))))))
           ·replace h := ite_t (dec_t hb3235) h
            refine xr (xm Z Z Z (xm Z Z Z (xm Z Z Z (xm Z Z Z (xa (.i (IntKind.wrap .i64 (s3033.i + 1))) Z (pu_int (v := .i (IntKind.wrap .i64 (s3033.i + 1))) Z Z (tm Z) (AEv.int _ _) Z) ?_)))))
            obtain ⟨c3174, h⟩ := need_of h
            refine xa (.str (sub s_ s3033.i (IntKind.wrap .i64 (s3033.i + 1)))) Z (pu_strSliceM Z underlying9 (tm Z) ⟨_, (tm Z)⟩ ⟨_, (tm Z)⟩ c3174) ?_
            obtain ⟨c3175, h⟩ := need_of h
            refine xa (.str (s3033.now ++ (sub s_ s3033.i (IntKind.wrap .i64 (s3033.i + 1))))) Z (pu_strAdd Z (tm Z) (tm Z) c3175) (xm Z Z Z (xe (aw_region (xa (.bool true) Z (pu_assign Z (AEv.bool _)) (xe ?_)))))
            exact ⟨(s3033.out, s3033.in_, true, false, s3033.now ++ (sub s_ s3033.i (IntKind.wrap .i64 (s3033.i + 1))), s3033.i), n3034, (some_of h).symm, Weak.mkL [0] (by decide) ⟨⟨_, Z, Z⟩, trivial⟩ ⟨tm Z, tm Z, tm Z, tm Z, tm Z, (AEv.le (tm Z) vr), tm Z, trivial⟩⟩
           ·replace h := ite_f (dec_f hb3235) h
            refine xr (xm Z Z Z (xm Z Z Z (xa (.bool (decide ((bix s_ s3033.i) = s3033.in_))) Z (pu_int (v := .bool (decide ((bix s_ s3033.i) = s3033.in_))) Z Z (tm Z) (tm Z) Z) (xm Z Z Z (xe (aw_cond (b := decide ((bix s_ s3033.i) = s3033.in_)) (tm Z) (fun hb3234 => ?_) (fun hb3234 => ?_)))))))
            ·replace h := ite_t (dec_t hb3234) h
             refine aw_region (xa (.int .u8 0) Z (pu_assign Z (AEv.int _ _)) (xa (.bool true) Z (pu_assign Z (AEv.bool _)) (xe ?_)))
             exact ⟨(s3033.out, 0, s3033.open_, true, s3033.now, s3033.i), n3034, (some_of h).symm, Weak.mkL [0] (by decide) ⟨⟨_, Z, Z⟩, trivial⟩ ⟨tm Z, tm Z, tm Z, tm Z, tm Z, tm Z, tm Z, trivial⟩⟩
            ·replace h := ite_f (dec_f hb3234) h
             obtain ⟨s3186, s3186e, h3187⟩ := bind_some h
             refine aw_meet (ν := Unit) (fun v => [(0, .str s_), (4, .sl (.own n3034) 1 (s3033.out.map AV.str)), (5, .int .u8 s3033.in_), (6, .bool s3033.open_), (7, .bool false), (8, .str s3033.now), (9, .i s3033.i), (10, .int .u8 (bix s_ s3033.i)), (76, .bool s3186)]) (fun v => [(n3034, .spare)]) ?_ ?_
             ·have h := s3186e
              refine aw_region (xm Z Z Z (xa (.bool (decide ((bix s_ s3033.i) = 92))) Z (pu_int (v := .bool (decide ((bix s_ s3033.i) = 92))) Z Z (tm Z) (AEv.int _ _) Z) (xm Z Z Z ?_)))
              rcases Bool.eq_false_or_eq_true (decide ((bix s_ s3033.i) = 92)) with hb3189 | hb3189
              ·replace h := ite_t (dec_t hb3189) h
               refine aops_known 79 Z hb3189 (xq Z Z Z Z (xp (.bool (decide (s3033.in_ = 34))) Z Z (pu_int (v := .bool (decide (s3033.in_ = 34))) Z Z (tm Z) (AEv.int _ _) Z) (xa (.bool (decide (s3033.in_ = 34))) Z (pu_pick (b := true) Z (tm Z) (fun _ => (tm Z)) (fun h => nomatch h)) (xm Z Z Z ?_))))
               rcases Bool.eq_false_or_eq_true (decide (s3033.in_ = 34)) with hb3190 | hb3190
               ·replace h := ite_t (dec_t hb3190) h
                refine aops_known 83 Z hb3190 (xq Z Z Z Z (xp (.i (IntKind.wrap .i64 (s3033.i + 3))) Z Z (pu_int (v := .i (IntKind.wrap .i64 (s3033.i + 3))) Z Z (tm Z) (AEv.int _ _) Z) (xq Z Z Z Z (xp (.i (s_.length : Int)) Z Z (pu_strLen Z underlying9 (tm Z)) (xp (.bool (decide ((IntKind.wrap .i64 (s3033.i + 3)) < (s_.length : Int)))) Z Z (pu_int (v := .bool (decide ((IntKind.wrap .i64 (s3033.i + 3)) < (s_.length : Int)))) Z Z (tm Z) (tm Z) Z) (xa (.bool (decide ((IntKind.wrap .i64 (s3033.i + 3)) < (s_.length : Int)))) Z (pu_pick (b := true) Z (tm Z) (fun _ => (tm Z)) (fun h => nomatch h)) (xm Z Z Z ?_)))))))
                rcases Bool.eq_false_or_eq_true (decide ((IntKind.wrap .i64 (s3033.i + 3)) < (s_.length : Int))) with hb3191 | hb3191
                ·replace h := ite_t (dec_t hb3191) h
                 refine aops_known 90 Z hb3191 (xq Z Z Z Z (xq Z Z Z Z (xp (.i (IntKind.wrap .i64 (s3033.i + 1))) Z Z (pu_int (v := .i (IntKind.wrap .i64 (s3033.i + 1))) Z Z (tm Z) (AEv.int _ _) Z) ?_)))
                 obtain ⟨c3192, h⟩ := need_of h
                 refine xp (.int .u8 (bix s_ (IntKind.wrap .i64 (s3033.i + 1)))) Z Z (pu_strIdxM Z underlying9 (tm Z) (tm Z) c3192) (xp (.bool (decide ((bix s_ (IntKind.wrap .i64 (s3033.i + 1))) = 120))) Z Z (pu_int (v := .bool (decide ((bix s_ (IntKind.wrap .i64 (s3033.i + 1))) = 120))) Z Z (tm Z) (AEv.int _ _) Z) (xa (.bool (decide ((bix s_ (IntKind.wrap .i64 (s3033.i + 1))) = 120))) Z (pu_pick (b := true) Z (tm Z) (fun _ => (tm Z)) (fun h => nomatch h)) (xm Z Z Z ?_)))
                 rcases Bool.eq_false_or_eq_true (decide ((bix s_ (IntKind.wrap .i64 (s3033.i + 1))) = 120)) with hb3193 | hb3193
                 ·replace h := ite_t (dec_t hb3193) h
                  refine aops_known 97 Z hb3193 (xq Z Z Z Z (xq Z Z Z Z (xp (.i (IntKind.wrap .i64 (s3033.i + 2))) Z Z (pu_int (v := .i (IntKind.wrap .i64 (s3033.i + 2))) Z Z (tm Z) (AEv.int _ _) Z) ?_)))
                  obtain ⟨c3194, h⟩ := need_of h
                  refine xp (.int .u8 (bix s_ (IntKind.wrap .i64 (s3033.i + 2)))) Z Z (pu_strIdxM Z underlying9 (tm Z) (tm Z) c3194) ?_
                  obtain ⟨r3195, r3195e, h⟩ := bind_some h
                  refine xg Z Z (op_call (vs := [.int .u8 (bix s_ (IntKind.wrap .i64 (s3033.i + 2)))]) (H := []) Z call93 ⟨(tm Z), trivial⟩ (List.Perm.refl _) (mewsref04.digit.ok r3195e) ?_)
                  rintro _ _ ⟨rfl, rfl⟩
                  refine xp (.bool (decide (r3195 < 16))) Z Z (pu_int (v := .bool (decide (r3195 < 16))) Z Z (tm Z) (AEv.int _ _) Z) (xa (.bool (decide (r3195 < 16))) Z (pu_pick (b := true) Z (tm Z) (fun _ => (tm Z)) (fun h => nomatch h)) (xm Z Z Z ?_))
                  rcases Bool.eq_false_or_eq_true (decide (r3195 < 16)) with hb3196 | hb3196
                  ·replace h := ite_t (dec_t hb3196) h
                   refine aops_known 105 Z hb3196 (xq Z Z Z Z (xq Z Z Z Z (xp (.i (IntKind.wrap .i64 (s3033.i + 3))) Z Z (pu_int (v := .i (IntKind.wrap .i64 (s3033.i + 3))) Z Z (tm Z) (AEv.int _ _) Z) ?_)))
                   obtain ⟨c3197, h⟩ := need_of h
                   refine xp (.int .u8 (bix s_ (IntKind.wrap .i64 (s3033.i + 3)))) Z Z (pu_strIdxM Z underlying9 (tm Z) (tm Z) c3197) ?_
                   obtain ⟨r3198, r3198e, h⟩ := bind_some h
                   refine xg Z Z (op_call (vs := [.int .u8 (bix s_ (IntKind.wrap .i64 (s3033.i + 3)))]) (H := []) Z call93 ⟨(tm Z), trivial⟩ (List.Perm.refl _) (mewsref04.digit.ok r3198e) ?_)
                   rintro _ _ ⟨rfl, rfl⟩
                   refine xp (.bool (decide (r3198 < 16))) Z Z (pu_int (v := .bool (decide (r3198 < 16))) Z Z (tm Z) (AEv.int _ _) Z) (xa (.bool (decide (r3198 < 16))) Z (pu_pick (b := true) Z (tm Z) (fun _ => (tm Z)) (fun h => nomatch h)) (xm Z Z Z (xe ?_)))
                   obtain rfl := some_of h
                   exact ⟨(), Weak.mkL [0] (by decide) ⟨⟨_, Z, Z⟩, trivial⟩ ⟨tm Z, tm Z, tm Z, tm Z, tm Z, tm Z, tm Z, tm Z, (AEv.le (tm Z) vr), trivial⟩⟩
                  ·replace h := ite_f (dec_f hb3196) h
                   refine aops_known 105 Z hb3196 (xn Z Z Z (xn Z Z Z (xn Z Z Z (xn Z Z Z (xn Z Z Z (xn Z Z Z (xa (.bool false) Z (pu_pick (b := false) Z (tm Z) (fun h => nomatch h) (fun _ => (AEv.bool _))) (xm Z Z Z (xe ?_)))))))))
                   obtain rfl := some_of h
                   exact ⟨(), Weak.mkL [0] (by decide) ⟨⟨_, Z, Z⟩, trivial⟩ ⟨tm Z, tm Z, tm Z, tm Z, tm Z, tm Z, tm Z, tm Z, tm Z, trivial⟩⟩
                 ·replace h := ite_f (dec_f hb3193) h
                  refine aops_known 97 Z hb3193 (xn Z Z Z (xn Z Z Z (xn Z Z Z (xn Z Z Z (xn Z Z Z (xn Z Z Z (xa (.bool false) Z (pu_pick (b := false) Z (tm Z) (fun h => nomatch h) (fun _ => (AEv.bool _))) (xm Z Z Z (xn Z Z Z ?_)))))))))
                  refine xn Z Z Z (xn Z Z Z (xn Z Z Z (xn Z Z Z (xn Z Z Z (xa (.bool false) Z (pu_pick (b := false) Z (tm Z) (fun h => nomatch h) (fun _ => (AEv.bool _))) (xm Z Z Z (xe ?_)))))))
                  obtain rfl := some_of h
                  exact ⟨(), Weak.mkL [0] (by decide) ⟨⟨_, Z, Z⟩, trivial⟩ ⟨tm Z, tm Z, tm Z, tm Z, tm Z, tm Z, tm Z, tm Z, tm Z, trivial⟩⟩
                ·replace h := ite_f (dec_f hb3191) h
                 refine aops_known 90 Z hb3191 (xn Z Z Z (xn Z Z Z (xn Z Z Z (xn Z Z Z (xn Z Z Z (xa (.bool false) Z (pu_pick (b := false) Z (tm Z) (fun h => nomatch h) (fun _ => (AEv.bool _))) (xm Z Z Z (xn Z Z Z (xn Z Z Z ?_)))))))))
                 refine xn Z Z Z (xn Z Z Z (xn Z Z Z (xn Z Z Z (xa (.bool false) Z (pu_pick (b := false) Z (tm Z) (fun h => nomatch h) (fun _ => (AEv.bool _))) (xm Z Z Z (xn Z Z Z (xn Z Z Z (xn Z Z Z (xn Z Z Z ?_)))))))))
                 refine xn Z Z Z (xn Z Z Z (xa (.bool false) Z (pu_pick (b := false) Z (tm Z) (fun h => nomatch h) (fun _ => (AEv.bool _))) (xm Z Z Z (xe ?_))))
                 obtain rfl := some_of h
                 exact ⟨(), Weak.mkL [0] (by decide) ⟨⟨_, Z, Z⟩, trivial⟩ ⟨tm Z, tm Z, tm Z, tm Z, tm Z, tm Z, tm Z, tm Z, tm Z, trivial⟩⟩
               ·replace h := ite_f (dec_f hb3190) h
                refine aops_known 83 Z hb3190 (xn Z Z Z (xn Z Z Z (xn Z Z Z (xn Z Z Z (xn Z Z Z (xa (.bool false) Z (pu_pick (b := false) Z (tm Z) (fun h => nomatch h) (fun _ => (AEv.bool _))) (xm Z Z Z (xn Z Z Z (xn Z Z Z ?_)))))))))
                refine xn Z Z Z (xn Z Z Z (xn Z Z Z (xa (.bool false) Z (pu_pick (b := false) Z (tm Z) (fun h => nomatch h) (fun _ => (AEv.bool _))) (xm Z Z Z (xn Z Z Z (xn Z Z Z (xn Z Z Z (xn Z Z Z (xn Z Z Z ?_)))))))))
                refine xn Z Z Z (xa (.bool false) Z (pu_pick (b := false) Z (tm Z) (fun h => nomatch h) (fun _ => (AEv.bool _))) (xm Z Z Z (xn Z Z Z (xn Z Z Z (xn Z Z Z (xn Z Z Z (xn Z Z Z (xn Z Z Z (xa (.bool false) Z (pu_pick (b := false) Z (tm Z) (fun h => nomatch h) (fun _ => (AEv.bool _))) ?_)))))))))
                refine xm Z Z Z (xe ?_)
                obtain rfl := some_of h
                exact ⟨(), Weak.mkL [0] (by decide) ⟨⟨_, Z, Z⟩, trivial⟩ ⟨tm Z, tm Z, tm Z, tm Z, tm Z, tm Z, tm Z, tm Z, tm Z, trivial⟩⟩
              ·replace h := ite_f (dec_f hb3189) h
               refine aops_known 79 Z hb3189 (xn Z Z Z (xn Z Z Z (xa (.bool false) Z (pu_pick (b := false) Z (tm Z) (fun h => nomatch h) (fun _ => (AEv.bool _))) (xm Z Z Z (xn Z Z Z (xn Z Z Z (xn Z Z Z (xn Z Z Z (xn Z Z Z ?_)))))))))
               refine xa (.bool false) Z (pu_pick (b := false) Z (tm Z) (fun h => nomatch h) (fun _ => (AEv.bool _))) (xm Z Z Z (xn Z Z Z (xn Z Z Z (xn Z Z Z (xn Z Z Z (xn Z Z Z (xa (.bool false) Z (pu_pick (b := false) Z (tm Z) (fun h => nomatch h) (fun _ => (AEv.bool _))) (xm Z Z Z (xn Z Z Z ?_)))))))))
               refine xn Z Z Z (xn Z Z Z (xn Z Z Z (xn Z Z Z (xn Z Z Z (xa (.bool false) Z (pu_pick (b := false) Z (tm Z) (fun h => nomatch h) (fun _ => (AEv.bool _))) (xm Z Z Z (xn Z Z Z (xn Z Z Z (xn Z Z Z ?_)))))))))
               refine xn Z Z Z (xn Z Z Z (xn Z Z Z (xa (.bool false) Z (pu_pick (b := false) Z (tm Z) (fun h => nomatch h) (fun _ => (AEv.bool _))) (xm Z Z Z (xe ?_)))))
               obtain rfl := some_of h
               exact ⟨(), Weak.mkL [0] (by decide) ⟨⟨_, Z, Z⟩, trivial⟩ ⟨tm Z, tm Z, tm Z, tm Z, tm Z, tm Z, tm Z, tm Z, tm Z, trivial⟩⟩
             ·intro _
              have h := h3187
              refine aw_cond (b := s3186) (tm Z) (fun hb3233 => ?_) (fun hb3233 => ?_)
              ·replace h := ite_t hb3233 h
               refine aw_seq ?_
               obtain ⟨c3199, h⟩ := need_of h
               obtain ⟨r3200, r3200e, h⟩ := bind_some h
               obtain ⟨c3201, h⟩ := need_of h
               obtain ⟨r3202, r3202e, h⟩ := bind_some h
               obtain ⟨c3203, h⟩ := need_of h
               obtain ⟨c3204, h⟩ := need_of h
               obtain ⟨x3205, x3205e, h⟩ := letO_of h
               refine aw_planR (by decide +kernel) [[], [], [], [], [], [], [], [], [], [], [], [], [], [], [], [], [], []] [[]] [[[(n3034, .spare)]]] [.str s3033.now, .str s_, .i s3033.i, .i (IntKind.wrap .i64 (s3033.i + 2)), .int .u8 (bix s_ (IntKind.wrap .i64 (s3033.i + 2))), .i r3200, .i (IntKind.wrap .i64 (16 * r3200)), .str s_, .i s3033.i, .i (IntKind.wrap .i64 (s3033.i + 3)), .int .u8 (bix s_ (IntKind.wrap .i64 (s3033.i + 3))), .i r3202, .i (IntKind.wrap .i64 ((IntKind.wrap .i64 (16 * r3200)) + r3202)), .int .u8 (IntKind.wrap .u8 (IntKind.wrap .i64 ((IntKind.wrap .i64 (16 * r3200)) + r3202))), .sl .full 1 ([u8 (IntKind.wrap .u8 (IntKind.wrap .i64 ((IntKind.wrap .i64 (16 * r3200)) + r3202)))].map byteAV), .str [u8 (IntKind.wrap .u8 (IntKind.wrap .i64 ((IntKind.wrap .i64 (16 * r3200)) + r3202)))], .str x3205, .str x3205] (by decide +kernel) Z Z ?_ ?_
               ·exact ⟨ym Z Z Z, ym Z Z Z, ym Z Z Z, yp Z (pu_int (v := .i (IntKind.wrap .i64 (s3033.i + 2))) Z Z (tm Z) (AEv.int _ _) Z), yp Z (pu_strIdxM Z underlying9 (tm Z) (tm Z) c3199), stepg_plain Z (op_call (vs := [.int .u8 (bix s_ (IntKind.wrap .i64 (s3033.i + 2)))]) (H := []) Z call93 ⟨(tm Z), trivial⟩ (R := []) (List.Perm.refl _) (mewsref04.digit.ok r3200e) (by rintro _ _ ⟨rfl, rfl⟩; exact ⟨Z, Z⟩)), yp Z (pu_int (v := .i (IntKind.wrap .i64 (16 * r3200))) Z Z (AEv.int _ _) (tm Z) Z), ym Z Z Z, ym Z Z Z, yp Z (pu_int (v := .i (IntKind.wrap .i64 (s3033.i + 3))) Z Z (tm Z) (AEv.int _ _) Z), yp Z (pu_strIdxM Z underlying9 (tm Z) (tm Z) c3201), stepg_plain Z (op_call (vs := [.int .u8 (bix s_ (IntKind.wrap .i64 (s3033.i + 3)))]) (H := []) Z call93 ⟨(tm Z), trivial⟩ (R := []) (List.Perm.refl _) (mewsref04.digit.ok r3202e) (by rintro _ _ ⟨rfl, rfl⟩; exact ⟨Z, Z⟩)), yp Z (pu_int (v := .i (IntKind.wrap .i64 ((IntKind.wrap .i64 (16 * r3200)) + r3202))) Z Z (tm Z) (tm Z) Z), yp Z (pu_conv Z underlying3 underlying5 (tm Z)), stepg_plain Z (op_buildSlice (xs := ([u8 (IntKind.wrap .u8 (IntKind.wrap .i64 ((IntKind.wrap .i64 (16 * r3200)) + r3202)))] : List UInt8).map byteAV) (aparts := [(0, byteAV (u8 (IntKind.wrap .u8 (IntKind.wrap .i64 ((IntKind.wrap .i64 (16 * r3200)) + r3202)))))]) Z underlying102 sizeOf5 zeroValue5 (by decide) (by decide) ⟨Z, (AEv.le (tm Z) (AV.Le.of_eq (byteAV_u8 c3203.1 c3203.2).symm)), trivial⟩ Z Z Z ⟨Z, Z⟩), stepg_plain Z (op_bytesStr Z underlying102 underlying5 underlying9 (tm Z) ⟨Z, Z⟩), yp Z (APure.eq (pu_strAdd Z (tm Z) (tm Z) c3204) (congrArg (AV.str) x3205e.symm)), ym Z Z Z, trivial⟩
               refine aw_region (xm Z Z Z (xa (.i (IntKind.wrap .i64 (s3033.i + 3))) Z (pu_int (v := .i (IntKind.wrap .i64 (s3033.i + 3))) Z Z (tm Z) (AEv.int _ _) Z) (xm Z Z Z (xe ?_))))
               exact ⟨(s3033.out, s3033.in_, s3033.open_, false, x3205, IntKind.wrap .i64 (s3033.i + 3)), n3034, (some_of h).symm, Weak.mkL [0] (by decide) ⟨⟨_, Z, Z⟩, trivial⟩ ⟨tm Z, tm Z, tm Z, tm Z, tm Z, tm Z, (AEv.le (tm Z) vr), trivial⟩⟩
              ·replace h := ite_fb hb3233 h
               obtain ⟨s3208, s3208e, h3209⟩ := letO_of h
               refine aw_meet (ν := Unit) (fun v => [(0, .str s_), (4, .sl (.own n3034) 1 (s3033.out.map AV.str)), (5, .int .u8 s3033.in_), (6, .bool s3033.open_), (7, .bool false), (8, .str s3033.now), (9, .i s3033.i), (10, .int .u8 (bix s_ s3033.i)), (132, .bool s3208)]) (fun v => [(n3034, .spare)]) ?_ ?_
               ·have h := s3208e.symm
                refine aw_region (xm Z Z Z (xa (.bool (decide ((bix s_ s3033.i) = 92))) Z (pu_int (v := .bool (decide ((bix s_ s3033.i) = 92))) Z Z (tm Z) (AEv.int _ _) Z) (xm Z Z Z ?_)))
                rcases Bool.eq_false_or_eq_true (decide ((bix s_ s3033.i) = 92)) with hb3211 | hb3211
                ·replace h := ite_t (dec_t hb3211) h
                 refine aops_known 135 Z hb3211 (xq Z Z Z Z (xp (.bool (decide (s3033.in_ = 34))) Z Z (pu_int (v := .bool (decide (s3033.in_ = 34))) Z Z (tm Z) (AEv.int _ _) Z) (xa (.bool (decide (s3033.in_ = 34))) Z (pu_pick (b := true) Z (tm Z) (fun _ => (tm Z)) (fun h => nomatch h)) (xm Z Z Z ?_))))
                 rcases Bool.eq_false_or_eq_true (decide (s3033.in_ = 34)) with hb3212 | hb3212
                 ·replace h := ite_t (dec_t hb3212) h
                  refine aops_known 139 Z hb3212 (xq Z Z Z Z (xp (.i (IntKind.wrap .i64 (s3033.i + 1))) Z Z (pu_int (v := .i (IntKind.wrap .i64 (s3033.i + 1))) Z Z (tm Z) (AEv.int _ _) Z) (xq Z Z Z Z (xp (.i (s_.length : Int)) Z Z (pu_strLen Z underlying9 (tm Z)) (xp (.bool (decide ((IntKind.wrap .i64 (s3033.i + 1)) < (s_.length : Int)))) Z Z (pu_int (v := .bool (decide ((IntKind.wrap .i64 (s3033.i + 1)) < (s_.length : Int)))) Z Z (tm Z) (tm Z) Z) (xa (.bool (decide ((IntKind.wrap .i64 (s3033.i + 1)) < (s_.length : Int)))) Z (pu_pick (b := true) Z (tm Z) (fun _ => (tm Z)) (fun h => nomatch h)) (xm Z Z Z (xe ?_))))))))
                  subst h
                  exact ⟨(), Weak.mkL [0] (by decide) ⟨⟨_, Z, Z⟩, trivial⟩ ⟨tm Z, tm Z, tm Z, tm Z, tm Z, tm Z, tm Z, tm Z, (AEv.le (tm Z) vr), trivial⟩⟩
                 ·replace h := ite_f (dec_f hb3212) h
                  refine aops_known 139 Z hb3212 (xn Z Z Z (xn Z Z Z (xn Z Z Z (xn Z Z Z (xn Z Z Z (xa (.bool false) Z (pu_pick (b := false) Z (tm Z) (fun h => nomatch h) (fun _ => (AEv.bool _))) (xm Z Z Z (xe ?_))))))))
                  subst h
                  exact ⟨(), Weak.mkL [0] (by decide) ⟨⟨_, Z, Z⟩, trivial⟩ ⟨tm Z, tm Z, tm Z, tm Z, tm Z, tm Z, tm Z, tm Z, tm Z, trivial⟩⟩
                ·replace h := ite_f (dec_f hb3211) h
                 refine aops_known 135 Z hb3211 (xn Z Z Z (xn Z Z Z (xa (.bool false) Z (pu_pick (b := false) Z (tm Z) (fun h => nomatch h) (fun _ => (AEv.bool _))) (xm Z Z Z (xn Z Z Z (xn Z Z Z (xn Z Z Z (xn Z Z Z (xn Z Z Z ?_)))))))))
                 refine xa (.bool false) Z (pu_pick (b := false) Z (tm Z) (fun h => nomatch h) (fun _ => (AEv.bool _))) (xm Z Z Z (xe ?_))
                 subst h
                 exact ⟨(), Weak.mkL [0] (by decide) ⟨⟨_, Z, Z⟩, trivial⟩ ⟨tm Z, tm Z, tm Z, tm Z, tm Z, tm Z, tm Z, tm Z, tm Z, trivial⟩⟩
               ·intro _
                have h := h3209
                refine aw_cond (b := s3208) (tm Z) (fun hb3232 => ?_) (fun hb3232 => ?_)
                ·replace h := ite_t hb3232 h
                 refine xr (xm Z Z Z (xm Z Z Z (xm Z Z Z (xa (.i (IntKind.wrap .i64 (s3033.i + 1))) Z (pu_int (v := .i (IntKind.wrap .i64 (s3033.i + 1))) Z Z (tm Z) (AEv.int _ _) Z) ?_))))
                 obtain ⟨c3213, h⟩ := need_of h
                 refine xa (.int .u8 (bix s_ (IntKind.wrap .i64 (s3033.i + 1)))) Z (pu_strIdxM Z underlying9 (tm Z) (tm Z) c3213) ?_
                 obtain ⟨r3214, r3214e, h⟩ := bind_some h
                 refine xc Z (op_call (vs := [.int .u8 (bix s_ (IntKind.wrap .i64 (s3033.i + 1)))]) (H := []) Z call94 ⟨(tm Z), trivial⟩ (List.Perm.refl _) (mewsref04.turned.ok r3214e) ?_)
                 rintro _ _ ⟨rfl, rfl⟩
                 obtain ⟨c3215, h⟩ := need_of h
                 refine xc Z (op_buildSlice (xs := ([u8 r3214] : List UInt8).map byteAV) (aparts := [(0, byteAV (u8 r3214))]) Z underlying102 sizeOf5 zeroValue5 (by decide) (by decide) ⟨Z, (AEv.le (tm Z) (AV.Le.of_eq (byteAV_u8 c3215.1 c3215.2).symm)), trivial⟩ Z Z Z (xc Z (op_bytesStr Z underlying102 underlying5 underlying9 (tm Z) ?_)))
                 obtain ⟨c3216, h⟩ := need_of h
                 refine xa (.str (s3033.now ++ [u8 r3214])) Z (pu_strAdd Z (tm Z) (tm Z) c3216) (xm Z Z Z (xe (aw_region (xm Z Z Z (xa (.i (IntKind.wrap .i64 (s3033.i + 1))) Z (pu_int (v := .i (IntKind.wrap .i64 (s3033.i + 1))) Z Z (tm Z) (AEv.int _ _) Z) (xm Z Z Z (xe ?_)))))))
                 exact ⟨(s3033.out, s3033.in_, s3033.open_, false, s3033.now ++ [u8 r3214], IntKind.wrap .i64 (s3033.i + 1)), n3034, (some_of h).symm, Weak.mkL [0] (by decide) ⟨⟨_, Z, Z⟩, trivial⟩ ⟨tm Z, tm Z, tm Z, tm Z, tm Z, (AEv.le (tm Z) vr), (AEv.le (tm Z) vr), trivial⟩⟩
                ·replace h := ite_fb hb3232 h
                 obtain ⟨s3221, s3221e, h3222⟩ := bind_some h
                 refine aw_meet (ν := Unit) (fun v => [(0, .str s_), (4, .sl (.own n3034) 1 (s3033.out.map AV.str)), (5, .int .u8 s3033.in_), (6, .bool s3033.open_), (7, .bool false), (8, .str s3033.now), (9, .i s3033.i), (157, .bool s3221)]) (fun v => [(n3034, .spare)]) ?_ ?_
                 ·have h := s3221e
                  refine aw_region (xm Z Z Z (xa (.bool (decide ((bix s_ s3033.i) = 92))) Z (pu_int (v := .bool (decide ((bix s_ s3033.i) = 92))) Z Z (tm Z) (AEv.int _ _) Z) (xm Z Z Z ?_)))
                  rcases Bool.eq_false_or_eq_true (decide ((bix s_ s3033.i) = 92)) with hb3224 | hb3224
                  ·replace h := ite_t (dec_t hb3224) h
                   refine aops_known 160 Z hb3224 (xq Z Z Z Z (xp (.bool (decide (s3033.in_ = 39))) Z Z (pu_int (v := .bool (decide (s3033.in_ = 39))) Z Z (tm Z) (AEv.int _ _) Z) (xa (.bool (decide (s3033.in_ = 39))) Z (pu_pick (b := true) Z (tm Z) (fun _ => (tm Z)) (fun h => nomatch h)) (xm Z Z Z ?_))))
                   rcases Bool.eq_false_or_eq_true (decide (s3033.in_ = 39)) with hb3225 | hb3225
                   ·replace h := ite_t (dec_t hb3225) h
                    refine aops_known 164 Z hb3225 (xq Z Z Z Z (xp (.i (IntKind.wrap .i64 (s3033.i + 1))) Z Z (pu_int (v := .i (IntKind.wrap .i64 (s3033.i + 1))) Z Z (tm Z) (AEv.int _ _) Z) (xq Z Z Z Z (xp (.i (s_.length : Int)) Z Z (pu_strLen Z underlying9 (tm Z)) (xp (.bool (decide ((IntKind.wrap .i64 (s3033.i + 1)) < (s_.length : Int)))) Z Z (pu_int (v := .bool (decide ((IntKind.wrap .i64 (s3033.i + 1)) < (s_.length : Int)))) Z Z (tm Z) (tm Z) Z) (xa (.bool (decide ((IntKind.wrap .i64 (s3033.i + 1)) < (s_.length : Int)))) Z (pu_pick (b := true) Z (tm Z) (fun _ => (tm Z)) (fun h => nomatch h)) (xm Z Z Z ?_)))))))
                    rcases Bool.eq_false_or_eq_true (decide ((IntKind.wrap .i64 (s3033.i + 1)) < (s_.length : Int))) with hb3226 | hb3226
                    ·replace h := ite_t (dec_t hb3226) h
                     refine aops_known 171 Z hb3226 (xq Z Z Z Z (xq Z Z Z Z (xp (.i (IntKind.wrap .i64 (s3033.i + 1))) Z Z (pu_int (v := .i (IntKind.wrap .i64 (s3033.i + 1))) Z Z (tm Z) (AEv.int _ _) Z) ?_)))
                     obtain ⟨c3227, h⟩ := need_of h
                     refine xp (.int .u8 (bix s_ (IntKind.wrap .i64 (s3033.i + 1)))) Z Z (pu_strIdxM Z underlying9 (tm Z) (tm Z) c3227) (xp (.bool (decide ((bix s_ (IntKind.wrap .i64 (s3033.i + 1))) = 39))) Z Z (pu_int (v := .bool (decide ((bix s_ (IntKind.wrap .i64 (s3033.i + 1))) = 39))) Z Z (tm Z) (AEv.int _ _) Z) (xa (.bool (decide ((bix s_ (IntKind.wrap .i64 (s3033.i + 1))) = 39))) Z (pu_pick (b := true) Z (tm Z) (fun _ => (tm Z)) (fun h => nomatch h)) (xm Z Z Z (xe ?_))))
                     obtain rfl := some_of h
                     exact ⟨(), Weak.mkL [0] (by decide) ⟨⟨_, Z, Z⟩, trivial⟩ ⟨tm Z, tm Z, tm Z, tm Z, tm Z, tm Z, tm Z, (AEv.le (tm Z) vr), trivial⟩⟩
                    ·replace h := ite_f (dec_f hb3226) h
                     refine aops_known 171 Z hb3226 (xn Z Z Z (xn Z Z Z (xn Z Z Z (xn Z Z Z (xn Z Z Z (xa (.bool false) Z (pu_pick (b := false) Z (tm Z) (fun h => nomatch h) (fun _ => (AEv.bool _))) (xm Z Z Z (xe ?_))))))))
                     obtain rfl := some_of h
                     exact ⟨(), Weak.mkL [0] (by decide) ⟨⟨_, Z, Z⟩, trivial⟩ ⟨tm Z, tm Z, tm Z, tm Z, tm Z, tm Z, tm Z, tm Z, trivial⟩⟩
                   ·replace h := ite_f (dec_f hb3225) h
                    refine aops_known 164 Z hb3225 (xn Z Z Z (xn Z Z Z (xn Z Z Z (xn Z Z Z (xn Z Z Z (xa (.bool false) Z (pu_pick (b := false) Z (tm Z) (fun h => nomatch h) (fun _ => (AEv.bool _))) (xm Z Z Z (xn Z Z Z (xn Z Z Z ?_)))))))))
                    refine xn Z Z Z (xn Z Z Z (xn Z Z Z (xa (.bool false) Z (pu_pick (b := false) Z (tm Z) (fun h => nomatch h) (fun _ => (AEv.bool _))) (xm Z Z Z (xe ?_)))))
                    obtain rfl := some_of h
                    exact ⟨(), Weak.mkL [0] (by decide) ⟨⟨_, Z, Z⟩, trivial⟩ ⟨tm Z, tm Z, tm Z, tm Z, tm Z, tm Z, tm Z, tm Z, trivial⟩⟩
                  ·replace h := ite_f (dec_f hb3224) h
                   refine aops_known 160 Z hb3224 (xn Z Z Z (xn Z Z Z (xa (.bool false) Z (pu_pick (b := false) Z (tm Z) (fun h => nomatch h) (fun _ => (AEv.bool _))) (xm Z Z Z (xn Z Z Z (xn Z Z Z (xn Z Z Z (xn Z Z Z (xn Z Z Z ?_)))))))))
                   refine xa (.bool false) Z (pu_pick (b := false) Z (tm Z) (fun h => nomatch h) (fun _ => (AEv.bool _))) (xm Z Z Z (xn Z Z Z (xn Z Z Z (xn Z Z Z (xn Z Z Z (xn Z Z Z (xa (.bool false) Z (pu_pick (b := false) Z (tm Z) (fun h => nomatch h) (fun _ => (AEv.bool _))) (xm Z Z Z (xe ?_)))))))))
                   obtain rfl := some_of h
                   exact ⟨(), Weak.mkL [0] (by decide) ⟨⟨_, Z, Z⟩, trivial⟩ ⟨tm Z, tm Z, tm Z, tm Z, tm Z, tm Z, tm Z, tm Z, trivial⟩⟩
                 ·intro _
                  have h := h3222
                  refine aw_cond (b := s3221) (tm Z) (fun hb3231 => ?_) (fun hb3231 => ?_)
                  ·replace h := ite_t hb3231 h
                   refine xr (xm Z Z Z ?_)
                   obtain ⟨c3228, h⟩ := need_of h
                   refine xa (.str (s3033.now ++ [39])) Z (pu_strAdd Z (tm Z) (AEv.const Z) c3228) (xm Z Z Z (xe (aw_region (xm Z Z Z (xa (.i (IntKind.wrap .i64 (s3033.i + 1))) Z (pu_int (v := .i (IntKind.wrap .i64 (s3033.i + 1))) Z Z (tm Z) (AEv.int _ _) Z) (xm Z Z Z (xe ?_)))))))
                   exact ⟨(s3033.out, s3033.in_, s3033.open_, false, s3033.now ++ [39], IntKind.wrap .i64 (s3033.i + 1)), n3034, (some_of h).symm, Weak.mkL [0] (by decide) ⟨⟨_, Z, Z⟩, trivial⟩ ⟨tm Z, tm Z, tm Z, tm Z, tm Z, (AEv.le (tm Z) vr), (AEv.le (tm Z) vr), trivial⟩⟩
                  ·replace h := ite_fb hb3231 h
                   refine aw_region (xm Z Z Z (xm Z Z Z (xm Z Z Z (xm Z Z Z (xa (.i (IntKind.wrap .i64 (s3033.i + 1))) Z (pu_int (v := .i (IntKind.wrap .i64 (s3033.i + 1))) Z Z (tm Z) (AEv.int _ _) Z) ?_)))))
                   obtain ⟨c3229, h⟩ := need_of h
                   refine xa (.str (sub s_ s3033.i (IntKind.wrap .i64 (s3033.i + 1)))) Z (pu_strSliceM Z underlying9 (tm Z) ⟨_, (tm Z)⟩ ⟨_, (tm Z)⟩ c3229) ?_
                   obtain ⟨c3230, h⟩ := need_of h
                   refine xa (.str (s3033.now ++ (sub s_ s3033.i (IntKind.wrap .i64 (s3033.i + 1))))) Z (pu_strAdd Z (tm Z) (tm Z) c3230) (xm Z Z Z (xe ?_))
                   exact ⟨(s3033.out, s3033.in_, s3033.open_, false, s3033.now ++ (sub s_ s3033.i (IntKind.wrap .i64 (s3033.i + 1))), s3033.i), n3034, (some_of h).symm, Weak.mkL [0] (by decide) ⟨⟨_, Z, Z⟩, trivial⟩ ⟨tm Z, tm Z, tm Z, tm Z, tm Z, (AEv.le (tm Z) vr), tm Z, trivial⟩⟩
  ·replace h := ite_f (dec_f hb3240) h
   refine aw_exit ?_
   obtain rfl := some_of h
   have h := congrArg some (hx3035 _ rfl)
   exact ⟨(s3033.out, s3033.in_, s3033.open_, s3033.now), n3034, (some_of h).symm, Weak.mkL [0] (by decide) ⟨⟨_, Z, Z⟩, trivial⟩ ⟨tm Z, tm Z, tm Z, tm Z, trivial⟩⟩

theorem mewsref05.one.ok {s_ : List UInt8} {l : api.Limits} {r : api.Input × Int} (h : mewsref05.one s_ l = some r) : Go.Lift.Spec prog 54 [.str s_, .agg [.i l.Args, .i l.Bulk, .i l.Line]] [] (fun v H => v = .tup [.agg [.str r.1.Rest, .sl .no 1 (r.1.Args.map AV.str), .i r.1.Left, .i r.1.Size, .bool r.1.Body, .i r.1.Need, .i r.1.Dead], .i r.2] ∧ H = []) := by
 unfold mewsref05.one at h
 refine Go.Lift.Spec.of_body (rs := [.cell 4 29, .tmp 5]) func54 Z Z (nb Z) Z (xr (xc Z (op_box (cs := [.i l.Args, .i l.Bulk, .i l.Line]) (v := .agg [.i l.Args, .i l.Bulk, .i l.Line]) Z (tm Z) Z Z ?_)))
 intro p848
 refine xc Z (op_alloc (cs := [.str ([] : List UInt8), .sl .full 1 (([] : List (List UInt8)).map AV.str), .i 0, .i 0, .bool false, .i 0, .i 0]) (v := .agg [.str ([] : List UInt8), .sl .full 1 (([] : List (List UInt8)).map AV.str), .i 0, .i 0, .bool false, .i 0, .i 0]) Z zeroValue29 Z Z Z ?_)
 intro p849
 refine xa (.i 0) Z (pu_assign Z (AEv.int _ _)) (xe ?_)
 obtain ⟨s1694, s1694e, h1271⟩ := bind_some h
 refine aw_join (σ := Unit) (ν := Unit) (fun u v => [(0, .str s_), (3, .ptr p848 0), (4, .ptr p849 0)]) (fun u v => [(p848, .cells [.i l.Args, .i l.Bulk, .i l.Line]), (p849, .cells [.str ([] : List UInt8), .sl .full 1 (([] : List (List UInt8)).map AV.str), .i 0, .i 0, .bool false, .i 0, .i 0])]) (fun u => s1694 = .inl u) ?_ ?_
 ·intro s1270
  intro _
  rintro rfl
  have h := onSum_inl h1271
  refine aw_seq (xr (xm Z Z Z (xa (.i (s_.length : Int)) Z (pu_strLen Z underlying9 (tm Z)) (xa (.ptr p848 2) Z (fa Z underlying23 Z sizeOf3 Z Z Z) (xc Z (op_load1 (i := 0) Z isAgg3 (tm Z) Z Z (xa (.bool (decide (l.Line < (s_.length : Int)))) Z (pu_int (v := .bool (decide (l.Line < (s_.length : Int)))) Z Z (tm Z) (tm Z) Z) (xe (aw_cond (b := decide (l.Line < (s_.length : Int))) (tm Z) (fun hb1693 => ?_) (fun hb1693 => ?_))))))))))
  ·replace h := ite_t (dec_t hb1693) h
   refine xr (xa (.agg [.str ([] : List UInt8), .sl .full 1 (([] : List (List UInt8)).map AV.str), .i 0, .i 0, .bool false, .i 0, .i 0]) Z (pu_build (zs := [.str ([] : List UInt8), .sl .full 1 (([] : List (List UInt8)).map AV.str), .i 0, .i 0, .bool false, .i 0, .i 0]) (szs := [1, 1, 1, 1, 1, 1, 1]) (aparts := []) (cs := [.str ([] : List UInt8), .sl .full 1 (([] : List (List UInt8)).map AV.str), .i 0, .i 0, .bool false, .i 0, .i 0]) Z underlying29 zeroValue29 Z ⟨sizeOf9, sizeOf26, sizeOf3, sizeOf3, sizeOf4, sizeOf3, sizeOf27, trivial⟩ trivial Z) (ac0 Z Z (op_store (i := 1) (cs' := [.str ([] : List UInt8), .sl .full 1 (([] : List (List UInt8)).map AV.str), .i 0, .i 0, .bool false, .i 0, .i 0]) Z sizeOf29 (tm Z) (v := .agg [.str ([] : List UInt8), .sl .full 1 (([] : List (List UInt8)).map AV.str), .i 0, .i 0, .bool false, .i 0, .i 0]) (tm Z) Z Z Z (nb Z) Z (xa (.i 6) Z (pu_assign Z (AEv.int _ _)) (xe (aw_ret ?_))))))
   obtain rfl := some_of h
   exact ⟨[.agg [.str ([] : List UInt8), .sl .full 1 (([] : List (List UInt8)).map AV.str), .i 0, .i 0, .bool false, .i 0, .i 0], .i 6], .tup [.agg [.str ([] : List UInt8), .sl .no 1 (([] : List (List UInt8)).map AV.str), .i 0, .i 0, .bool false, .i 0, .i 0], .i 6], [], ⟨(CellOk.agg 1 (tm Z) Z isAgg29 sizeOf29 (nb Z) Z), (tm Z), trivial⟩, (AV.Le.tup ⟨(AV.Le.agg ⟨vr, (AV.Le.forget _ _ _), vr, vr, vr, vr, vr, trivial⟩), vr, trivial⟩), Weak.mkL [] (by decide) trivial trivial, ⟨Z, Z⟩⟩
  ·replace h := ite_f (dec_f hb1693) h
   refine aw_skip (xr (xm Z Z Z (xa (.agg [.str s_, .sl .full 1 (([] : List (List UInt8)).map AV.str), .i 0, .i 0, .bool false, .i 0, .i 0]) Z (pu_build (zs := [.str ([] : List UInt8), .sl .full 1 (([] : List (List UInt8)).map AV.str), .i 0, .i 0, .bool false, .i 0, .i 0]) (szs := [1, 1, 1, 1, 1, 1, 1]) (aparts := [(0, .str s_)]) (cs := [.str s_, .sl .full 1 (([] : List (List UInt8)).map AV.str), .i 0, .i 0, .bool false, .i 0, .i 0]) Z underlying29 zeroValue29 Z ⟨sizeOf9, sizeOf26, sizeOf3, sizeOf3, sizeOf4, sizeOf3, sizeOf27, trivial⟩ ⟨Z, (tm Z), trivial⟩ Z) (ac0 Z Z (op_store (i := 1) (cs' := [.str s_, .sl .full 1 (([] : List (List UInt8)).map AV.str), .i 0, .i 0, .bool false, .i 0, .i 0]) Z sizeOf29 (tm Z) (v := .agg [.str s_, .sl .full 1 (([] : List (List UInt8)).map AV.str), .i 0, .i 0, .bool false, .i 0, .i 0]) (tm Z) Z Z Z (nb Z) Z (xa (.i (-1)) Z (pu_assign Z (AEv.int _ _)) (xe (aw_ret ?_))))))))
   obtain rfl := some_of h
   exact ⟨[.agg [.str s_, .sl .full 1 (([] : List (List UInt8)).map AV.str), .i 0, .i 0, .bool false, .i 0, .i 0], .i (-1)], .tup [.agg [.str s_, .sl .no 1 (([] : List (List UInt8)).map AV.str), .i 0, .i 0, .bool false, .i 0, .i 0], .i (-1)], [], ⟨(CellOk.agg 1 (tm Z) Z isAgg29 sizeOf29 (nb Z) Z), (tm Z), trivial⟩, (AV.Le.tup ⟨(AV.Le.agg ⟨vr, (AV.Le.forget _ _ _), vr, vr, vr, vr, vr, trivial⟩), vr, trivial⟩), Weak.mkL [] (by decide) trivial trivial, ⟨Z, Z⟩⟩
 ·have h := s1694e
  refine xr (xa (.i 0) Z (pu_assign Z (AEv.int _ _)) (xe (aw_block (aw_while (σ := mewsref05.one.S0) (ν := Unit) (mewsref05.one.body0 s_ l) (fun s1551 v => [(0, .str s_), (3, .ptr p848 0), (4, .ptr p849 0), (6, .i s1551.i)]) (fun s1551 v => [(p848, .cells [.i l.Args, .i l.Bulk, .i l.Line]), (p849, .cells [.str ([] : List UInt8), .sl .full 1 (([] : List (List UInt8)).map AV.str), .i 0, .i 0, .bool false, .i 0, .i 0])]) ⟨0⟩ () _ h (Weak.mkL [1, 0] (by decide) ⟨⟨_, Z, cr, Z⟩, ⟨_, Z, cr, Z⟩, trivial⟩ ⟨tm Z, tm Z, tm Z, tm Z, trivial⟩) ?_))))
  rintro s1551 _ x1553 h hx1552
  unfold mewsref05.one.body0 at h
  refine aw_seq ?_
  obtain ⟨s1556, s1556e, h1557⟩ := letO_of h
  refine aw_meet (ν := Unit) (fun v => [(0, .str s_), (3, .ptr p848 0), (4, .ptr p849 0), (6, .i s1551.i), (20, .bool s1556)]) (fun v => [(p848, .cells [.i l.Args, .i l.Bulk, .i l.Line]), (p849, .cells [.str ([] : List UInt8), .sl .full 1 (([] : List (List UInt8)).map AV.str), .i 0, .i 0, .bool false, .i 0, .i 0])]) ?_ ?_
  ·have h := s1556e.symm
   refine aw_region (xm Z Z Z (xm Z Z Z (xa (.i (s_.length : Int)) Z (pu_strLen Z underlying9 (tm Z)) (xa (.bool (decide (s1551.i < (s_.length : Int)))) Z (pu_int (v := .bool (decide (s1551.i < (s_.length : Int)))) Z Z (tm Z) (tm Z) Z) (xm Z Z Z ?_)))))
   rcases Bool.eq_false_or_eq_true (decide (s1551.i < (s_.length : Int))) with hb1559 | hb1559
   ·replace h := ite_t (dec_t hb1559) h
    refine aops_known 15 Z hb1559 (xq Z Z Z Z (xp (.ptr p848 2) Z Z (fa Z underlying23 Z sizeOf3 Z Z Z) (xg Z Z (op_load1 (i := 0) Z isAgg3 (tm Z) Z Z (xp (.bool (decide (s1551.i ≤ l.Line))) Z Z (pu_int (v := .bool (decide (s1551.i ≤ l.Line))) Z Z (tm Z) (tm Z) Z) (xa (.bool (decide (s1551.i ≤ l.Line))) Z (pu_pick (b := true) Z (tm Z) (fun _ => (tm Z)) (fun h => nomatch h)) (xe ?_)))))))
    subst h
    exact ⟨(), Weak.mkL [0, 1] (by decide) ⟨⟨_, Z, cr, Z⟩, ⟨_, Z, cr, Z⟩, trivial⟩ ⟨tm Z, tm Z, tm Z, tm Z, (AEv.le (tm Z) vr), trivial⟩⟩
   ·replace h := ite_f (dec_f hb1559) h
    refine aops_known 15 Z hb1559 (xn Z Z Z (xn Z Z Z (xn Z Z Z (xn Z Z Z (xa (.bool false) Z (pu_pick (b := false) Z (tm Z) (fun h => nomatch h) (fun _ => (AEv.bool _))) (xe ?_))))))
    subst h
    exact ⟨(), Weak.mkL [0, 1] (by decide) ⟨⟨_, Z, cr, Z⟩, ⟨_, Z, cr, Z⟩, trivial⟩ ⟨tm Z, tm Z, tm Z, tm Z, tm Z, trivial⟩⟩
  ·intro _
   have h := h1557
   refine aw_cond (b := s1556) (tm Z) (fun hb1692 => ?_) (fun hb1692 => ?_)
   ·replace h := ite_t hb1692 h
    refine aw_skip ?_
    obtain ⟨s1691, s1691e, h1625⟩ := bind_some h
    refine aw_join (σ := Unit) (ν := Unit) (fun u v => [(0, .str s_), (3, .ptr p848 0), (4, .ptr p849 0), (6, .i s1551.i)]) (fun u v => [(p848, .cells [.i l.Args, .i l.Bulk, .i l.Line]), (p849, .cells [.str ([] : List UInt8), .sl .full 1 (([] : List (List UInt8)).map AV.str), .i 0, .i 0, .bool false, .i 0, .i 0])]) (fun u => s1691 = .inl u) ?_ ?_
    ·intro s1624
     intro _
     rintro rfl
     have h := onSum_inl h1625
     refine aw_region (xm Z Z Z (xa (.i (IntKind.wrap .i64 (s1551.i + 1))) Z (pu_int (v := .i (IntKind.wrap .i64 (s1551.i + 1))) Z Z (tm Z) (AEv.int _ _) Z) (xm Z Z Z (xe ?_))))
     obtain rfl := some_of h
     exact ⟨_, (), Z, Weak.mkL [0, 1] (by decide) ⟨⟨_, Z, cr, Z⟩, ⟨_, Z, cr, Z⟩, trivial⟩ ⟨tm Z, tm Z, tm Z, (AEv.le (tm Z) vr), trivial⟩⟩
    ·have h := s1691e
     refine aw_block (aw_seq (xr (xm Z Z Z (xm Z Z Z ?_))))
     obtain ⟨c1627, h⟩ := need_of h
     refine xa (.int .u8 (bix s_ s1551.i)) Z (pu_strIdxM Z underlying9 (tm Z) (tm Z) c1627) (xa (.bool (!decide ((bix s_ s1551.i) = 10))) Z (pu_int (v := .bool (!decide ((bix s_ s1551.i) = 10))) Z Z (tm Z) (AEv.int _ _) Z) (xe (aw_cond (b := (!decide ((bix s_ s1551.i) = 10))) (tm Z) (fun hb1690 => ?_) (fun hb1690 => ?_))))
     ·replace h := ite_f (ndec_t hb1690) h
      refine aw_exit ?_
      exact ⟨(), (), (some_of h).symm, Weak.mkL [0, 1] (by decide) ⟨⟨_, Z, cr, Z⟩, ⟨_, Z, cr, Z⟩, trivial⟩ ⟨tm Z, tm Z, tm Z, tm Z, trivial⟩⟩
     ·replace h := ite_t (ndec_f hb1690) h
      refine aw_skip (xr (xm Z Z Z (xm Z Z Z ?_)))
      obtain ⟨c1628, h⟩ := need_of h
      refine xa (.str (sub s_ 0 s1551.i)) Z (pu_strSliceM Z underlying9 (tm Z) Z ⟨_, (tm Z)⟩ c1628) (xm Z Z Z (xe ?_))
      obtain ⟨s1639, s1639e, h1640⟩ := bind_some h
      refine aw_meet (ν := Unit) (fun v => [(3, .ptr p848 0), (4, .ptr p849 0), (6, .i s1551.i), (7, .str s1639)]) (fun v => [(p848, .cells [.i l.Args, .i l.Bulk, .i l.Line]), (p849, .cells [.str ([] : List UInt8), .sl .full 1 (([] : List (List UInt8)).map AV.str), .i 0, .i 0, .bool false, .i 0, .i 0])]) ?_ ?_
      ·have h := s1639e
       obtain ⟨s1644, s1644e, h1645⟩ := bind_some h
       refine aw_meet (ν := Unit) (fun v => [(3, .ptr p848 0), (4, .ptr p849 0), (6, .i s1551.i), (7, .str (sub s_ 0 s1551.i)), (38, .bool s1644)]) (fun v => [(p848, .cells [.i l.Args, .i l.Bulk, .i l.Line]), (p849, .cells [.str ([] : List UInt8), .sl .full 1 (([] : List (List UInt8)).map AV.str), .i 0, .i 0, .bool false, .i 0, .i 0])]) ?_ ?_
       ·have h := s1644e
        refine aw_region (xm Z Z Z (xa (.bool (decide (0 < s1551.i))) Z (pu_int (v := .bool (decide (0 < s1551.i))) Z Z (tm Z) (AEv.int _ _) Z) (xm Z Z Z ?_)))
        rcases Bool.eq_false_or_eq_true (decide (0 < s1551.i)) with hb1647 | hb1647
        ·replace h := ite_t (dec_t hb1647) h
         refine aops_known 32 Z hb1647 (xq Z Z Z Z (xq Z Z Z Z (xp (.i (IntKind.wrap .i64 (s1551.i - 1))) Z Z (pu_int (v := .i (IntKind.wrap .i64 (s1551.i - 1))) Z Z (tm Z) (AEv.int _ _) Z) ?_)))
         obtain ⟨c1648, h⟩ := need_of h
         refine xp (.int .u8 (bix (sub s_ 0 s1551.i) (IntKind.wrap .i64 (s1551.i - 1)))) Z Z (pu_strIdxM Z underlying9 (tm Z) (tm Z) c1648) (xp (.bool (decide ((bix (sub s_ 0 s1551.i) (IntKind.wrap .i64 (s1551.i - 1))) = 13))) Z Z (pu_int (v := .bool (decide ((bix (sub s_ 0 s1551.i) (IntKind.wrap .i64 (s1551.i - 1))) = 13))) Z Z (tm Z) (AEv.int _ _) Z) (xa (.bool (decide ((bix (sub s_ 0 s1551.i) (IntKind.wrap .i64 (s1551.i - 1))) = 13))) Z (pu_pick (b := true) Z (tm Z) (fun _ => (tm Z)) (fun h => nomatch h)) (xe ?_)))
         obtain rfl := some_of h
         exact ⟨(), Weak.mkL [0, 1] (by decide) ⟨⟨_, Z, cr, Z⟩, ⟨_, Z, cr, Z⟩, trivial⟩ ⟨tm Z, tm Z, tm Z, tm Z, (AEv.le (tm Z) vr), trivial⟩⟩
        ·replace h := ite_f (dec_f hb1647) h
         refine aops_known 32 Z hb1647 (xn Z Z Z (xn Z Z Z (xn Z Z Z (xn Z Z Z (xn Z Z Z (xa (.bool false) Z (pu_pick (b := false) Z (tm Z) (fun h => nomatch h) (fun _ => (AEv.bool _))) (xe ?_)))))))
         obtain rfl := some_of h
         exact ⟨(), Weak.mkL [0, 1] (by decide) ⟨⟨_, Z, cr, Z⟩, ⟨_, Z, cr, Z⟩, trivial⟩ ⟨tm Z, tm Z, tm Z, tm Z, tm Z, trivial⟩⟩
       ·intro _
        have h := h1645
        refine aw_cond (b := s1644) (tm Z) (fun hb1651 => ?_) (fun hb1651 => ?_)
        ·replace h := ite_t hb1651 h
         refine aw_region (xm Z Z Z (xm Z Z Z (xa (.i (IntKind.wrap .i64 (s1551.i - 1))) Z (pu_int (v := .i (IntKind.wrap .i64 (s1551.i - 1))) Z Z (tm Z) (AEv.int _ _) Z) ?_)))
         obtain ⟨c1649, h⟩ := need_of h
         obtain ⟨x1650, x1650e, h⟩ := letO_of h
         refine xa (.str x1650) Z (APure.eq (pu_strSliceM Z underlying9 (tm Z) Z ⟨_, (tm Z)⟩ c1649) (congrArg (AV.str) x1650e.symm)) (xm Z Z Z (xe ?_))
         obtain rfl := some_of h
         exact ⟨(), Weak.mkL [0, 1] (by decide) ⟨⟨_, Z, cr, Z⟩, ⟨_, Z, cr, Z⟩, trivial⟩ ⟨tm Z, tm Z, tm Z, tm Z, trivial⟩⟩
        ·replace h := ite_fb hb1651 h
         refine aw_skip ?_
         obtain rfl := some_of h
         exact ⟨(), Weak.mkL [0, 1] (by decide) ⟨⟨_, Z, cr, Z⟩, ⟨_, Z, cr, Z⟩, trivial⟩ ⟨tm Z, tm Z, tm Z, (AEv.le (tm Z) vr), trivial⟩⟩
      ·intro _
       have h := h1640
       refine xr (xm Z Z Z ?_)
       obtain ⟨r1652, r1652e, h⟩ := bind_some h
       refine xc Z (op_call (vs := [.str s1639]) (H := []) Z call80 ⟨(tm Z), trivial⟩ (List.Perm.refl _) (mewsref04.Split.ok r1652e) ?_)
       rintro _ _ ⟨t1653, rfl, rfl⟩
       refine xm Z Z Z (xa (.sl (.own t1653) 1 (r1652.1.map AV.str)) Z (pu_extract Z (tm Z) (nb Z) Z) (xa (.bool r1652.2) Z (pu_extract Z (tm Z) (nb Z) Z) (xm Z Z Z (xm Z Z Z (xe (aw_seq (xr (xm Z Z Z ?_))))))))
       refine xa (.bool (!r1652.2)) Z (pu_not Z (tm Z)) (xe (aw_cond (b := (!r1652.2)) (tm Z) (fun hb1689 => ?_) (fun hb1689 => ?_)))
       ·replace h := ite_t hb1689 h
        refine xr (xa (.agg [.str ([] : List UInt8), .sl .full 1 (([] : List (List UInt8)).map AV.str), .i 0, .i 0, .bool false, .i 0, .i 0]) Z (pu_build (zs := [.str ([] : List UInt8), .sl .full 1 (([] : List (List UInt8)).map AV.str), .i 0, .i 0, .bool false, .i 0, .i 0]) (szs := [1, 1, 1, 1, 1, 1, 1]) (aparts := []) (cs := [.str ([] : List UInt8), .sl .full 1 (([] : List (List UInt8)).map AV.str), .i 0, .i 0, .bool false, .i 0, .i 0]) Z underlying29 zeroValue29 Z ⟨sizeOf9, sizeOf26, sizeOf3, sizeOf3, sizeOf4, sizeOf3, sizeOf27, trivial⟩ trivial Z) (ac0 Z Z (op_store (i := 2) (cs' := [.str ([] : List UInt8), .sl .full 1 (([] : List (List UInt8)).map AV.str), .i 0, .i 0, .bool false, .i 0, .i 0]) Z sizeOf29 (tm Z) (v := .agg [.str ([] : List UInt8), .sl .full 1 (([] : List (List UInt8)).map AV.str), .i 0, .i 0, .bool false, .i 0, .i 0]) (tm Z) Z Z Z (nb Z) Z (xa (.i 16) Z (pu_assign Z (AEv.int _ _)) (xe (aw_ret ?_))))))
        obtain rfl := some_of h
        have h := onSum_inr h1625
        obtain rfl := some_of h
        have h := congrArg some (hx1552 _ rfl)
        obtain rfl := some_of h
        have h := onSum_inr h1271
        obtain rfl := some_of h
        exact ⟨[.agg [.str ([] : List UInt8), .sl .full 1 (([] : List (List UInt8)).map AV.str), .i 0, .i 0, .bool false, .i 0, .i 0], .i 16], .tup [.agg [.str ([] : List UInt8), .sl .no 1 (([] : List (List UInt8)).map AV.str), .i 0, .i 0, .bool false, .i 0, .i 0], .i 16], [], ⟨(CellOk.agg 2 (tm Z) Z isAgg29 sizeOf29 (nb Z) Z), (tm Z), trivial⟩, (AV.Le.tup ⟨(AV.Le.agg ⟨vr, (AV.Le.forget _ _ _), vr, vr, vr, vr, vr, trivial⟩), vr, trivial⟩), Weak.mkL [] (by decide) trivial trivial, ⟨Z, Z⟩⟩
       ·replace h := ite_fb hb1689 h
        refine aw_skip (aw_seq (xr (xm Z Z Z (xa (.i (r1652.1.length : Int)) Z (pu_lenM Z underlying26 (tm Z)) (xa (.ptr p848 0) Z (fa Z underlying23 Z sizeOf3 Z Z Z) (xc Z (op_load1 (i := 1) Z isAgg3 (tm Z) Z Z (xa (.bool (decide (l.Args < (r1652.1.length : Int)))) Z (pu_int (v := .bool (decide (l.Args < (r1652.1.length : Int)))) Z Z (tm Z) (tm Z) Z) (xe ?_)))))))))
        refine aw_cond (b := decide (l.Args < (r1652.1.length : Int))) (tm Z) (fun hb1688 => ?_) (fun hb1688 => ?_)
        ·replace h := ite_t (dec_t hb1688) h
         refine xr (xa (.agg [.str ([] : List UInt8), .sl .full 1 (([] : List (List UInt8)).map AV.str), .i 0, .i 0, .bool false, .i 0, .i 0]) Z (pu_build (zs := [.str ([] : List UInt8), .sl .full 1 (([] : List (List UInt8)).map AV.str), .i 0, .i 0, .bool false, .i 0, .i 0]) (szs := [1, 1, 1, 1, 1, 1, 1]) (aparts := []) (cs := [.str ([] : List UInt8), .sl .full 1 (([] : List (List UInt8)).map AV.str), .i 0, .i 0, .bool false, .i 0, .i 0]) Z underlying29 zeroValue29 Z ⟨sizeOf9, sizeOf26, sizeOf3, sizeOf3, sizeOf4, sizeOf3, sizeOf27, trivial⟩ trivial Z) (ac0 Z Z (op_store (i := 2) (cs' := [.str ([] : List UInt8), .sl .full 1 (([] : List (List UInt8)).map AV.str), .i 0, .i 0, .bool false, .i 0, .i 0]) Z sizeOf29 (tm Z) (v := .agg [.str ([] : List UInt8), .sl .full 1 (([] : List (List UInt8)).map AV.str), .i 0, .i 0, .bool false, .i 0, .i 0]) (tm Z) Z Z Z (nb Z) Z (xa (.i 7) Z (pu_assign Z (AEv.int _ _)) (xe (aw_ret ?_))))))
         obtain rfl := some_of h
         have h := onSum_inr h1625
         obtain rfl := some_of h
         have h := congrArg some (hx1552 _ rfl)
         obtain rfl := some_of h
         have h := onSum_inr h1271
         obtain rfl := some_of h
         exact ⟨[.agg [.str ([] : List UInt8), .sl .full 1 (([] : List (List UInt8)).map AV.str), .i 0, .i 0, .bool false, .i 0, .i 0], .i 7], .tup [.agg [.str ([] : List UInt8), .sl .no 1 (([] : List (List UInt8)).map AV.str), .i 0, .i 0, .bool false, .i 0, .i 0], .i 7], [], ⟨(CellOk.agg 2 (tm Z) Z isAgg29 sizeOf29 (nb Z) Z), (tm Z), trivial⟩, (AV.Le.tup ⟨(AV.Le.agg ⟨vr, (AV.Le.forget _ _ _), vr, vr, vr, vr, vr, trivial⟩), vr, trivial⟩), Weak.mkL [] (by decide) trivial trivial, ⟨Z, Z⟩⟩
        ·replace h := ite_f (dec_f hb1688) h
         refine aw_skip ?_
         obtain ⟨s1687, s1687e, h1670⟩ := bind_some h
         refine aw_join (σ := Unit) (ν := Unit) (fun u v => [(4, .ptr p849 0), (6, .i s1551.i), (8, .sl (.own t1653) 1 (r1652.1.map AV.str))]) (fun u v => [(p849, .cells [.str ([] : List UInt8), .sl .full 1 (([] : List (List UInt8)).map AV.str), .i 0, .i 0, .bool false, .i 0, .i 0]), (t1653, .spare)]) (fun u => s1687 = .inl u) ?_ ?_
         ·intro s1669
          intro _
          rintro rfl
          have h := onSum_inl h1670
          refine xr (xm Z Z Z (xm Z Z Z (xa (.i (IntKind.wrap .i64 (s1551.i + 1))) Z (pu_int (v := .i (IntKind.wrap .i64 (s1551.i + 1))) Z Z (tm Z) (AEv.int _ _) Z) (xa (.agg [.str ([] : List UInt8), .sl (.own t1653) 1 (r1652.1.map AV.str), .i 0, .i (IntKind.wrap .i64 (s1551.i + 1)), .bool false, .i 0, .i 0]) Z (pu_build (zs := [.str ([] : List UInt8), .sl .full 1 (([] : List (List UInt8)).map AV.str), .i 0, .i 0, .bool false, .i 0, .i 0]) (szs := [1, 1, 1, 1, 1, 1, 1]) (aparts := [(1, .sl (.own t1653) 1 (r1652.1.map AV.str)), (3, .i (IntKind.wrap .i64 (s1551.i + 1)))]) (cs := [.str ([] : List UInt8), .sl (.own t1653) 1 (r1652.1.map AV.str), .i 0, .i (IntKind.wrap .i64 (s1551.i + 1)), .bool false, .i 0, .i 0]) Z underlying29 zeroValue29 Z ⟨sizeOf9, sizeOf26, sizeOf3, sizeOf3, sizeOf4, sizeOf3, sizeOf27, trivial⟩ ⟨Z, (tm Z), ⟨Z, (tm Z), trivial⟩⟩ Z) (ac0 Z Z (op_store (i := 0) (cs' := [.str ([] : List UInt8), .sl (.own t1653) 1 (r1652.1.map AV.str), .i 0, .i (IntKind.wrap .i64 (s1551.i + 1)), .bool false, .i 0, .i 0]) Z sizeOf29 (tm Z) (v := .agg [.str ([] : List UInt8), .sl (.own t1653) 1 (r1652.1.map AV.str), .i 0, .i (IntKind.wrap .i64 (s1551.i + 1)), .bool false, .i 0, .i 0]) (tm Z) Z Z Z (nb Z) Z (xa (.i 0) Z (pu_assign Z (AEv.int _ _)) (xe (aw_ret ?_)))))))))
          obtain rfl := some_of h
          have h := onSum_inr h1625
          obtain rfl := some_of h
          have h := congrArg some (hx1552 _ rfl)
          obtain rfl := some_of h
          have h := onSum_inr h1271
          obtain rfl := some_of h
          exact ⟨[.agg [.str ([] : List UInt8), .sl (.own t1653) 1 (r1652.1.map AV.str), .i 0, .i (IntKind.wrap .i64 (s1551.i + 1)), .bool false, .i 0, .i 0], .i 0], .tup [.agg [.str ([] : List UInt8), .sl .no 1 (r1652.1.map AV.str), .i 0, .i (IntKind.wrap .i64 (s1551.i + 1)), .bool false, .i 0, .i 0], .i 0], [], ⟨(CellOk.agg 0 (tm Z) Z isAgg29 sizeOf29 (nb Z) Z), (tm Z), trivial⟩, (AV.Le.tup ⟨(AV.Le.agg ⟨vr, (AV.Le.forget _ _ _), vr, vr, vr, vr, vr, trivial⟩), vr, trivial⟩), Weak.mkL [] (by decide) trivial trivial, ⟨Z, Z⟩⟩
         ·have h := s1687e
          refine xr (xa (.i 0) Z (pu_assign Z (AEv.int _ _)) (xe (aw_block (aw_while (σ := mewsref05.one.S2) (ν := Unit) (mewsref05.one.body2 r1652 l) (fun s1680 v => [(3, .ptr p848 0), (4, .ptr p849 0), (6, .i s1551.i), (8, .sl (.own t1653) 1 (r1652.1.map AV.str)), (10, .i s1680.k)]) (fun s1680 v => [(p848, .cells [.i l.Args, .i l.Bulk, .i l.Line]), (p849, .cells [.str ([] : List UInt8), .sl .full 1 (([] : List (List UInt8)).map AV.str), .i 0, .i 0, .bool false, .i 0, .i 0]), (t1653, .spare)]) ⟨0⟩ () _ h (Weak.mkL [1, 2, 0] (by decide) ⟨⟨_, Z, cr, Z⟩, ⟨_, Z, cr, Z⟩, ⟨_, Z, Z⟩, trivial⟩ ⟨tm Z, tm Z, tm Z, tm Z, tm Z, trivial⟩) ?_))))
          rintro s1680 _ x1682 h hx1681
          unfold mewsref05.one.body2 at h
          refine aw_seq (xr (xm Z Z Z (xm Z Z Z (xa (.i (r1652.1.length : Int)) Z (pu_lenM Z underlying26 (tm Z)) (xa (.bool (decide (s1680.k < (r1652.1.length : Int)))) Z (pu_int (v := .bool (decide (s1680.k < (r1652.1.length : Int)))) Z Z (tm Z) (tm Z) Z) (xe (aw_cond (b := decide (s1680.k < (r1652.1.length : Int))) (tm Z) (fun hb1686 => ?_) (fun hb1686 => ?_))))))))
          ·replace h := ite_t (dec_t hb1686) h
           refine aw_skip (aw_seq (aw_block (aw_seq ?_)))
           obtain ⟨c1684, h⟩ := need_of h
           refine aw_planR (by decide +kernel) [[], [], [], [], [], [], [(0, 0, false)], []] [[], [], []] [[[(p848, .cells [.i l.Args, .i l.Bulk, .i l.Line])]], [[(p849, .cells [.str ([] : List UInt8), .sl .full 1 (([] : List (List UInt8)).map AV.str), .i 0, .i 0, .bool false, .i 0, .i 0])]], [[(t1653, .spare)]]] [.sl (.own t1653) 1 (r1652.1.map AV.str), .i s1680.k, .vptr [.str (ix r1652.1 s1680.k)], .str (ix r1652.1 s1680.k), .i ((ix r1652.1 s1680.k).length : Int), .ptr p848 1, .i l.Bulk, .bool (decide (l.Bulk < ((ix r1652.1 s1680.k).length : Int)))] (by decide +kernel) Z Z ?_ ?_
           ·exact ⟨ym Z Z Z, ym Z Z Z, yp Z (pu_indexAddrM Z underlying26 sizeOf9 (tm Z) (tm Z) c1684 Z), stepg_plain Z (op_loadV1 Z isAgg9 (tm Z) Z ⟨Z, Z⟩), yp Z (pu_strLen Z underlying9 (tm Z)), yp Z (fa Z underlying23 Z sizeOf3 Z Z Z), stepg_plain Z (op_load1 (i := 0) Z isAgg3 (tm Z) Z Z ⟨Z, Z⟩), yp Z (pu_int (v := .bool (decide (l.Bulk < ((ix r1652.1 s1680.k).length : Int)))) Z Z (tm Z) (tm Z) Z), trivial⟩
           refine aw_cond (b := decide (l.Bulk < ((ix r1652.1 s1680.k).length : Int))) (tm Z) (fun hb1685 => ?_) (fun hb1685 => ?_)
           ·replace h := ite_t (dec_t hb1685) h
            refine xr (xa (.agg [.str ([] : List UInt8), .sl .full 1 (([] : List (List UInt8)).map AV.str), .i 0, .i 0, .bool false, .i 0, .i 0]) Z (pu_build (zs := [.str ([] : List UInt8), .sl .full 1 (([] : List (List UInt8)).map AV.str), .i 0, .i 0, .bool false, .i 0, .i 0]) (szs := [1, 1, 1, 1, 1, 1, 1]) (aparts := []) (cs := [.str ([] : List UInt8), .sl .full 1 (([] : List (List UInt8)).map AV.str), .i 0, .i 0, .bool false, .i 0, .i 0]) Z underlying29 zeroValue29 Z ⟨sizeOf9, sizeOf26, sizeOf3, sizeOf3, sizeOf4, sizeOf3, sizeOf27, trivial⟩ trivial Z) (ac0 Z Z (op_store (i := 1) (cs' := [.str ([] : List UInt8), .sl .full 1 (([] : List (List UInt8)).map AV.str), .i 0, .i 0, .bool false, .i 0, .i 0]) Z sizeOf29 (tm Z) (v := .agg [.str ([] : List UInt8), .sl .full 1 (([] : List (List UInt8)).map AV.str), .i 0, .i 0, .bool false, .i 0, .i 0]) (tm Z) Z Z Z (nb Z) Z (xa (.i 6) Z (pu_assign Z (AEv.int _ _)) (xe (aw_ret ?_))))))
            obtain rfl := some_of h
            have h := congrArg some (hx1681 _ rfl)
            obtain rfl := some_of h
            have h := onSum_inr h1670
            obtain rfl := some_of h
            have h := onSum_inr h1625
            obtain rfl := some_of h
            have h := congrArg some (hx1552 _ rfl)
            obtain rfl := some_of h
            have h := onSum_inr h1271
            obtain rfl := some_of h
            exact ⟨[.agg [.str ([] : List UInt8), .sl .full 1 (([] : List (List UInt8)).map AV.str), .i 0, .i 0, .bool false, .i 0, .i 0], .i 6], .tup [.agg [.str ([] : List UInt8), .sl .no 1 (([] : List (List UInt8)).map AV.str), .i 0, .i 0, .bool false, .i 0, .i 0], .i 6], [], ⟨(CellOk.agg 1 (tm Z) Z isAgg29 sizeOf29 (nb Z) Z), (tm Z), trivial⟩, (AV.Le.tup ⟨(AV.Le.agg ⟨vr, (AV.Le.forget _ _ _), vr, vr, vr, vr, vr, trivial⟩), vr, trivial⟩), Weak.mkL [] (by decide) trivial trivial, ⟨Z, Z⟩⟩
           ·replace h := ite_f (dec_f hb1685) h
            refine aw_skip (aw_region (xm Z Z Z (xa (.i (IntKind.wrap .i64 (s1680.k + 1))) Z (pu_int (v := .i (IntKind.wrap .i64 (s1680.k + 1))) Z Z (tm Z) (AEv.int _ _) Z) (xm Z Z Z (xe ?_)))))
            obtain rfl := some_of h
            exact ⟨_, (), Z, Weak.mkL [0, 1, 2] (by decide) ⟨⟨_, Z, cr, Z⟩, ⟨_, Z, cr, Z⟩, ⟨_, Z, Z⟩, trivial⟩ ⟨tm Z, tm Z, tm Z, tm Z, (AEv.le (tm Z) vr), trivial⟩⟩
          ·replace h := ite_f (dec_f hb1686) h
           refine aw_exit ?_
           obtain rfl := some_of h
           have h := congrArg some (hx1681 _ rfl)
           exact ⟨(), (), (some_of h).symm, Weak.mkL [1, 2] (by decide) ⟨⟨_, Z, cr, Z⟩, ⟨_, Z, Z⟩, trivial⟩ ⟨tm Z, tm Z, tm Z, trivial⟩⟩
   ·replace h := ite_fb hb1692 h
    refine aw_exit ?_
    obtain rfl := some_of h
    have h := congrArg some (hx1552 _ rfl)
    exact ⟨(), (), (some_of h).symm, Weak.mkL [0, 1] (by decide) ⟨⟨_, Z, cr, Z⟩, ⟨_, Z, cr, Z⟩, trivial⟩ ⟨tm Z, tm Z, tm Z, trivial⟩⟩

theorem mewsref05.All.ok {s_ : List UInt8} {l : api.Limits} {r : api.Input × (List api.Request)} (h : mewsref05.All s_ l = some r) : Go.Lift.Spec prog 16 [.str s_, .agg [.i l.Args, .i l.Bulk, .i l.Line]] [] (fun v H => ∃ n0, v = .tup [.agg [.str r.1.Rest, .sl .no 1 (r.1.Args.map AV.str), .i r.1.Left, .i r.1.Size, .bool r.1.Body, .i r.1.Need, .i r.1.Dead], .sl (.own n0) 2 (r.2.map api.Request.av)] ∧ H = [(n0, .spare)]) := by
 unfold mewsref05.All at h
 refine Go.Lift.Spec.of_body (rs := [.cell 4 29, .tmp 5]) func16 Z Z (nb Z) Z (xr (xc Z (op_box (cs := [.i l.Args, .i l.Bulk, .i l.Line]) (v := .agg [.i l.Args, .i l.Bulk, .i l.Line]) Z (tm Z) Z Z ?_)))
 intro p185
 refine xc Z (op_alloc (cs := [.str ([] : List UInt8), .sl .full 1 (([] : List (List UInt8)).map AV.str), .i 0, .i 0, .bool false, .i 0, .i 0]) (v := .agg [.str ([] : List UInt8), .sl .full 1 (([] : List (List UInt8)).map AV.str), .i 0, .i 0, .bool false, .i 0, .i 0]) Z zeroValue29 Z Z Z ?_)
 intro p186
 refine xa (.sl .full 2 (([] : List api.Request).map api.Request.av)) Z (pu_assign Z (AEv.nil 2 (by decide))) (xe (xr (xc Z (op_loadN (i := 1) Z isAgg23 sizeOf23 (tm Z) Z (nb Z) Z ?_))))
 obtain ⟨r187, r187e, h⟩ := bind_some h
 refine xc Z (op_call (vs := [.agg [.i l.Args, .i l.Bulk, .i l.Line]]) (H := []) Z call20 ⟨(tm Z), trivial⟩ (List.Perm.refl _) (mewsref05.Limits.ok r187e) ?_)
 rintro _ _ ⟨rfl, rfl⟩
 refine ac0 Z Z (op_store (i := 1) (cs' := [.i r187.Args, .i r187.Bulk, .i r187.Line]) Z sizeOf23 (tm Z) (v := .agg [.i r187.Args, .i r187.Bulk, .i r187.Line]) (tm Z) Z Z Z (nb Z) Z (xe (xr (xa (.sl .full 2 (([] : List api.Request).map api.Request.av)) Z (pu_assign Z (AEv.nil 2 (by decide))) (xe ?_)))))
 obtain ⟨s368, s368e, h278⟩ := bind_some h
 refine aw_join (σ := List api.Request) (ν := Nat) (fun u v => [(4, .ptr p186 0), (6, .sl (.own v) 2 (u.map api.Request.av))]) (fun u v => [(p186, .cells [.str ([] : List UInt8), .sl .full 1 (([] : List (List UInt8)).map AV.str), .i 0, .i 0, .bool false, .i 0, .i 0]), (v, .spare)]) (fun u => s368 = .inl u) ?_ ?_
 ·intro s276
  intro n277
  rintro rfl
  have h := onSum_inl h278
  refine xr (xa (.agg [.str ([] : List UInt8), .sl .full 1 (([] : List (List UInt8)).map AV.str), .i 0, .i 0, .bool false, .i 0, .i 0]) Z (pu_build (zs := [.str ([] : List UInt8), .sl .full 1 (([] : List (List UInt8)).map AV.str), .i 0, .i 0, .bool false, .i 0, .i 0]) (szs := [1, 1, 1, 1, 1, 1, 1]) (aparts := []) (cs := [.str ([] : List UInt8), .sl .full 1 (([] : List (List UInt8)).map AV.str), .i 0, .i 0, .bool false, .i 0, .i 0]) Z underlying29 zeroValue29 Z ⟨sizeOf9, sizeOf26, sizeOf3, sizeOf3, sizeOf4, sizeOf3, sizeOf27, trivial⟩ trivial Z) (xm Z Z Z (ac0 Z Z (op_store (i := 0) (cs' := [.str ([] : List UInt8), .sl .full 1 (([] : List (List UInt8)).map AV.str), .i 0, .i 0, .bool false, .i 0, .i 0]) Z sizeOf29 (tm Z) (v := .agg [.str ([] : List UInt8), .sl .full 1 (([] : List (List UInt8)).map AV.str), .i 0, .i 0, .bool false, .i 0, .i 0]) (tm Z) Z Z Z (nb Z) Z (xm Z Z Z (xe (aw_ret ?_)))))))
  obtain rfl := some_of h
  exact ⟨[.agg [.str ([] : List UInt8), .sl .full 1 (([] : List (List UInt8)).map AV.str), .i 0, .i 0, .bool false, .i 0, .i 0], .sl (.own n277) 2 (s276.map api.Request.av)], .tup [.agg [.str ([] : List UInt8), .sl .no 1 (([] : List (List UInt8)).map AV.str), .i 0, .i 0, .bool false, .i 0, .i 0], .sl (.own n277) 2 (s276.map api.Request.av)], [(n277, .spare)], ⟨(CellOk.agg 0 (tm Z) Z isAgg29 sizeOf29 (nb Z) Z), (tm Z), trivial⟩, (AV.Le.tup ⟨(AV.Le.agg ⟨vr, (AV.Le.forget _ _ _), vr, vr, vr, vr, vr, trivial⟩), vr, trivial⟩), Weak.mkL [1] (by decide) ⟨⟨_, Z, Z⟩, trivial⟩ trivial, ⟨n277, Z, Z⟩⟩
 ·have h := s368e
  refine aw_block (aw_claim 6 (tm Z) fun t367 => (aw_while (σ := mewsref05.All.S0) (ν := Nat) (mewsref05.All.body0 r187) (fun s336 v => [(0, .str s336.s), (3, .ptr p185 0), (4, .ptr p186 0), (6, .sl (.own v) 2 (s336.out.map api.Request.av))]) (fun s336 v => [(p185, .cells [.i r187.Args, .i r187.Bulk, .i r187.Line]), (p186, .cells [.str ([] : List UInt8), .sl .full 1 (([] : List (List UInt8)).map AV.str), .i 0, .i 0, .bool false, .i 0, .i 0]), (v, .spare)]) ⟨s_, ([] : List api.Request)⟩ t367 _ h (Weak.mkL [2, 1, 0] (by decide) ⟨⟨_, Z, cr, Z⟩, ⟨_, Z, cr, Z⟩, ⟨_, Z, Z⟩, trivial⟩ ⟨tm Z, tm Z, tm Z, tm Z, trivial⟩) ?_))
  rintro s336 n337 x339 h hx338
  unfold mewsref05.All.body0 at h
  refine aw_seq (xr (xm Z Z Z (xa (.bool (!decide (s336.s = ([] : List UInt8)))) Z (pu_str (v := .bool (!decide (s336.s = ([] : List UInt8)))) Z Z (tm Z) (AEv.const Z) Z) (xe (aw_cond (b := (!decide (s336.s = ([] : List UInt8)))) (tm Z) (fun hb366 => ?_) (fun hb366 => ?_))))))
  ·replace h := ite_f (ndec_t hb366) h
   refine aw_skip (aw_block (xr (xa (.agg [.str ([] : List UInt8), .sl .full 1 (([] : List (List UInt8)).map AV.str), .i 0, .i 0, .bool false, .i 0, .i 0]) Z (pu_build (zs := [.str ([] : List UInt8), .sl .full 1 (([] : List (List UInt8)).map AV.str), .i 0, .i 0, .bool false, .i 0, .i 0]) (szs := [1, 1, 1, 1, 1, 1, 1]) (aparts := []) (cs := [.str ([] : List UInt8), .sl .full 1 (([] : List (List UInt8)).map AV.str), .i 0, .i 0, .bool false, .i 0, .i 0]) Z underlying29 zeroValue29 Z ⟨sizeOf9, sizeOf26, sizeOf3, sizeOf3, sizeOf4, sizeOf3, sizeOf27, trivial⟩ trivial Z) (xc Z (op_alloc (cs := [.str ([] : List UInt8), .sl .full 1 (([] : List (List UInt8)).map AV.str), .i 0, .i 0, .bool false, .i 0, .i 0]) (v := .agg [.str ([] : List UInt8), .sl .full 1 (([] : List (List UInt8)).map AV.str), .i 0, .i 0, .bool false, .i 0, .i 0]) Z zeroValue29 Z Z Z ?_)))))
   intro p341
   refine ac0 Z Z (op_store (i := 0) (cs' := [.str ([] : List UInt8), .sl .full 1 (([] : List (List UInt8)).map AV.str), .i 0, .i 0, .bool false, .i 0, .i 0]) Z sizeOf29 (tm Z) (v := .agg [.str ([] : List UInt8), .sl .full 1 (([] : List (List UInt8)).map AV.str), .i 0, .i 0, .bool false, .i 0, .i 0]) (tm Z) Z Z Z (nb Z) Z (xa (.i 0) Z (pu_assign Z (AEv.int _ _)) (xe ?_)))
   obtain ⟨s346, s346e, h347⟩ := bind_some h
   refine aw_meet (ν := Unit) (fun v => [(0, .str s336.s), (3, .ptr p185 0), (4, .ptr p186 0), (6, .sl (.own n337) 2 (s336.out.map api.Request.av)), (7, .ptr p341 0), (8, .i s346.1)]) (fun v => [(p185, .cells [.i r187.Args, .i r187.Bulk, .i r187.Line]), (p186, .cells [.str ([] : List UInt8), .sl .full 1 (([] : List (List UInt8)).map AV.str), .i 0, .i 0, .bool false, .i 0, .i 0]), (n337, .spare), (p341, .cells [.str s346.2.1, .sl .no 1 (s346.2.2.1.map AV.str), .i s346.2.2.2.1, .i s346.2.2.2.2.1, .bool s346.2.2.2.2.2.1, .i s346.2.2.2.2.2.2.1, .i s346.2.2.2.2.2.2.2])]) ?_ ?_
   ·have h := s346e
    refine xr (xm Z Z Z ?_)
    obtain ⟨c349, h⟩ := need_of h
    refine xa (.int .u8 (bix s336.s 0)) Z (pu_strIdxM Z underlying9 (tm Z) (AEv.int _ _) c349) (xa (.bool (decide ((bix s336.s 0) = 42))) Z (pu_int (v := .bool (decide ((bix s336.s 0) = 42))) Z Z (tm Z) (AEv.int _ _) Z) (xe (aw_cond (b := decide ((bix s336.s 0) = 42)) (tm Z) (fun hb352 => ?_) (fun hb352 => ?_))))
    ·replace h := ite_t (dec_t hb352) h
     refine aw_region (xm Z Z Z (xc Z (op_loadN (i := 1) Z isAgg23 sizeOf23 (tm Z) Z (nb Z) Z ?_)))
     obtain ⟨r350, r350e, h⟩ := bind_some h
     refine xc Z (op_call (vs := [.str s336.s, .agg [.i r187.Args, .i r187.Bulk, .i r187.Line]]) (H := []) Z call53 ⟨(tm Z), (tm Z), trivial⟩ (List.Perm.refl _) (mewsref05.many.ok r350e) ?_)
     rintro _ _ ⟨rfl, rfl⟩
     refine xm Z Z Z (xa (.agg (api.Input.ct .no r350.1)) Z (pu_extract Z (tm Z) (nb Z) Z) (xa (.i r350.2) Z (pu_extract Z (tm Z) (nb Z) Z) (ac0 Z Z (op_store (i := 0) (cs' := (api.Input.ct .no r350.1)) Z sizeOf29 (tm Z) (v := .agg (api.Input.ct .no r350.1)) (tm Z) Z Z Z (nb Z) Z (xm Z Z Z (xe ?_))))))
     obtain rfl := some_of h
     exact ⟨(), Weak.mkL [1, 2, 3, 0] (by decide) ⟨⟨_, Z, cr, Z⟩, ⟨_, Z, cr, Z⟩, ⟨_, Z, Z⟩, ⟨_, Z, cr, Z⟩, trivial⟩ ⟨tm Z, tm Z, tm Z, tm Z, tm Z, tm Z, trivial⟩⟩
    ·replace h := ite_f (dec_f hb352) h
     refine aw_region (xm Z Z Z (xc Z (op_loadN (i := 1) Z isAgg23 sizeOf23 (tm Z) Z (nb Z) Z ?_)))
     obtain ⟨r351, r351e, h⟩ := bind_some h
     refine xc Z (op_call (vs := [.str s336.s, .agg [.i r187.Args, .i r187.Bulk, .i r187.Line]]) (H := []) Z call54 ⟨(tm Z), (tm Z), trivial⟩ (List.Perm.refl _) (mewsref05.one.ok r351e) ?_)
     rintro _ _ ⟨rfl, rfl⟩
     refine xm Z Z Z (xa (.agg (api.Input.ct .no r351.1)) Z (pu_extract Z (tm Z) (nb Z) Z) (xa (.i r351.2) Z (pu_extract Z (tm Z) (nb Z) Z) (ac0 Z Z (op_store (i := 0) (cs' := (api.Input.ct .no r351.1)) Z sizeOf29 (tm Z) (v := .agg (api.Input.ct .no r351.1)) (tm Z) Z Z Z (nb Z) Z (xm Z Z Z (xe ?_))))))
     obtain rfl := some_of h
     exact ⟨(), Weak.mkL [1, 2, 3, 0] (by decide) ⟨⟨_, Z, cr, Z⟩, ⟨_, Z, cr, Z⟩, ⟨_, Z, Z⟩, ⟨_, Z, cr, Z⟩, trivial⟩ ⟨tm Z, tm Z, tm Z, tm Z, tm Z, tm Z, trivial⟩⟩
   ·intro _
    have h := h347
    refine aw_seq (xr (xm Z Z Z (xa (.bool (decide (s346.1 = (-1)))) Z (pu_int (v := .bool (decide (s346.1 = (-1)))) Z Z (tm Z) (AEv.int _ _) Z) (xe (aw_cond (b := decide (s346.1 = (-1))) (tm Z) (fun hb365 => ?_) (fun hb365 => ?_))))))
    ·replace h := ite_t (dec_t hb365) h
     refine xr (xc Z (op_loadN (i := 3) Z isAgg29 sizeOf29 (tm Z) Z (nb Z) Z (xm Z Z Z (ac0 Z Z (op_store (i := 1) (cs' := [.str s346.2.1, .sl .no 1 (s346.2.2.1.map AV.str), .i s346.2.2.2.1, .i s346.2.2.2.2.1, .bool s346.2.2.2.2.2.1, .i s346.2.2.2.2.2.2.1, .i s346.2.2.2.2.2.2.2]) Z sizeOf29 (tm Z) (v := .agg [.str s346.2.1, .sl .no 1 (s346.2.2.1.map AV.str), .i s346.2.2.2.1, .i s346.2.2.2.2.1, .bool s346.2.2.2.2.2.1, .i s346.2.2.2.2.2.2.1, .i s346.2.2.2.2.2.2.2]) (tm Z) Z Z Z (nb Z) Z (xm Z Z Z (xe (aw_ret ?_))))))))
     obtain rfl := some_of h
     have h := congrArg some (hx338 _ rfl)
     obtain rfl := some_of h
     have h := onSum_inr h278
     obtain rfl := some_of h
     exact ⟨[.agg [.str s346.2.1, .sl .no 1 (s346.2.2.1.map AV.str), .i s346.2.2.2.1, .i s346.2.2.2.2.1, .bool s346.2.2.2.2.2.1, .i s346.2.2.2.2.2.2.1, .i s346.2.2.2.2.2.2.2], .sl (.own n337) 2 (s336.out.map api.Request.av)], .tup [.agg [.str s346.2.1, .sl .no 1 (s346.2.2.1.map AV.str), .i s346.2.2.2.1, .i s346.2.2.2.2.1, .bool s346.2.2.2.2.2.1, .i s346.2.2.2.2.2.2.1, .i s346.2.2.2.2.2.2.2], .sl (.own n337) 2 (s336.out.map api.Request.av)], [(n337, .spare)], ⟨(CellOk.agg 1 (tm Z) Z isAgg29 sizeOf29 (nb Z) Z), (tm Z), trivial⟩, (AV.Le.tup cr), Weak.mkL [2] (by decide) ⟨⟨_, Z, Z⟩, trivial⟩ trivial, ⟨n337, Z, Z⟩⟩
    ·replace h := ite_f (dec_f hb365) h
     refine aw_skip (aw_seq (xr (xm Z Z Z (xa (.bool (!decide (s346.1 = 0))) Z (pu_int (v := .bool (!decide (s346.1 = 0))) Z Z (tm Z) (AEv.int _ _) Z) (xe (aw_cond (b := (!decide (s346.1 = 0))) (tm Z) (fun hb364 => ?_) (fun hb364 => ?_)))))))
     ·replace h := ite_f (ndec_t hb364) h
      refine xr (xm Z Z Z (xa (.agg [.str ([] : List UInt8), .sl .full 1 (([] : List (List UInt8)).map AV.str), .i 0, .i 0, .bool false, .i 0, .i s346.1]) Z (pu_build (zs := [.str ([] : List UInt8), .sl .full 1 (([] : List (List UInt8)).map AV.str), .i 0, .i 0, .bool false, .i 0, .i 0]) (szs := [1, 1, 1, 1, 1, 1, 1]) (aparts := [(6, .i s346.1)]) (cs := [.str ([] : List UInt8), .sl .full 1 (([] : List (List UInt8)).map AV.str), .i 0, .i 0, .bool false, .i 0, .i s346.1]) Z underlying29 zeroValue29 Z ⟨sizeOf9, sizeOf26, sizeOf3, sizeOf3, sizeOf4, sizeOf3, sizeOf27, trivial⟩ ⟨Z, (tm Z), trivial⟩ Z) (xm Z Z Z (ac0 Z Z (op_store (i := 1) (cs' := [.str ([] : List UInt8), .sl .full 1 (([] : List (List UInt8)).map AV.str), .i 0, .i 0, .bool false, .i 0, .i s346.1]) Z sizeOf29 (tm Z) (v := .agg [.str ([] : List UInt8), .sl .full 1 (([] : List (List UInt8)).map AV.str), .i 0, .i 0, .bool false, .i 0, .i s346.1]) (tm Z) Z Z Z (nb Z) Z (xm Z Z Z (xe (aw_ret ?_))))))))
      obtain rfl := some_of h
      have h := congrArg some (hx338 _ rfl)
      obtain rfl := some_of h
      have h := onSum_inr h278
      obtain rfl := some_of h
      exact ⟨[.agg [.str ([] : List UInt8), .sl .full 1 (([] : List (List UInt8)).map AV.str), .i 0, .i 0, .bool false, .i 0, .i s346.1], .sl (.own n337) 2 (s336.out.map api.Request.av)], .tup [.agg [.str ([] : List UInt8), .sl .no 1 (([] : List (List UInt8)).map AV.str), .i 0, .i 0, .bool false, .i 0, .i s346.1], .sl (.own n337) 2 (s336.out.map api.Request.av)], [(n337, .spare)], ⟨(CellOk.agg 1 (tm Z) Z isAgg29 sizeOf29 (nb Z) Z), (tm Z), trivial⟩, (AV.Le.tup ⟨(AV.Le.agg ⟨vr, (AV.Le.forget _ _ _), vr, vr, vr, vr, vr, trivial⟩), vr, trivial⟩), Weak.mkL [2] (by decide) ⟨⟨_, Z, Z⟩, trivial⟩ trivial, ⟨n337, Z, Z⟩⟩
     ·replace h := ite_t (ndec_f hb364) h
      refine aw_skip ?_
      obtain ⟨s356, s356e, h358⟩ := bind_some h
      refine aw_meet (ν := Nat) (fun v => [(0, .str s336.s), (3, .ptr p185 0), (4, .ptr p186 0), (6, .sl (.own v) 2 (s356.map api.Request.av)), (7, .ptr p341 0)]) (fun v => [(p185, .cells [.i r187.Args, .i r187.Bulk, .i r187.Line]), (p186, .cells [.str ([] : List UInt8), .sl .full 1 (([] : List (List UInt8)).map AV.str), .i 0, .i 0, .bool false, .i 0, .i 0]), (v, .spare), (p341, .cells [.str s346.2.1, .sl .no 1 (s346.2.2.1.map AV.str), .i s346.2.2.2.1, .i s346.2.2.2.2.1, .bool s346.2.2.2.2.2.1, .i s346.2.2.2.2.2.2.1, .i s346.2.2.2.2.2.2.2])]) ?_ ?_
      ·have h := s356e
       refine xr (xa (.ptr p341 1) Z (fa Z underlying29 Z sizeOf26 Z Z Z) (xc Z (op_load1 (i := 3) Z isAgg26 (tm Z) Z Z (xa (.i (s346.2.2.1.length : Int)) Z (pu_lenM Z underlying26 (tm Z)) (xa (.bool (decide (0 < (s346.2.2.1.length : Int)))) Z (pu_int (v := .bool (decide (0 < (s346.2.2.1.length : Int)))) Z Z (tm Z) (AEv.int _ _) Z) (xe (aw_cond (b := decide (0 < (s346.2.2.1.length : Int))) (tm Z) (fun hb362 => ?_) (fun hb362 => ?_))))))))
       ·replace h := ite_t (dec_t hb362) h
        refine aw_region (xm Z Z Z (xa (.ptr p341 1) Z (fa Z underlying29 Z sizeOf26 Z Z Z) (xc Z (op_load1 (i := 3) Z isAgg26 (tm Z) Z Z (xa (.ptr p341 3) Z (fa Z underlying29 Z sizeOf3 Z Z Z) (xc Z (op_load1 (i := 3) Z isAgg3 (tm Z) Z Z (xa (.agg [.sl .no 1 (s346.2.2.1.map AV.str), .i s346.2.2.2.2.1]) Z (pu_build (zs := [.sl .full 1 (([] : List (List UInt8)).map AV.str), .i 0]) (szs := [1, 1]) (aparts := [(0, .sl .no 1 (s346.2.2.1.map AV.str)), (1, .i s346.2.2.2.2.1)]) (cs := [.sl .no 1 (s346.2.2.1.map AV.str), .i s346.2.2.2.2.1]) Z underlying44 zeroValue44 Z ⟨sizeOf26, sizeOf3, trivial⟩ ⟨Z, (tm Z), ⟨Z, (tm Z), trivial⟩⟩ Z) (xc Z (op_buildSlice (xs := ([({ Args := s346.2.2.1, Size := s346.2.2.2.2.1 } : api.Request)] : List api.Request).map api.Request.av) (aparts := [(0, .agg [.sl .no 1 (s346.2.2.1.map AV.str), .i s346.2.2.2.2.1])]) Z underlying30 sizeOf44 zeroValue44 (by decide) (by decide) ⟨Z, (tm Z), trivial⟩ Z Z Z ?_))))))))))
        obtain ⟨c360, h⟩ := need_of h
        refine xc Z (op_appendOM (q := 2) Z underlying30 underlying30 (.inl Z) typeInfo44 Z Z Z (by decide) (tm Z) Z (given_sl (tm Z)) c360 ?_)
        intro t361
        refine xm Z Z Z (xe ?_)
        obtain rfl := some_of h
        exact ⟨t361, Weak.mkL [0, 1, 2, 3] (by decide) ⟨⟨_, Z, cr, Z⟩, ⟨_, Z, cr, Z⟩, ⟨_, Z, Z⟩, ⟨_, Z, cr, Z⟩, trivial⟩ ⟨tm Z, tm Z, tm Z, (AEv.le (tm Z) vr), tm Z, trivial⟩⟩
       ·replace h := ite_f (dec_f hb362) h
        refine aw_skip ?_
        obtain rfl := some_of h
        exact ⟨n337, Weak.mkL [0, 1, 2, 3] (by decide) ⟨⟨_, Z, cr, Z⟩, ⟨_, Z, cr, Z⟩, ⟨_, Z, Z⟩, ⟨_, Z, cr, Z⟩, trivial⟩ ⟨tm Z, tm Z, tm Z, tm Z, tm Z, trivial⟩⟩
      ·intro n357
       have h := h358
       refine aw_region (xm Z Z Z (xa (.ptr p341 3) Z (fa Z underlying29 Z sizeOf3 Z Z Z) (xc Z (op_load1 (i := 3) Z isAgg3 (tm Z) Z Z ?_))))
       obtain ⟨c363, h⟩ := need_of h
       refine xa (.str (sub s336.s s346.2.2.2.2.1 (s336.s.length : Int))) Z (pu_strSliceM Z underlying9 (tm Z) ⟨_, (tm Z)⟩ Z c363) (xm Z Z Z (xe ?_))
       obtain rfl := some_of h
       exact ⟨_, n357, Z, Weak.mkL [0, 1, 2] (by decide) ⟨⟨_, Z, cr, Z⟩, ⟨_, Z, cr, Z⟩, ⟨_, Z, Z⟩, trivial⟩ ⟨(AEv.le (tm Z) vr), tm Z, tm Z, tm Z, trivial⟩⟩
  ·replace h := ite_t (ndec_f hb366) h
   refine aw_exit ?_
   obtain rfl := some_of h
   have h := congrArg some (hx338 _ rfl)
   exact ⟨s336.out, n337, (some_of h).symm, Weak.mkL [1, 2] (by decide) ⟨⟨_, Z, cr, Z⟩, ⟨_, Z, Z⟩, trivial⟩ ⟨tm Z, tm Z, trivial⟩⟩

end Go.Pu
