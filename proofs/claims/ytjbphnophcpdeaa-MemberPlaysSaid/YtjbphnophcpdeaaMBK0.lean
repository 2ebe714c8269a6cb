/- Printed by lift.py: the functions come to them. -/
import Derived.Test.YtjbphnophcpdeaaLiftW
import Derived.Test.YtjbphnophcpdeaaMBP
import Derived.Test.YtjbphnophcpdeaaProg
import Derived.Test.YtjbphnophcpdeaaLiftZS
import Derived.Test.YtjbphnophcpdeaaShelf
set_option maxRecDepth 100000
set_option maxHeartbeats 0
namespace Go.Pu
open Go.Lift Go.Proofs.Try Go.RowKit Go.Proofs

theorem mewslaw23.far.ok {l : List (List (List UInt8))} {r : Bool} (h : mewslaw23.far l = some r) : Go.Lift.Spec prog 5 [.sl .no 1 (l.map av_List_List_UInt8)] [] (fun v H => v = .bool r ∧ H = []) := by
 unfold mewslaw23.far at h
 refine Go.Lift.Spec.of_body (rs := [.tmp 2]) func5 Z Z (nb Z) Z (xr (xa (.bool false) Z (pu_assign Z (AEv.bool _)) (xe (xr (xa (.i 0) Z (pu_assign Z (AEv.int _ _)) (xe ?_))))))
 obtain ⟨s500, s500e, h375⟩ := bind_some h
 refine aw_join (σ := Unit) (ν := Unit) (fun u v => [(0, .sl .no 1 (l.map av_List_List_UInt8))]) (fun u v => []) (fun u => s500 = .inl u) ?_ ?_
 ·intro s374
  intro _
  rintro rfl
  have h := onSum_inl h375
  refine xr (xm Z Z Z (xa (.i (l.length : Int)) Z (pu_lenM Z underlying42 (tm Z)) (xa (.bool (decide (20 < (l.length : Int)))) Z (pu_int (v := .bool (decide (20 < (l.length : Int)))) Z Z (tm Z) (AEv.int _ _) Z) (xm Z Z Z (xe (aw_ret ?_))))))
  obtain rfl := some_of h
  exact ⟨[.bool (decide (20 < (l.length : Int)))], _, [], ⟨(tm Z), trivial⟩, vr, Weak.mkL [] (by decide) trivial trivial, ⟨Z, Z⟩⟩
 ·have h := s500e
  refine xr (xm Z Z Z (xa (.i (l.length : Int)) Z (pu_lenM Z underlying42 (tm Z)) (xa (.i 0) Z (pu_move Z (AEv.int _ _)) (xe (aw_block (aw_while (σ := mewslaw23.far.S0) (ν := Unit) (mewslaw23.far.body0 l) (fun s457 v => [(0, .sl .no 1 (l.map av_List_List_UInt8)), (3, .i s457.n), (8, .sl .no 1 (l.map av_List_List_UInt8)), (9, .i (l.length : Int)), (10, .i s457.t10)]) (fun s457 v => []) ⟨0, 0⟩ () _ h (Weak.mkL [] (by decide) trivial ⟨tm Z, tm Z, tm Z, tm Z, tm Z, trivial⟩) ?_))))))
  rintro s457 _ x459 h hx458
  unfold mewslaw23.far.body0 at h
  refine xr (xa (.bool (decide (s457.t10 < (l.length : Int)))) Z (pu_int (v := .bool (decide (s457.t10 < (l.length : Int)))) Z Z (tm Z) (tm Z) Z) (xe (aw_seq (aw_cond (b := decide (s457.t10 < (l.length : Int))) (tm Z) (fun hb499 => ?_) (fun hb499 => ?_)))))
  ·replace h := ite_t (dec_t hb499) h
   refine aw_skip ?_
   obtain ⟨s498, s498e, h479⟩ := bind_some h
   refine aw_join (σ := Unit) (ν := Unit) (fun u v => [(0, .sl .no 1 (l.map av_List_List_UInt8)), (3, .i (IntKind.wrap .i64 (s457.n + ((ix l s457.t10).length : Int)))), (8, .sl .no 1 (l.map av_List_List_UInt8)), (9, .i (l.length : Int)), (10, .i s457.t10)]) (fun u v => []) (fun u => s498 = .inl u) ?_ ?_
   ·intro s478
    intro _
    rintro rfl
    have h := onSum_inl h479
    refine aw_region (xa (.i (IntKind.wrap .i64 (s457.t10 + 1))) Z (pu_int (v := .i (IntKind.wrap .i64 (s457.t10 + 1))) Z Z (tm Z) (AEv.int _ _) Z) (xm Z Z Z (xe ?_)))
    obtain rfl := some_of h
    exact ⟨_, (), Z, Weak.mkL [] (by decide) trivial ⟨tm Z, (AEv.le (tm Z) vr), tm Z, tm Z, (AEv.le (tm Z) vr), trivial⟩⟩
   ·have h := s498e
    refine aw_block (aw_seq (aw_region ?_))
    obtain ⟨c481, h⟩ := need_of h
    refine xa (.vptr [.sl .no 1 ((ix l s457.t10).map AV.str)]) Z (pu_indexAddrM Z underlying42 sizeOf22 (tm Z) (tm Z) c481 Z) (xc Z (op_loadV1 Z isAgg22 (tm Z) Z (xm Z Z Z (xe (aw_seq (xr (xm Z Z Z (xm Z Z Z (xa (.i ((ix l s457.t10).length : Int)) Z (pu_lenM Z underlying22 (tm Z)) ?_)))))))))
    refine xa (.i (IntKind.wrap .i64 (s457.n + ((ix l s457.t10).length : Int)))) Z (pu_int (v := .i (IntKind.wrap .i64 (s457.n + ((ix l s457.t10).length : Int)))) Z Z (tm Z) (tm Z) Z) (xm Z Z Z (xe (xr (xm Z Z Z (xa (.bool (decide (300 < (IntKind.wrap .i64 (s457.n + ((ix l s457.t10).length : Int)))))) Z (pu_int (v := .bool (decide (300 < (IntKind.wrap .i64 (s457.n + ((ix l s457.t10).length : Int)))))) Z Z (tm Z) (AEv.int _ _) Z) (xe (aw_cond (b := decide (300 < (IntKind.wrap .i64 (s457.n + ((ix l s457.t10).length : Int))))) (tm Z) (fun hb497 => ?_) (fun hb497 => ?_))))))))
    ·replace h := ite_t (dec_t hb497) h
     refine xr (xa (.bool true) Z (pu_assign Z (AEv.bool _)) (xe (aw_ret ?_)))
     obtain rfl := some_of h
     have h := onSum_inr h479
     obtain rfl := some_of h
     have h := congrArg some (hx458 _ rfl)
     obtain rfl := some_of h
     have h := onSum_inr h375
     obtain rfl := some_of h
     exact ⟨[.bool true], _, [], ⟨(tm Z), trivial⟩, vr, Weak.mkL [] (by decide) trivial trivial, ⟨Z, Z⟩⟩
    ·replace h := ite_f (dec_f hb497) h
     refine aw_skip (xr (xm Z Z Z (xa (.i ((ix l s457.t10).length : Int)) Z (pu_lenM Z underlying22 (tm Z)) (xa (.i 0) Z (pu_move Z (AEv.int _ _)) (xe (aw_block (aw_while (σ := mewslaw23.far.S2) (ν := Unit) (mewslaw23.far.body2 l s457) (fun s490 v => [(0, .sl .no 1 (l.map av_List_List_UInt8)), (3, .i (IntKind.wrap .i64 (s457.n + ((ix l s457.t10).length : Int)))), (8, .sl .no 1 (l.map av_List_List_UInt8)), (9, .i (l.length : Int)), (10, .i s457.t10), (20, .sl .no 1 ((ix l s457.t10).map AV.str)), (21, .i ((ix l s457.t10).length : Int)), (22, .i s490.t22)]) (fun s490 v => []) ⟨0⟩ () _ h (Weak.mkL [] (by decide) trivial ⟨tm Z, tm Z, tm Z, tm Z, tm Z, tm Z, tm Z, tm Z, trivial⟩) ?_)))))))
     rintro s490 _ x492 h hx491
     unfold mewslaw23.far.body2 at h
     refine xr (xa (.bool (decide (s490.t22 < ((ix l s457.t10).length : Int)))) Z (pu_int (v := .bool (decide (s490.t22 < ((ix l s457.t10).length : Int)))) Z Z (tm Z) (tm Z) Z) (xe (aw_seq (aw_cond (b := decide (s490.t22 < ((ix l s457.t10).length : Int))) (tm Z) (fun hb496 => ?_) (fun hb496 => ?_)))))
     ·replace h := ite_t (dec_t hb496) h
      refine aw_skip (aw_seq (aw_block (aw_seq (aw_region ?_))))
      obtain ⟨c494, h⟩ := need_of h
      refine xa (.vptr [.str (ix (ix l s457.t10) s490.t22)]) Z (pu_indexAddrM Z underlying22 sizeOf9 (tm Z) (tm Z) c494 Z) (xc Z (op_loadV1 Z isAgg9 (tm Z) Z (xm Z Z Z (xe (xr (xm Z Z Z (xa (.i ((ix (ix l s457.t10) s490.t22).length : Int)) Z (pu_strLen Z underlying9 (tm Z)) (xa (.bool (decide (200 < ((ix (ix l s457.t10) s490.t22).length : Int)))) Z (pu_int (v := .bool (decide (200 < ((ix (ix l s457.t10) s490.t22).length : Int)))) Z Z (tm Z) (AEv.int _ _) Z) (xe ?_)))))))))
      refine aw_cond (b := decide (200 < ((ix (ix l s457.t10) s490.t22).length : Int))) (tm Z) (fun hb495 => ?_) (fun hb495 => ?_)
      ·replace h := ite_t (dec_t hb495) h
       refine xr (xa (.bool true) Z (pu_assign Z (AEv.bool _)) (xe (aw_ret ?_)))
       obtain rfl := some_of h
       have h := congrArg some (hx491 _ rfl)
       obtain rfl := some_of h
       have h := onSum_inr h479
       obtain rfl := some_of h
       have h := congrArg some (hx458 _ rfl)
       obtain rfl := some_of h
       have h := onSum_inr h375
       obtain rfl := some_of h
       exact ⟨[.bool true], _, [], ⟨(tm Z), trivial⟩, vr, Weak.mkL [] (by decide) trivial trivial, ⟨Z, Z⟩⟩
      ·replace h := ite_f (dec_f hb495) h
       refine aw_skip (aw_region (xa (.i (IntKind.wrap .i64 (s490.t22 + 1))) Z (pu_int (v := .i (IntKind.wrap .i64 (s490.t22 + 1))) Z Z (tm Z) (AEv.int _ _) Z) (xm Z Z Z (xe ?_))))
       obtain rfl := some_of h
       exact ⟨_, (), Z, Weak.mkL [] (by decide) trivial ⟨tm Z, tm Z, tm Z, tm Z, tm Z, tm Z, tm Z, (AEv.le (tm Z) vr), trivial⟩⟩
     ·replace h := ite_f (dec_f hb496) h
      refine aw_exit ?_
      obtain rfl := some_of h
      have h := congrArg some (hx491 _ rfl)
      exact ⟨(), (), (some_of h).symm, Weak.mkL [] (by decide) trivial ⟨tm Z, tm Z, tm Z, tm Z, tm Z, trivial⟩⟩
  ·replace h := ite_f (dec_f hb499) h
   refine aw_exit ?_
   obtain rfl := some_of h
   have h := congrArg some (hx458 _ rfl)
   exact ⟨(), (), (some_of h).symm, Weak.mkL [] (by decide) trivial ⟨tm Z, trivial⟩⟩

theorem member.Union_1.ok {a0_ : Int} {a1_ : Bool} {r : Bool} (h : member.Union_1 a0_ a1_ = some r) : Go.Lift.Spec prog 27 [.i a0_, .bool a1_] [] (fun v H => v = .bool r ∧ H = []) := by
 unfold member.Union_1 at h
 refine Go.Lift.Spec.of_body (rs := [.tmp 4]) func27 Z Z (nb Z) Z (xr (xa (.bool false) Z (pu_assign Z (AEv.bool _)) (xe (xr (xa (.bool true) Z (pu_assign Z (AEv.bool _)) (xe (aw_ret ?_)))))))
 obtain rfl := some_of h
 exact ⟨[.bool true], _, [], ⟨(tm Z), trivial⟩, vr, Weak.mkL [] (by decide) trivial trivial, ⟨Z, Z⟩⟩

theorem member.merge_member_Union_1.ok {l : List (List (List UInt8))} {r : List (List UInt8)} (h : member.merge_member_Union_1 l = some r) : Go.Lift.Spec prog 26 [.sl .no 1 (l.map av_List_List_UInt8), .fn 27 []] [] (fun v H => ∃ n0, v = .sl (.own n0) 1 (r.map AV.str) ∧ H = [(n0, .spare)]) := by
 unfold member.merge_member_Union_1 at h
 refine Go.Lift.Spec.of_body (rs := [.tmp 4]) func26 Z Z (nb Z) Z (xr (xa (.sl .full 1 (([] : List (List UInt8)).map AV.str)) Z (pu_assign Z (AEv.nil 1 (by decide))) (xe (xr (xm Z Z Z (xa (.i (l.length : Int)) Z (pu_lenM Z underlying42 (tm Z)) ?_))))))
 obtain ⟨c1965, h⟩ := need_of h
 refine xc Z (op_makeVecM (f := (AV.int .i64)) (z := 0) Z underlying71 typeInfo3 Z Z (by decide) Z Z (by decide) (tm Z) (tm Z) c1965 ?_)
 intro p1966
 refine xm Z Z Z (xe (xr (xa (.sl .full 1 (([] : List (List UInt8)).map AV.str)) Z (pu_assign Z (AEv.nil 1 (by decide))) (xe (aw_block (aw_claim 6 (tm Z) fun t3928 => (aw_while (σ := member.merge_member_Union_1.S0) (ν := Nat) (member.merge_member_Union_1.body0 l) (fun s3272 v => [(0, .sl .no 1 (l.map av_List_List_UInt8)), (1, .fn 27 []), (5, .vec p1966), (6, .sl (.own v) 1 (s3272.out.map AV.str))]) (fun s3272 v => [(p1966, .vec 1 (s3272.v.map (AV.int .i64))), (v, .spare)]) ⟨([] : List (List UInt8)), List.replicate (Int.toNat (l.length : Int)) (0 : Int)⟩ t3928 _ h (Weak.mkL [1, 0] (by decide) ⟨⟨_, Z, Z⟩, ⟨_, Z, Z⟩, trivial⟩ ⟨tm Z, tm Z, tm Z, tm Z, trivial⟩) ?_)))))))
 rintro s3272 n3273 x3275 h hx3274
 unfold member.merge_member_Union_1.body0 at h
 refine aw_block (xr (xa (.str ([] : List UInt8)) Z (pu_assign Z (AEv.const Z)) (xa (.bool false) Z (pu_assign Z (AEv.bool _)) (xe ?_))))
 obtain ⟨s3431, s3431e, h3432⟩ := bind_some h
 refine aw_meet (ν := Unit) (fun v => [(0, .sl .no 1 (l.map av_List_List_UInt8)), (1, .fn 27 []), (5, .vec p1966), (6, .sl (.own n3273) 1 (s3272.out.map AV.str)), (7, .str s3431.1), (8, .bool s3431.2)]) (fun v => [(p1966, .vec 1 (s3272.v.map (AV.int .i64))), (n3273, .spare)]) ?_ ?_
 ·have h := s3431e
  refine xr (xm Z Z Z (xa (.i (l.length : Int)) Z (pu_lenM Z underlying42 (tm Z)) (xa (.i 0) Z (pu_move Z (AEv.int _ _)) (xe (aw_block (aw_while (σ := member.merge_member_Union_1.S2) (ν := Unit) (member.merge_member_Union_1.body2 l s3272) (fun s3528 v => [(0, .sl .no 1 (l.map av_List_List_UInt8)), (1, .fn 27 []), (5, .vec p1966), (6, .sl (.own n3273) 1 (s3272.out.map AV.str)), (7, .str s3528.least), (8, .bool s3528.some_), (17, .i (l.length : Int)), (18, .i s3528.t18)]) (fun s3528 v => [(p1966, .vec 1 (s3272.v.map (AV.int .i64))), (n3273, .spare)]) ⟨([] : List UInt8), false, 0⟩ () _ h (Weak.mkL [0, 1] (by decide) ⟨⟨_, Z, Z⟩, ⟨_, Z, Z⟩, trivial⟩ ⟨tm Z, tm Z, tm Z, tm Z, tm Z, tm Z, tm Z, tm Z, trivial⟩) ?_))))))
  rintro s3528 _ x3530 h hx3529
  unfold member.merge_member_Union_1.body2 at h
  refine xr (xa (.bool (decide (s3528.t18 < (l.length : Int)))) Z (pu_int (v := .bool (decide (s3528.t18 < (l.length : Int)))) Z Z (tm Z) (tm Z) Z) (xe (aw_seq (aw_cond (b := decide (s3528.t18 < (l.length : Int))) (tm Z) (fun hb3587 => ?_) (fun hb3587 => ?_)))))
  ·replace h := ite_t (dec_t hb3587) h
   refine aw_skip ?_
   obtain ⟨s3558, s3558e, h3559⟩ := bind_some h
   refine aw_meet (ν := Unit) (fun v => [(0, .sl .no 1 (l.map av_List_List_UInt8)), (1, .fn 27 []), (5, .vec p1966), (6, .sl (.own n3273) 1 (s3272.out.map AV.str)), (7, .str s3558.1), (8, .bool s3558.2), (17, .i (l.length : Int)), (18, .i s3528.t18)]) (fun v => [(p1966, .vec 1 (s3272.v.map (AV.int .i64))), (n3273, .spare)]) ?_ ?_
   ·have h := s3558e
    refine aw_block (xr (xm Z Z Z (xm Z Z Z (xe ?_))))
    obtain ⟨s3570, s3570e, h3571⟩ := bind_some h
    refine aw_meet (ν := Unit) (fun v => [(0, .sl .no 1 (l.map av_List_List_UInt8)), (1, .fn 27 []), (5, .vec p1966), (6, .sl (.own n3273) 1 (s3272.out.map AV.str)), (7, .str s3528.least), (8, .bool s3528.some_), (9, .i s3528.t18), (17, .i (l.length : Int)), (18, .i s3528.t18), (48, .bool s3570)]) (fun v => [(p1966, .vec 1 (s3272.v.map (AV.int .i64))), (n3273, .spare)]) ?_ ?_
    ·have h := s3570e
     obtain ⟨c3573, h⟩ := need_of h
     obtain ⟨c3574, h⟩ := need_of h
     obtain ⟨c3575, h⟩ := need_of h
     rcases Bool.eq_false_or_eq_true (decide ((ix s3272.v s3528.t18) < ((ix l s3528.t18).length : Int))) with hb3576 | hb3576
     ·replace h := ite_t (dec_t hb3576) h
      rcases Bool.eq_false_or_eq_true (!s3528.some_) with hb3577 | hb3577
      ·replace h := ite_t hb3577 h
       refine aw_planR (by decide +kernel) [[], [], [(0, 0, false)], [(0, 0, false)], [], [], [], [], [], [], [], [], [], [], [], [], [], [], [], [], [], [], [], [], [], [], [], []] [[], []] [[[(p1966, .vec 1 (s3272.v.map (AV.int .i64)))]], [[(n3273, .spare)]]] [.vec p1966, .i s3528.t18, .eptr p1966 (s3528.t18).toNat 0, .i (ix s3272.v s3528.t18), .sl .no 1 (l.map av_List_List_UInt8), .i s3528.t18, .vptr [.sl .no 1 ((ix l s3528.t18).map AV.str)], .sl .no 1 ((ix l s3528.t18).map AV.str), .i ((ix l s3528.t18).length : Int), .bool (decide ((ix s3272.v s3528.t18) < ((ix l s3528.t18).length : Int))), .bool true, .bool s3528.some_, .bool (!s3528.some_), .bool true, .lit undef, .lit undef, .lit undef, .lit undef, .lit undef, .lit undef, .lit undef, .lit undef, .lit undef, .lit undef, .lit undef, .lit undef, .bool true, .bool true] (by decide +kernel) Z Z ?_ ?_
       ·exact ⟨ym Z Z Z, ym Z Z Z, stepg_plain Z (op_indexAddrVecM Z underlying71 sizeOf3 (tm Z) (j := 0) Z (tm Z) c3573 ⟨Z, Z⟩), stepg_plain Z (op_loadE1M (i := 0) (sz := 1) Z isAgg3 (tm Z) Z c3574 (by decide) Z ⟨Z, Z⟩), ym Z Z Z, ym Z Z Z, yp Z (pu_indexAddrM Z underlying42 sizeOf22 (tm Z) (tm Z) c3575 Z), stepg_plain Z (op_loadV1 Z isAgg22 (tm Z) Z ⟨Z, Z⟩), yp Z (pu_lenM Z underlying22 (tm Z)), yp Z (pu_int (v := .bool (decide ((ix s3272.v s3528.t18) < ((ix l s3528.t18).length : Int)))) Z Z (tm Z) (tm Z) Z), AStepG.cast (ym Z Z Z) (congrArg AV.bool hb3576), yq Z Z (pu_move Z (tm Z)), yq Z Z (pu_not Z (tm Z)), AStepG.cast (yq Z Z (pu_move Z (tm Z))) (congrArg AV.bool hb3577), yx Z Z Z, yx Z Z Z, yx Z Z Z, yx Z Z Z, yx Z Z Z, yx Z Z Z, yx Z Z Z, yx Z Z Z, yx Z Z Z, yx Z Z Z, yx Z Z Z, yx Z Z Z, yq Z Z (pu_pick (b := true) Z (tm Z) (fun _ => (AEv.bool _)) (fun h => nomatch h)), yp Z (pu_pick (b := true) Z (tm Z) (fun _ => (tm Z)) (fun h => nomatch h)), trivial⟩
       obtain rfl := some_of h
       exact ⟨(), Weak.mkL [0, 1] (by decide) ⟨⟨_, Z, Z⟩, ⟨_, Z, Z⟩, trivial⟩ ⟨tm Z, tm Z, tm Z, tm Z, tm Z, tm Z, tm Z, tm Z, tm Z, tm Z, trivial⟩⟩
      ·replace h := ite_fb hb3577 h
       obtain ⟨c3578, h⟩ := need_of h
       obtain ⟨c3579, h⟩ := need_of h
       obtain ⟨c3580, h⟩ := need_of h
       obtain ⟨c3581, h⟩ := need_of h
       refine aw_planR (by decide +kernel) [[], [], [(0, 0, false)], [(0, 0, false)], [], [], [], [], [], [], [], [], [], [], [], [], [], [], [], [], [(0, 0, false)], [(0, 0, false)], [], [], [], [], [], []] [[], []] [[[(p1966, .vec 1 (s3272.v.map (AV.int .i64)))]], [[(n3273, .spare)]]] [.vec p1966, .i s3528.t18, .eptr p1966 (s3528.t18).toNat 0, .i (ix s3272.v s3528.t18), .sl .no 1 (l.map av_List_List_UInt8), .i s3528.t18, .vptr [.sl .no 1 ((ix l s3528.t18).map AV.str)], .sl .no 1 ((ix l s3528.t18).map AV.str), .i ((ix l s3528.t18).length : Int), .bool (decide ((ix s3272.v s3528.t18) < ((ix l s3528.t18).length : Int))), .bool true, .bool s3528.some_, .bool (!s3528.some_), .bool false, .sl .no 1 (l.map av_List_List_UInt8), .i s3528.t18, .vptr [.sl .no 1 ((ix l s3528.t18).map AV.str)], .sl .no 1 ((ix l s3528.t18).map AV.str), .vec p1966, .i s3528.t18, .eptr p1966 (s3528.t18).toNat 0, .i (ix s3272.v s3528.t18), .vptr [.str (ix (ix l s3528.t18) (ix s3272.v s3528.t18))], .str (ix (ix l s3528.t18) (ix s3272.v s3528.t18)), .str s3528.least, .bool (strLt (ix (ix l s3528.t18) (ix s3272.v s3528.t18)) s3528.least), .bool (strLt (ix (ix l s3528.t18) (ix s3272.v s3528.t18)) s3528.least), .bool (strLt (ix (ix l s3528.t18) (ix s3272.v s3528.t18)) s3528.least)] (by decide +kernel) Z Z ?_ ?_
       ·exact ⟨ym Z Z Z, ym Z Z Z, stepg_plain Z (op_indexAddrVecM Z underlying71 sizeOf3 (tm Z) (j := 0) Z (tm Z) c3573 ⟨Z, Z⟩), stepg_plain Z (op_loadE1M (i := 0) (sz := 1) Z isAgg3 (tm Z) Z c3574 (by decide) Z ⟨Z, Z⟩), ym Z Z Z, ym Z Z Z, yp Z (pu_indexAddrM Z underlying42 sizeOf22 (tm Z) (tm Z) c3575 Z), stepg_plain Z (op_loadV1 Z isAgg22 (tm Z) Z ⟨Z, Z⟩), yp Z (pu_lenM Z underlying22 (tm Z)), yp Z (pu_int (v := .bool (decide ((ix s3272.v s3528.t18) < ((ix l s3528.t18).length : Int)))) Z Z (tm Z) (tm Z) Z), AStepG.cast (ym Z Z Z) (congrArg AV.bool hb3576), yq Z Z (pu_move Z (tm Z)), yq Z Z (pu_not Z (tm Z)), AStepG.cast (yq Z Z (pu_move Z (tm Z))) (congrArg AV.bool hb3577), yq Z Z (pu_move Z (tm Z)), yq Z Z (pu_move Z (tm Z)), yq Z Z (pu_indexAddrM Z underlying42 sizeOf22 (tm Z) (tm Z) c3578 Z), yg Z Z (op_loadV1 Z isAgg22 (tm Z) Z ⟨Z, Z⟩), yq Z Z (pu_move Z (tm Z)), yq Z Z (pu_move Z (tm Z)), yg Z Z (op_indexAddrVecM Z underlying71 sizeOf3 (tm Z) (j := 0) Z (tm Z) c3579 ⟨Z, Z⟩), yg Z Z (op_loadE1M (i := 0) (sz := 1) Z isAgg3 (tm Z) Z c3580 (by decide) Z ⟨Z, Z⟩), yq Z Z (pu_indexAddrM Z underlying22 sizeOf9 (tm Z) (tm Z) c3581 Z), yg Z Z (op_loadV1 Z isAgg9 (tm Z) Z ⟨Z, Z⟩), yq Z Z (pu_move Z (tm Z)), yq Z Z (pu_str (v := .bool (strLt (ix (ix l s3528.t18) (ix s3272.v s3528.t18)) s3528.least)) Z Z (tm Z) (tm Z) Z), yq Z Z (pu_pick (b := false) Z (tm Z) (fun h => nomatch h) (fun _ => (tm Z))), yp Z (pu_pick (b := true) Z (tm Z) (fun _ => (tm Z)) (fun h => nomatch h)), trivial⟩
       obtain rfl := some_of h
       exact ⟨(), Weak.mkL [0, 1] (by decide) ⟨⟨_, Z, Z⟩, ⟨_, Z, Z⟩, trivial⟩ ⟨tm Z, tm Z, tm Z, tm Z, tm Z, tm Z, tm Z, tm Z, tm Z, (AEv.le (tm Z) vr), trivial⟩⟩
     ·replace h := ite_f (dec_f hb3576) h
      refine aw_planR (by decide +kernel) [[], [], [(0, 0, false)], [(0, 0, false)], [], [], [], [], [], [], [], [], [], [], [], [], [], [], [], [], [], [], [], [], [], [], [], []] [[], []] [[[(p1966, .vec 1 (s3272.v.map (AV.int .i64)))]], [[(n3273, .spare)]]] [.vec p1966, .i s3528.t18, .eptr p1966 (s3528.t18).toNat 0, .i (ix s3272.v s3528.t18), .sl .no 1 (l.map av_List_List_UInt8), .i s3528.t18, .vptr [.sl .no 1 ((ix l s3528.t18).map AV.str)], .sl .no 1 ((ix l s3528.t18).map AV.str), .i ((ix l s3528.t18).length : Int), .bool (decide ((ix s3272.v s3528.t18) < ((ix l s3528.t18).length : Int))), .bool false, .lit undef, .lit undef, .lit undef, .lit undef, .lit undef, .lit undef, .lit undef, .lit undef, .lit undef, .lit undef, .lit undef, .lit undef, .lit undef, .lit undef, .lit undef, .lit undef, .bool false] (by decide +kernel) Z Z ?_ ?_
      ·exact ⟨ym Z Z Z, ym Z Z Z, stepg_plain Z (op_indexAddrVecM Z underlying71 sizeOf3 (tm Z) (j := 0) Z (tm Z) c3573 ⟨Z, Z⟩), stepg_plain Z (op_loadE1M (i := 0) (sz := 1) Z isAgg3 (tm Z) Z c3574 (by decide) Z ⟨Z, Z⟩), ym Z Z Z, ym Z Z Z, yp Z (pu_indexAddrM Z underlying42 sizeOf22 (tm Z) (tm Z) c3575 Z), stepg_plain Z (op_loadV1 Z isAgg22 (tm Z) Z ⟨Z, Z⟩), yp Z (pu_lenM Z underlying22 (tm Z)), yp Z (pu_int (v := .bool (decide ((ix s3272.v s3528.t18) < ((ix l s3528.t18).length : Int)))) Z Z (tm Z) (tm Z) Z), AStepG.cast (ym Z Z Z) (congrArg AV.bool hb3576), yx Z Z Z, yx Z Z Z, yx Z Z Z, yy Z Z, yy Z Z, yy Z Z, yy Z Z, yy Z Z, yy Z Z, yy Z Z, yy Z Z, yy Z Z, yy Z Z, yy Z Z, yy Z Z, yx Z Z Z, yp Z (pu_pick (b := false) Z (tm Z) (fun h => nomatch h) (fun _ => (AEv.bool _))), trivial⟩
      obtain rfl := some_of h
      exact ⟨(), Weak.mkL [0, 1] (by decide) ⟨⟨_, Z, Z⟩, ⟨_, Z, Z⟩, trivial⟩ ⟨tm Z, tm Z, tm Z, tm Z, tm Z, tm Z, tm Z, tm Z, tm Z, tm Z, trivial⟩⟩
    ·intro _
     have h := h3571
     refine aw_cond (b := s3570) (tm Z) (fun hb3586 => ?_) (fun hb3586 => ?_)
     ·replace h := ite_t hb3586 h
      obtain ⟨c3582, h⟩ := need_of h
      obtain ⟨c3583, h⟩ := need_of h
      obtain ⟨c3584, h⟩ := need_of h
      obtain ⟨c3585, h⟩ := need_of h
      refine aw_planR (by decide +kernel) [[], [], [], [], [], [], [(0, 0, false)], [(0, 0, false)], [], [], [], []] [[], []] [[[(p1966, .vec 1 (s3272.v.map (AV.int .i64)))]], [[(n3273, .spare)]]] [.sl .no 1 (l.map av_List_List_UInt8), .i s3528.t18, .vptr [.sl .no 1 ((ix l s3528.t18).map AV.str)], .sl .no 1 ((ix l s3528.t18).map AV.str), .vec p1966, .i s3528.t18, .eptr p1966 (s3528.t18).toNat 0, .i (ix s3272.v s3528.t18), .vptr [.str (ix (ix l s3528.t18) (ix s3272.v s3528.t18))], .str (ix (ix l s3528.t18) (ix s3272.v s3528.t18)), .str (ix (ix l s3528.t18) (ix s3272.v s3528.t18)), .bool true] (by decide +kernel) Z Z ?_ ?_
      ·exact ⟨ym Z Z Z, ym Z Z Z, yp Z (pu_indexAddrM Z underlying42 sizeOf22 (tm Z) (tm Z) c3582 Z), stepg_plain Z (op_loadV1 Z isAgg22 (tm Z) Z ⟨Z, Z⟩), ym Z Z Z, ym Z Z Z, stepg_plain Z (op_indexAddrVecM Z underlying71 sizeOf3 (tm Z) (j := 0) Z (tm Z) c3583 ⟨Z, Z⟩), stepg_plain Z (op_loadE1M (i := 0) (sz := 1) Z isAgg3 (tm Z) Z c3584 (by decide) Z ⟨Z, Z⟩), yp Z (pu_indexAddrM Z underlying22 sizeOf9 (tm Z) (tm Z) c3585 Z), stepg_plain Z (op_loadV1 Z isAgg9 (tm Z) Z ⟨Z, Z⟩), ym Z Z Z, yp Z (pu_assign Z (AEv.bool _)), trivial⟩
      obtain rfl := some_of h
      exact ⟨(), Weak.mkL [0, 1] (by decide) ⟨⟨_, Z, Z⟩, ⟨_, Z, Z⟩, trivial⟩ ⟨tm Z, tm Z, tm Z, tm Z, (AEv.le (tm Z) vr), tm Z, tm Z, tm Z, trivial⟩⟩
     ·replace h := ite_fb hb3586 h
      refine aw_skip ?_
      obtain rfl := some_of h
      exact ⟨(), Weak.mkL [0, 1] (by decide) ⟨⟨_, Z, Z⟩, ⟨_, Z, Z⟩, trivial⟩ ⟨tm Z, tm Z, tm Z, tm Z, tm Z, tm Z, tm Z, tm Z, trivial⟩⟩
   ·intro _
    have h := h3559
    refine aw_region (xa (.i (IntKind.wrap .i64 (s3528.t18 + 1))) Z (pu_int (v := .i (IntKind.wrap .i64 (s3528.t18 + 1))) Z Z (tm Z) (AEv.int _ _) Z) (xm Z Z Z (xe ?_)))
    obtain rfl := some_of h
    exact ⟨_, (), Z, Weak.mkL [0, 1] (by decide) ⟨⟨_, Z, Z⟩, ⟨_, Z, Z⟩, trivial⟩ ⟨tm Z, tm Z, tm Z, tm Z, tm Z, tm Z, tm Z, (AEv.le (tm Z) vr), trivial⟩⟩
  ·replace h := ite_f (dec_f hb3587) h
   refine aw_exit ?_
   obtain rfl := some_of h
   have h := congrArg some (hx3529 _ rfl)
   obtain rfl := some_of h
   exact ⟨(), Weak.mkL [0, 1] (by decide) ⟨⟨_, Z, Z⟩, ⟨_, Z, Z⟩, trivial⟩ ⟨tm Z, tm Z, tm Z, tm Z, tm Z, tm Z, trivial⟩⟩
 ·intro _
  have h := h3432
  refine aw_seq (xr (xm Z Z Z (xa (.bool (!s3431.2)) Z (pu_not Z (tm Z)) (xe (aw_cond (b := (!s3431.2)) (tm Z) (fun hb3927 => ?_) (fun hb3927 => ?_))))))
  ·replace h := ite_t hb3927 h
   refine xr (xm Z Z Z (xm Z Z Z (xe (aw_ret ?_))))
   obtain rfl := some_of h
   have h := congrArg some (hx3274 _ rfl)
   obtain rfl := some_of h
   exact ⟨[.sl (.own n3273) 1 (s3272.out.map AV.str)], _, [(n3273, .spare)], ⟨(tm Z), trivial⟩, vr, Weak.mkL [1] (by decide) ⟨⟨_, Z, Z⟩, trivial⟩ trivial, ⟨n3273, Z, Z⟩⟩
  ·replace h := ite_fb hb3927 h
   refine aw_skip (xr (xa (.i 0) Z (pu_assign Z (AEv.int _ _)) (xa (.bool false) Z (pu_assign Z (AEv.bool _)) (xe ?_))))
   obtain ⟨s3754, s3754e, h3755⟩ := bind_some h
   refine aw_meet (ν := Unit) (fun v => [(0, .sl .no 1 (l.map av_List_List_UInt8)), (1, .fn 27 []), (5, .vec p1966), (6, .sl (.own n3273) 1 (s3272.out.map AV.str)), (7, .str s3431.1), (10, .i s3754.1), (11, .bool s3754.2.1)]) (fun v => [(p1966, .vec 1 (s3754.2.2.map (AV.int .i64))), (n3273, .spare)]) ?_ ?_
   ·have h := s3754e
    refine xr (xm Z Z Z (xa (.i (l.length : Int)) Z (pu_lenM Z underlying42 (tm Z)) (xa (.i 0) Z (pu_move Z (AEv.int _ _)) (xe (aw_block (aw_while (σ := member.merge_member_Union_1.S4) (ν := Unit) (member.merge_member_Union_1.body4 l s3431) (fun s3865 v => [(0, .sl .no 1 (l.map av_List_List_UInt8)), (1, .fn 27 []), (5, .vec p1966), (6, .sl (.own n3273) 1 (s3272.out.map AV.str)), (7, .str s3431.1), (10, .i s3865.n), (11, .bool s3865.first), (64, .i (l.length : Int)), (65, .i s3865.t65)]) (fun s3865 v => [(p1966, .vec 1 (s3865.v.map (AV.int .i64))), (n3273, .spare)]) ⟨0, false, 0, s3272.v⟩ () _ h (Weak.mkL [0, 1] (by decide) ⟨⟨_, Z, Z⟩, ⟨_, Z, Z⟩, trivial⟩ ⟨tm Z, tm Z, tm Z, tm Z, tm Z, tm Z, tm Z, tm Z, tm Z, trivial⟩) ?_))))))
    rintro s3865 _ x3867 h hx3866
    unfold member.merge_member_Union_1.body4 at h
    refine xr (xa (.bool (decide (s3865.t65 < (l.length : Int)))) Z (pu_int (v := .bool (decide (s3865.t65 < (l.length : Int)))) Z Z (tm Z) (tm Z) Z) (xe (aw_seq (aw_cond (b := decide (s3865.t65 < (l.length : Int))) (tm Z) (fun hb3922 => ?_) (fun hb3922 => ?_)))))
    ·replace h := ite_t (dec_t hb3922) h
     refine aw_skip ?_
     obtain ⟨s3894, s3894e, h3895⟩ := bind_some h
     refine aw_meet (ν := Unit) (fun v => [(0, .sl .no 1 (l.map av_List_List_UInt8)), (1, .fn 27 []), (5, .vec p1966), (6, .sl (.own n3273) 1 (s3272.out.map AV.str)), (7, .str s3431.1), (10, .i s3894.1), (11, .bool s3894.2.1), (64, .i (l.length : Int)), (65, .i s3865.t65)]) (fun v => [(p1966, .vec 1 (s3894.2.2.map (AV.int .i64))), (n3273, .spare)]) ?_ ?_
     ·have h := s3894e
      refine aw_block (xr (xm Z Z Z (xm Z Z Z (xe ?_))))
      obtain ⟨s3905, s3905e, h3906⟩ := bind_some h
      refine aw_meet (ν := Unit) (fun v => [(0, .sl .no 1 (l.map av_List_List_UInt8)), (1, .fn 27 []), (5, .vec p1966), (6, .sl (.own n3273) 1 (s3272.out.map AV.str)), (7, .str s3431.1), (10, .i s3865.n), (11, .bool s3865.first), (12, .i s3865.t65), (64, .i (l.length : Int)), (65, .i s3865.t65), (91, .bool s3905)]) (fun v => [(p1966, .vec 1 (s3865.v.map (AV.int .i64))), (n3273, .spare)]) ?_ ?_
      ·have h := s3905e
       obtain ⟨c3908, h⟩ := need_of h
       obtain ⟨c3909, h⟩ := need_of h
       obtain ⟨c3910, h⟩ := need_of h
       rcases Bool.eq_false_or_eq_true (decide ((ix s3865.v s3865.t65) < ((ix l s3865.t65).length : Int))) with hb3911 | hb3911
       ·replace h := ite_t (dec_t hb3911) h
        obtain ⟨c3912, h⟩ := need_of h
        obtain ⟨c3913, h⟩ := need_of h
        obtain ⟨c3914, h⟩ := need_of h
        obtain ⟨c3915, h⟩ := need_of h
        refine aw_planR (by decide +kernel) [[], [], [(0, 0, false)], [(0, 0, false)], [], [], [], [], [], [], [], [], [], [], [], [], [], [(0, 0, false)], [(0, 0, false)], [], [], [], [], []] [[], []] [[[(p1966, .vec 1 (s3865.v.map (AV.int .i64)))]], [[(n3273, .spare)]]] [.vec p1966, .i s3865.t65, .eptr p1966 (s3865.t65).toNat 0, .i (ix s3865.v s3865.t65), .sl .no 1 (l.map av_List_List_UInt8), .i s3865.t65, .vptr [.sl .no 1 ((ix l s3865.t65).map AV.str)], .sl .no 1 ((ix l s3865.t65).map AV.str), .i ((ix l s3865.t65).length : Int), .bool (decide ((ix s3865.v s3865.t65) < ((ix l s3865.t65).length : Int))), .bool true, .sl .no 1 (l.map av_List_List_UInt8), .i s3865.t65, .vptr [.sl .no 1 ((ix l s3865.t65).map AV.str)], .sl .no 1 ((ix l s3865.t65).map AV.str), .vec p1966, .i s3865.t65, .eptr p1966 (s3865.t65).toNat 0, .i (ix s3865.v s3865.t65), .vptr [.str (ix (ix l s3865.t65) (ix s3865.v s3865.t65))], .str (ix (ix l s3865.t65) (ix s3865.v s3865.t65)), .str s3431.1, .bool (decide ((ix (ix l s3865.t65) (ix s3865.v s3865.t65)) = s3431.1)), .bool (decide ((ix (ix l s3865.t65) (ix s3865.v s3865.t65)) = s3431.1))] (by decide +kernel) Z Z ?_ ?_
        ·exact ⟨ym Z Z Z, ym Z Z Z, stepg_plain Z (op_indexAddrVecM Z underlying71 sizeOf3 (tm Z) (j := 0) Z (tm Z) c3908 ⟨Z, Z⟩), stepg_plain Z (op_loadE1M (i := 0) (sz := 1) Z isAgg3 (tm Z) Z c3909 (by decide) Z ⟨Z, Z⟩), ym Z Z Z, ym Z Z Z, yp Z (pu_indexAddrM Z underlying42 sizeOf22 (tm Z) (tm Z) c3910 Z), stepg_plain Z (op_loadV1 Z isAgg22 (tm Z) Z ⟨Z, Z⟩), yp Z (pu_lenM Z underlying22 (tm Z)), yp Z (pu_int (v := .bool (decide ((ix s3865.v s3865.t65) < ((ix l s3865.t65).length : Int)))) Z Z (tm Z) (tm Z) Z), AStepG.cast (ym Z Z Z) (congrArg AV.bool hb3911), yq Z Z (pu_move Z (tm Z)), yq Z Z (pu_move Z (tm Z)), yq Z Z (pu_indexAddrM Z underlying42 sizeOf22 (tm Z) (tm Z) c3912 Z), yg Z Z (op_loadV1 Z isAgg22 (tm Z) Z ⟨Z, Z⟩), yq Z Z (pu_move Z (tm Z)), yq Z Z (pu_move Z (tm Z)), yg Z Z (op_indexAddrVecM Z underlying71 sizeOf3 (tm Z) (j := 0) Z (tm Z) c3913 ⟨Z, Z⟩), yg Z Z (op_loadE1M (i := 0) (sz := 1) Z isAgg3 (tm Z) Z c3914 (by decide) Z ⟨Z, Z⟩), yq Z Z (pu_indexAddrM Z underlying22 sizeOf9 (tm Z) (tm Z) c3915 Z), yg Z Z (op_loadV1 Z isAgg9 (tm Z) Z ⟨Z, Z⟩), yq Z Z (pu_move Z (tm Z)), yq Z Z (pu_str (v := .bool (decide ((ix (ix l s3865.t65) (ix s3865.v s3865.t65)) = s3431.1))) Z Z (tm Z) (tm Z) Z), yp Z (pu_pick (b := true) Z (tm Z) (fun _ => (tm Z)) (fun h => nomatch h)), trivial⟩
        obtain rfl := some_of h
        exact ⟨(), Weak.mkL [0, 1] (by decide) ⟨⟨_, Z, Z⟩, ⟨_, Z, Z⟩, trivial⟩ ⟨tm Z, tm Z, tm Z, tm Z, tm Z, tm Z, tm Z, tm Z, tm Z, tm Z, (AEv.le (tm Z) vr), trivial⟩⟩
       ·replace h := ite_f (dec_f hb3911) h
        refine aw_planR (by decide +kernel) [[], [], [(0, 0, false)], [(0, 0, false)], [], [], [], [], [], [], [], [], [], [], [], [], [], [], [], [], [], [], [], []] [[], []] [[[(p1966, .vec 1 (s3865.v.map (AV.int .i64)))]], [[(n3273, .spare)]]] [.vec p1966, .i s3865.t65, .eptr p1966 (s3865.t65).toNat 0, .i (ix s3865.v s3865.t65), .sl .no 1 (l.map av_List_List_UInt8), .i s3865.t65, .vptr [.sl .no 1 ((ix l s3865.t65).map AV.str)], .sl .no 1 ((ix l s3865.t65).map AV.str), .i ((ix l s3865.t65).length : Int), .bool (decide ((ix s3865.v s3865.t65) < ((ix l s3865.t65).length : Int))), .bool false, .lit undef, .lit undef, .lit undef, .lit undef, .lit undef, .lit undef, .lit undef, .lit undef, .lit undef, .lit undef, .lit undef, .lit undef, .bool false] (by decide +kernel) Z Z ?_ ?_
        ·exact ⟨ym Z Z Z, ym Z Z Z, stepg_plain Z (op_indexAddrVecM Z underlying71 sizeOf3 (tm Z) (j := 0) Z (tm Z) c3908 ⟨Z, Z⟩), stepg_plain Z (op_loadE1M (i := 0) (sz := 1) Z isAgg3 (tm Z) Z c3909 (by decide) Z ⟨Z, Z⟩), ym Z Z Z, ym Z Z Z, yp Z (pu_indexAddrM Z underlying42 sizeOf22 (tm Z) (tm Z) c3910 Z), stepg_plain Z (op_loadV1 Z isAgg22 (tm Z) Z ⟨Z, Z⟩), yp Z (pu_lenM Z underlying22 (tm Z)), yp Z (pu_int (v := .bool (decide ((ix s3865.v s3865.t65) < ((ix l s3865.t65).length : Int)))) Z Z (tm Z) (tm Z) Z), AStepG.cast (ym Z Z Z) (congrArg AV.bool hb3911), yx Z Z Z, yx Z Z Z, yx Z Z Z, yx Z Z Z, yx Z Z Z, yx Z Z Z, yx Z Z Z, yx Z Z Z, yx Z Z Z, yx Z Z Z, yx Z Z Z, yx Z Z Z, yp Z (pu_pick (b := false) Z (tm Z) (fun h => nomatch h) (fun _ => (AEv.bool _))), trivial⟩
        obtain rfl := some_of h
        exact ⟨(), Weak.mkL [0, 1] (by decide) ⟨⟨_, Z, Z⟩, ⟨_, Z, Z⟩, trivial⟩ ⟨tm Z, tm Z, tm Z, tm Z, tm Z, tm Z, tm Z, tm Z, tm Z, tm Z, tm Z, trivial⟩⟩
      ·intro _
       have h := h3906
       refine aw_cond (b := s3905) (tm Z) (fun hb3921 => ?_) (fun hb3921 => ?_)
       ·replace h := ite_t hb3921 h
        refine xr (xm Z Z Z (xm Z Z Z ?_))
        obtain ⟨c3916, h⟩ := need_of h
        refine xc Z (op_indexAddrVecM Z underlying71 sizeOf3 (tm Z) (j := 0) Z (tm Z) c3916 ?_)
        obtain ⟨c3917, h⟩ := need_of h
        refine xc Z (op_loadE1M (i := 0) (sz := 1) Z isAgg3 (tm Z) Z c3917 (by decide) Z (xa (.i (IntKind.wrap .i64 ((ix s3865.v s3865.t65) + 1))) Z (pu_int (v := .i (IntKind.wrap .i64 ((ix s3865.v s3865.t65) + 1))) Z Z (tm Z) (AEv.int _ _) Z) ?_))
        obtain ⟨c3918, h⟩ := need_of h
        refine xc Z (op_indexAddrVecM Z underlying71 sizeOf3 (tm Z) (j := 0) Z (tm Z) c3918 ?_)
        obtain ⟨c3919, h⟩ := need_of h
        refine ac0 Z Z (op_storeEM (i := 0) (sz := 1) (y' := IntKind.wrap .i64 ((ix s3865.v s3865.t65) + 1)) Z sizeOf3 (tm Z) (v := .i (IntKind.wrap .i64 ((ix s3865.v s3865.t65) + 1))) (tm Z) Z c3919 Z Z (by decide) Z (xe (xr (xm Z Z Z (xa (.i (IntKind.wrap .i64 (s3865.n + 1))) Z (pu_int (v := .i (IntKind.wrap .i64 (s3865.n + 1))) Z Z (tm Z) (AEv.int _ _) Z) (xm Z Z Z (xe (aw_region (xm Z Z Z ?_)))))))))
        refine xm Z Z Z ?_
        rcases Bool.eq_false_or_eq_true s3865.first with hb3920 | hb3920
        ·replace h := ite_t hb3920 h
         refine aops_known 101 Z hb3920 (xn Z Z Z (xn Z Z Z (xa (.bool true) Z (pu_pick (b := true) Z (tm Z) (fun _ => (AEv.bool _)) (fun h => nomatch h)) (xm Z Z Z (xe ?_)))))
         obtain rfl := some_of h
         exact ⟨(), Weak.mkL [0, 1] (by decide) ⟨⟨_, Z, Z⟩, ⟨_, Z, Z⟩, trivial⟩ ⟨tm Z, tm Z, tm Z, tm Z, tm Z, (AEv.le (tm Z) vr), tm Z, tm Z, tm Z, trivial⟩⟩
        ·replace h := ite_fb hb3920 h
         refine aops_known 101 Z hb3920 (xq Z Z Z Z (xp (.bool (decide (s3865.t65 = 0))) Z Z (pu_int (v := .bool (decide (s3865.t65 = 0))) Z Z (tm Z) (AEv.int _ _) Z) (xa (.bool (decide (s3865.t65 = 0))) Z (pu_pick (b := false) Z (tm Z) (fun h => nomatch h) (fun _ => (tm Z))) (xm Z Z Z (xe ?_)))))
         obtain rfl := some_of h
         exact ⟨(), Weak.mkL [0, 1] (by decide) ⟨⟨_, Z, Z⟩, ⟨_, Z, Z⟩, trivial⟩ ⟨tm Z, tm Z, tm Z, tm Z, tm Z, (AEv.le (tm Z) vr), (AEv.le (tm Z) vr), tm Z, tm Z, trivial⟩⟩
       ·replace h := ite_fb hb3921 h
        refine aw_skip ?_
        obtain rfl := some_of h
        exact ⟨(), Weak.mkL [0, 1] (by decide) ⟨⟨_, Z, Z⟩, ⟨_, Z, Z⟩, trivial⟩ ⟨tm Z, tm Z, tm Z, tm Z, tm Z, tm Z, tm Z, tm Z, tm Z, trivial⟩⟩
     ·intro _
      have h := h3895
      refine aw_region (xa (.i (IntKind.wrap .i64 (s3865.t65 + 1))) Z (pu_int (v := .i (IntKind.wrap .i64 (s3865.t65 + 1))) Z Z (tm Z) (AEv.int _ _) Z) (xm Z Z Z (xe ?_)))
      obtain rfl := some_of h
      exact ⟨_, (), Z, Weak.mkL [0, 1] (by decide) ⟨⟨_, Z, Z⟩, ⟨_, Z, Z⟩, trivial⟩ ⟨tm Z, tm Z, tm Z, tm Z, tm Z, tm Z, tm Z, tm Z, (AEv.le (tm Z) vr), trivial⟩⟩
    ·replace h := ite_f (dec_f hb3922) h
     refine aw_exit ?_
     obtain rfl := some_of h
     have h := congrArg some (hx3866 _ rfl)
     obtain rfl := some_of h
     exact ⟨(), Weak.mkL [0, 1] (by decide) ⟨⟨_, Z, Z⟩, ⟨_, Z, Z⟩, trivial⟩ ⟨tm Z, tm Z, tm Z, tm Z, tm Z, tm Z, tm Z, trivial⟩⟩
   ·intro _
    have h := h3755
    refine xr (xm Z Z Z (xm Z Z Z (xm Z Z Z ?_)))
    obtain ⟨r3923, r3923e, h⟩ := bind_some h
    refine xc Z (op_callV (vs := [.i s3754.1, .bool s3754.2.1]) (H := []) Z (tm Z) call27 ⟨(tm Z), (tm Z), trivial⟩ (List.Perm.refl _) (member.Union_1.ok r3923e) ?_)
    rintro _ _ ⟨rfl, rfl⟩
    refine xe (aw_cond (b := r3923) (tm Z) (fun hb3926 => ?_) (fun hb3926 => ?_))
    ·replace h := ite_t hb3926 h
     refine aw_region (xm Z Z Z (xm Z Z Z (xc Z (op_buildSlice (xs := ([s3431.1] : List (List UInt8)).map AV.str) (aparts := [(0, .str s3431.1)]) Z underlying22 sizeOf9 zeroValue9 (by decide) (by decide) ⟨Z, (tm Z), trivial⟩ Z Z Z ?_))))
     obtain ⟨c3924, h⟩ := need_of h
     refine xc Z (op_appendOM (q := 1) Z underlying22 underlying22 (.inl Z) typeInfo9 Z Z Z (by decide) (tm Z) Z (given_sl (tm Z)) c3924 ?_)
     intro t3925
     refine xm Z Z Z (xe ?_)
     obtain rfl := some_of h
     exact ⟨_, t3925, Z, Weak.mkL [0, 1] (by decide) ⟨⟨_, Z, Z⟩, ⟨_, Z, Z⟩, trivial⟩ ⟨tm Z, tm Z, tm Z, (AEv.le (tm Z) vr), trivial⟩⟩
    ·replace h := ite_fb hb3926 h
     refine aw_skip ?_
     obtain rfl := some_of h
     exact ⟨_, n3273, Z, Weak.mkL [0, 1] (by decide) ⟨⟨_, Z, Z⟩, ⟨_, Z, Z⟩, trivial⟩ ⟨tm Z, tm Z, tm Z, tm Z, trivial⟩⟩

theorem member.Union.ok {l : List (List (List UInt8))} {r : List (List UInt8)} (h : member.Union l = some r) : Go.Lift.Spec prog 11 [.sl .no 1 (l.map av_List_List_UInt8)] [] (fun v H => ∃ n0, v = .sl (.own n0) 1 (r.map AV.str) ∧ H = [(n0, .spare)]) := by
 unfold member.Union at h
 refine Go.Lift.Spec.of_body (rs := [.tmp 2]) func11 Z Z (nb Z) Z (xr (xa (.sl .full 1 (([] : List (List UInt8)).map AV.str)) Z (pu_assign Z (AEv.nil 1 (by decide))) (xe (xr (xm Z Z Z ?_)))))
 obtain ⟨r3, r3e, h⟩ := bind_some h
 refine xc Z (op_call (vs := [.sl .no 1 (l.map av_List_List_UInt8), .fn 27 []]) (H := []) Z call26 ⟨(tm Z), (AEv.func _), trivial⟩ (List.Perm.refl _) (member.merge_member_Union_1.ok r3e) ?_)
 rintro _ _ ⟨t4, rfl, rfl⟩
 refine xm Z Z Z (xe (aw_ret ?_))
 obtain rfl := some_of h
 exact ⟨[.sl (.own t4) 1 (r3.map AV.str)], _, [(t4, .spare)], ⟨(tm Z), trivial⟩, vr, Weak.mkL [0] (by decide) ⟨⟨_, Z, Z⟩, trivial⟩ trivial, ⟨t4, Z, Z⟩⟩

theorem mewsref02.Same.ok {a : List (List UInt8)} {b : List (List UInt8)} {r : Bool} (h : mewsref02.Same a b = some r) : Go.Lift.Spec prog 17 [.sl .no 1 (a.map AV.str), .sl .no 1 (b.map AV.str)] [] (fun v H => v = .bool r ∧ H = []) := by
 unfold mewsref02.Same at h
 refine Go.Lift.Spec.of_body (rs := [.tmp 4]) func17 Z Z (nb Z) Z (xr (xa (.bool false) Z (pu_assign Z (AEv.bool _)) (xe (aw_seq (xr (xm Z Z Z (xa (.i (a.length : Int)) Z (pu_lenM Z underlying22 (tm Z)) ?_)))))))
 refine xm Z Z Z (xa (.i (b.length : Int)) Z (pu_lenM Z underlying22 (tm Z)) (xa (.bool (!decide ((a.length : Int) = (b.length : Int)))) Z (pu_int (v := .bool (!decide ((a.length : Int) = (b.length : Int)))) Z Z (tm Z) (tm Z) Z) (xe (aw_cond (b := (!decide ((a.length : Int) = (b.length : Int)))) (tm Z) (fun hb82 => ?_) (fun hb82 => ?_)))))
 ·replace h := ite_f (ndec_t hb82) h
  refine xr (xa (.bool false) Z (pu_assign Z (AEv.bool _)) (xe (aw_ret ?_)))
  obtain rfl := some_of h
  exact ⟨[.bool false], _, [], ⟨(tm Z), trivial⟩, vr, Weak.mkL [] (by decide) trivial trivial, ⟨Z, Z⟩⟩
 ·replace h := ite_t (ndec_f hb82) h
  refine aw_skip ?_
  obtain ⟨s81, s81e, h61⟩ := bind_some h
  refine aw_join (σ := Unit) (ν := Unit) (fun u v => []) (fun u v => []) (fun u => s81 = .inl u) ?_ ?_
  ·intro s60
   intro _
   rintro rfl
   have h := onSum_inl h61
   refine xr (xa (.bool true) Z (pu_assign Z (AEv.bool _)) (xe (aw_ret ?_)))
   obtain rfl := some_of h
   exact ⟨[.bool true], _, [], ⟨(tm Z), trivial⟩, vr, Weak.mkL [] (by decide) trivial trivial, ⟨Z, Z⟩⟩
  ·have h := s81e
   refine xr (xa (.i 0) Z (pu_assign Z (AEv.int _ _)) (xe (aw_block (aw_while (σ := mewsref02.Same.S0) (ν := Unit) (mewsref02.Same.body0 a b) (fun s73 v => [(0, .sl .no 1 (a.map AV.str)), (1, .sl .no 1 (b.map AV.str)), (5, .i s73.i)]) (fun s73 v => []) ⟨0⟩ () _ h (Weak.mkL [] (by decide) trivial ⟨tm Z, tm Z, tm Z, trivial⟩) ?_))))
   rintro s73 _ x75 h hx74
   unfold mewsref02.Same.body0 at h
   refine aw_seq (xr (xm Z Z Z (xm Z Z Z (xa (.i (a.length : Int)) Z (pu_lenM Z underlying22 (tm Z)) (xa (.bool (decide (s73.i < (a.length : Int)))) Z (pu_int (v := .bool (decide (s73.i < (a.length : Int)))) Z Z (tm Z) (tm Z) Z) (xe (aw_cond (b := decide (s73.i < (a.length : Int))) (tm Z) (fun hb80 => ?_) (fun hb80 => ?_))))))))
   ·replace h := ite_t (dec_t hb80) h
    refine aw_skip (aw_seq (aw_block (aw_seq ?_)))
    obtain ⟨c77, h⟩ := need_of h
    obtain ⟨c78, h⟩ := need_of h
    refine aw_planR (by decide +kernel) [[], [], [], [], [], [], [], [], []] [] [] [.sl .no 1 (a.map AV.str), .i s73.i, .vptr [.str (ix a s73.i)], .str (ix a s73.i), .sl .no 1 (b.map AV.str), .i s73.i, .vptr [.str (ix b s73.i)], .str (ix b s73.i), .bool (!decide ((ix a s73.i) = (ix b s73.i)))] (by decide +kernel) Z Z ?_ ?_
    ·exact ⟨ym Z Z Z, ym Z Z Z, yp Z (pu_indexAddrM Z underlying22 sizeOf9 (tm Z) (tm Z) c77 Z), stepg_plain Z (op_loadV1 Z isAgg9 (tm Z) Z ⟨Z, Z⟩), ym Z Z Z, ym Z Z Z, yp Z (pu_indexAddrM Z underlying22 sizeOf9 (tm Z) (tm Z) c78 Z), stepg_plain Z (op_loadV1 Z isAgg9 (tm Z) Z ⟨Z, Z⟩), yp Z (pu_str (v := .bool (!decide ((ix a s73.i) = (ix b s73.i)))) Z Z (tm Z) (tm Z) Z), trivial⟩
    refine aw_cond (b := (!decide ((ix a s73.i) = (ix b s73.i)))) (tm Z) (fun hb79 => ?_) (fun hb79 => ?_)
    ·replace h := ite_f (ndec_t hb79) h
     refine xr (xa (.bool false) Z (pu_assign Z (AEv.bool _)) (xe (aw_ret ?_)))
     obtain rfl := some_of h
     have h := congrArg some (hx74 _ rfl)
     obtain rfl := some_of h
     have h := onSum_inr h61
     obtain rfl := some_of h
     exact ⟨[.bool false], _, [], ⟨(tm Z), trivial⟩, vr, Weak.mkL [] (by decide) trivial trivial, ⟨Z, Z⟩⟩
    ·replace h := ite_t (ndec_f hb79) h
     refine aw_skip (aw_region (xm Z Z Z (xa (.i (IntKind.wrap .i64 (s73.i + 1))) Z (pu_int (v := .i (IntKind.wrap .i64 (s73.i + 1))) Z Z (tm Z) (AEv.int _ _) Z) (xm Z Z Z (xe ?_)))))
     obtain rfl := some_of h
     exact ⟨_, (), Z, Weak.mkL [] (by decide) trivial ⟨tm Z, tm Z, (AEv.le (tm Z) vr), trivial⟩⟩
   ·replace h := ite_f (dec_f hb80) h
    refine aw_exit ?_
    obtain rfl := some_of h
    have h := congrArg some (hx74 _ rfl)
    exact ⟨(), (), (some_of h).symm, Weak.mkL [] (by decide) trivial trivial⟩

theorem member.Inter_1.ok {n_ : Int} {a1_ : Bool} {a2_ : List (List (List UInt8))} {r : Bool} (h : member.Inter_1 n_ a1_ a2_ = some r) (o0 : Nat) : Go.Lift.Spec prog 28 [.i n_, .bool a1_, .ptr o0 0] [(o0, .cells [.sl .no 1 (a2_.map av_List_List_UInt8)])] (fun v H => v = .bool r ∧ H = [(o0, .cells [.sl .no 1 (a2_.map av_List_List_UInt8)])]) := by
 unfold member.Inter_1 at h
 refine Go.Lift.Spec.of_body (rs := [.tmp 5]) func28 Z Z (nb Z) Z (xr (xa (.bool false) Z (pu_assign Z (AEv.bool _)) (xe (xr (xm Z Z Z (xc Z (op_load1 (i := 0) Z isAgg42 (tm Z) Z Z (xa (.i (a2_.length : Int)) Z (pu_lenM Z underlying42 (tm Z)) ?_))))))))
 refine xa (.bool (decide (n_ = (a2_.length : Int)))) Z (pu_int (v := .bool (decide (n_ = (a2_.length : Int)))) Z Z (tm Z) (tm Z) Z) (xm Z Z Z (xe (aw_ret ?_)))
 obtain rfl := some_of h
 exact ⟨[.bool (decide (n_ = (a2_.length : Int)))], _, [(o0, .cells [.sl .no 1 (a2_.map av_List_List_UInt8)])], ⟨(tm Z), trivial⟩, vr, Weak.mkL [0] (by decide) ⟨⟨_, Z, ⟨vr, trivial⟩, Z⟩, trivial⟩ trivial, ⟨Z, Z⟩⟩

theorem member.merge_member_Inter_1.ok {l : List (List (List UInt8))} {b0_ : List (List (List UInt8))} {r : List (List UInt8)} (h : member.merge_member_Inter_1 l b0_ = some r) (o0 : Nat) : Go.Lift.Spec prog 26 [.sl .no 1 (l.map av_List_List_UInt8), .fn 28 [.ptr o0 0]] [(o0, .cells [.sl .no 1 (b0_.map av_List_List_UInt8)])] (fun v H => ∃ n0, v = .sl (.own n0) 1 (r.map AV.str) ∧ H = [(o0, .cells [.sl .no 1 (b0_.map av_List_List_UInt8)]), (n0, .spare)]) := by
 unfold member.merge_member_Inter_1 at h
 refine Go.Lift.Spec.of_body (rs := [.tmp 4]) func26 Z Z (nb Z) Z (xr (xa (.sl .full 1 (([] : List (List UInt8)).map AV.str)) Z (pu_assign Z (AEv.nil 1 (by decide))) (xe (xr (xm Z Z Z (xa (.i (l.length : Int)) Z (pu_lenM Z underlying42 (tm Z)) ?_))))))
 obtain ⟨c1965, h⟩ := need_of h
 refine xc Z (op_makeVecM (f := (AV.int .i64)) (z := 0) Z underlying71 typeInfo3 Z Z (by decide) Z Z (by decide) (tm Z) (tm Z) c1965 ?_)
 intro p1966
 refine xm Z Z Z (xe (xr (xa (.sl .full 1 (([] : List (List UInt8)).map AV.str)) Z (pu_assign Z (AEv.nil 1 (by decide))) (xe (aw_block (aw_claim 6 (tm Z) fun t3928 => (aw_while (σ := member.merge_member_Inter_1.S0) (ν := Nat) (member.merge_member_Inter_1.body0 l b0_) (fun s3272 v => [(0, .sl .no 1 (l.map av_List_List_UInt8)), (1, .fn 28 [.ptr o0 0]), (5, .vec p1966), (6, .sl (.own v) 1 (s3272.out.map AV.str))]) (fun s3272 v => [(o0, .cells [.sl .no 1 (b0_.map av_List_List_UInt8)]), (p1966, .vec 1 (s3272.v.map (AV.int .i64))), (v, .spare)]) ⟨([] : List (List UInt8)), List.replicate (Int.toNat (l.length : Int)) (0 : Int)⟩ t3928 _ h (Weak.mkL [2, 1, 0] (by decide) ⟨⟨_, Z, ⟨vr, trivial⟩, Z⟩, ⟨_, Z, Z⟩, ⟨_, Z, Z⟩, trivial⟩ ⟨tm Z, tm Z, tm Z, tm Z, trivial⟩) ?_)))))))
 rintro s3272 n3273 x3275 h hx3274
 unfold member.merge_member_Inter_1.body0 at h
 refine aw_block (xr (xa (.str ([] : List UInt8)) Z (pu_assign Z (AEv.const Z)) (xa (.bool false) Z (pu_assign Z (AEv.bool _)) (xe ?_))))
 obtain ⟨s3431, s3431e, h3432⟩ := bind_some h
 refine aw_meet (ν := Unit) (fun v => [(0, .sl .no 1 (l.map av_List_List_UInt8)), (1, .fn 28 [.ptr o0 0]), (5, .vec p1966), (6, .sl (.own n3273) 1 (s3272.out.map AV.str)), (7, .str s3431.1), (8, .bool s3431.2)]) (fun v => [(o0, .cells [.sl .no 1 (b0_.map av_List_List_UInt8)]), (p1966, .vec 1 (s3272.v.map (AV.int .i64))), (n3273, .spare)]) ?_ ?_
 ·have h := s3431e
  refine xr (xm Z Z Z (xa (.i (l.length : Int)) Z (pu_lenM Z underlying42 (tm Z)) (xa (.i 0) Z (pu_move Z (AEv.int _ _)) (xe (aw_block (aw_while (σ := member.merge_member_Inter_1.S2) (ν := Unit) (member.merge_member_Inter_1.body2 l s3272) (fun s3528 v => [(0, .sl .no 1 (l.map av_List_List_UInt8)), (1, .fn 28 [.ptr o0 0]), (5, .vec p1966), (6, .sl (.own n3273) 1 (s3272.out.map AV.str)), (7, .str s3528.least), (8, .bool s3528.some_), (17, .i (l.length : Int)), (18, .i s3528.t18)]) (fun s3528 v => [(o0, .cells [.sl .no 1 (b0_.map av_List_List_UInt8)]), (p1966, .vec 1 (s3272.v.map (AV.int .i64))), (n3273, .spare)]) ⟨([] : List UInt8), false, 0⟩ () _ h (Weak.mkL [0, 1, 2] (by decide) ⟨⟨_, Z, ⟨vr, trivial⟩, Z⟩, ⟨_, Z, Z⟩, ⟨_, Z, Z⟩, trivial⟩ ⟨tm Z, tm Z, tm Z, tm Z, tm Z, tm Z, tm Z, tm Z, trivial⟩) ?_))))))
  rintro s3528 _ x3530 h hx3529
  unfold member.merge_member_Inter_1.body2 at h
  refine xr (xa (.bool (decide (s3528.t18 < (l.length : Int)))) Z (pu_int (v := .bool (decide (s3528.t18 < (l.length : Int)))) Z Z (tm Z) (tm Z) Z) (xe (aw_seq (aw_cond (b := decide (s3528.t18 < (l.length : Int))) (tm Z) (fun hb3587 => ?_) (fun hb3587 => ?_)))))
  ·replace h := ite_t (dec_t hb3587) h
   refine aw_skip ?_
   obtain ⟨s3558, s3558e, h3559⟩ := bind_some h
   refine aw_meet (ν := Unit) (fun v => [(0, .sl .no 1 (l.map av_List_List_UInt8)), (1, .fn 28 [.ptr o0 0]), (5, .vec p1966), (6, .sl (.own n3273) 1 (s3272.out.map AV.str)), (7, .str s3558.1), (8, .bool s3558.2), (17, .i (l.length : Int)), (18, .i s3528.t18)]) (fun v => [(o0, .cells [.sl .no 1 (b0_.map av_List_List_UInt8)]), (p1966, .vec 1 (s3272.v.map (AV.int .i64))), (n3273, .spare)]) ?_ ?_
   ·have h := s3558e
    refine aw_block (xr (xm Z Z Z (xm Z Z Z (xe ?_))))
    obtain ⟨s3570, s3570e, h3571⟩ := bind_some h
    refine aw_meet (ν := Unit) (fun v => [(0, .sl .no 1 (l.map av_List_List_UInt8)), (1, .fn 28 [.ptr o0 0]), (5, .vec p1966), (6, .sl (.own n3273) 1 (s3272.out.map AV.str)), (7, .str s3528.least), (8, .bool s3528.some_), (9, .i s3528.t18), (17, .i (l.length : Int)), (18, .i s3528.t18), (48, .bool s3570)]) (fun v => [(o0, .cells [.sl .no 1 (b0_.map av_List_List_UInt8)]), (p1966, .vec 1 (s3272.v.map (AV.int .i64))), (n3273, .spare)]) ?_ ?_
    ·have h := s3570e
     obtain ⟨c3573, h⟩ := need_of h
     obtain ⟨c3574, h⟩ := need_of h
     obtain ⟨c3575, h⟩ := need_of h
     rcases Bool.eq_false_or_eq_true (decide ((ix s3272.v s3528.t18) < ((ix l s3528.t18).length : Int))) with hb3576 | hb3576
     ·replace h := ite_t (dec_t hb3576) h
      rcases Bool.eq_false_or_eq_true (!s3528.some_) with hb3577 | hb3577
      ·replace h := ite_t hb3577 h
       refine aw_planR (by decide +kernel) [[], [], [(1, 0, false)], [(1, 0, false)], [], [], [], [], [], [], [], [], [], [], [], [], [], [], [], [], [], [], [], [], [], [], [], []] [[], [], []] [[[(o0, .cells [.sl .no 1 (b0_.map av_List_List_UInt8)])]], [[(p1966, .vec 1 (s3272.v.map (AV.int .i64)))]], [[(n3273, .spare)]]] [.vec p1966, .i s3528.t18, .eptr p1966 (s3528.t18).toNat 0, .i (ix s3272.v s3528.t18), .sl .no 1 (l.map av_List_List_UInt8), .i s3528.t18, .vptr [.sl .no 1 ((ix l s3528.t18).map AV.str)], .sl .no 1 ((ix l s3528.t18).map AV.str), .i ((ix l s3528.t18).length : Int), .bool (decide ((ix s3272.v s3528.t18) < ((ix l s3528.t18).length : Int))), .bool true, .bool s3528.some_, .bool (!s3528.some_), .bool true, .lit undef, .lit undef, .lit undef, .lit undef, .lit undef, .lit undef, .lit undef, .lit undef, .lit undef, .lit undef, .lit undef, .lit undef, .bool true, .bool true] (by decide +kernel) Z Z ?_ ?_
       ·exact ⟨ym Z Z Z, ym Z Z Z, stepg_plain Z (op_indexAddrVecM Z underlying71 sizeOf3 (tm Z) (j := 0) Z (tm Z) c3573 ⟨Z, Z⟩), stepg_plain Z (op_loadE1M (i := 0) (sz := 1) Z isAgg3 (tm Z) Z c3574 (by decide) Z ⟨Z, Z⟩), ym Z Z Z, ym Z Z Z, yp Z (pu_indexAddrM Z underlying42 sizeOf22 (tm Z) (tm Z) c3575 Z), stepg_plain Z (op_loadV1 Z isAgg22 (tm Z) Z ⟨Z, Z⟩), yp Z (pu_lenM Z underlying22 (tm Z)), yp Z (pu_int (v := .bool (decide ((ix s3272.v s3528.t18) < ((ix l s3528.t18).length : Int)))) Z Z (tm Z) (tm Z) Z), AStepG.cast (ym Z Z Z) (congrArg AV.bool hb3576), yq Z Z (pu_move Z (tm Z)), yq Z Z (pu_not Z (tm Z)), AStepG.cast (yq Z Z (pu_move Z (tm Z))) (congrArg AV.bool hb3577), yx Z Z Z, yx Z Z Z, yx Z Z Z, yx Z Z Z, yx Z Z Z, yx Z Z Z, yx Z Z Z, yx Z Z Z, yx Z Z Z, yx Z Z Z, yx Z Z Z, yx Z Z Z, yq Z Z (pu_pick (b := true) Z (tm Z) (fun _ => (AEv.bool _)) (fun h => nomatch h)), yp Z (pu_pick (b := true) Z (tm Z) (fun _ => (tm Z)) (fun h => nomatch h)), trivial⟩
       obtain rfl := some_of h
       exact ⟨(), Weak.mkL [0, 1, 2] (by decide) ⟨⟨_, Z, ⟨vr, trivial⟩, Z⟩, ⟨_, Z, Z⟩, ⟨_, Z, Z⟩, trivial⟩ ⟨tm Z, tm Z, tm Z, tm Z, tm Z, tm Z, tm Z, tm Z, tm Z, tm Z, trivial⟩⟩
      ·replace h := ite_fb hb3577 h
       obtain ⟨c3578, h⟩ := need_of h
       obtain ⟨c3579, h⟩ := need_of h
       obtain ⟨c3580, h⟩ := need_of h
       obtain ⟨c3581, h⟩ := need_of h
       refine aw_planR (by decide +kernel) [[], [], [(1, 0, false)], [(1, 0, false)], [], [], [], [], [], [], [], [], [], [], [], [], [], [], [], [], [(1, 0, false)], [(1, 0, false)], [], [], [], [], [], []] [[], [], []] [[[(o0, .cells [.sl .no 1 (b0_.map av_List_List_UInt8)])]], [[(p1966, .vec 1 (s3272.v.map (AV.int .i64)))]], [[(n3273, .spare)]]] [.vec p1966, .i s3528.t18, .eptr p1966 (s3528.t18).toNat 0, .i (ix s3272.v s3528.t18), .sl .no 1 (l.map av_List_List_UInt8), .i s3528.t18, .vptr [.sl .no 1 ((ix l s3528.t18).map AV.str)], .sl .no 1 ((ix l s3528.t18).map AV.str), .i ((ix l s3528.t18).length : Int), .bool (decide ((ix s3272.v s3528.t18) < ((ix l s3528.t18).length : Int))), .bool true, .bool s3528.some_, .bool (!s3528.some_), .bool false, .sl .no 1 (l.map av_List_List_UInt8), .i s3528.t18, .vptr [.sl .no 1 ((ix l s3528.t18).map AV.str)], .sl .no 1 ((ix l s3528.t18).map AV.str), .vec p1966, .i s3528.t18, .eptr p1966 (s3528.t18).toNat 0, .i (ix s3272.v s3528.t18), .vptr [.str (ix (ix l s3528.t18) (ix s3272.v s3528.t18))], .str (ix (ix l s3528.t18) (ix s3272.v s3528.t18)), .str s3528.least, .bool (strLt (ix (ix l s3528.t18) (ix s3272.v s3528.t18)) s3528.least), .bool (strLt (ix (ix l s3528.t18) (ix s3272.v s3528.t18)) s3528.least), .bool (strLt (ix (ix l s3528.t18) (ix s3272.v s3528.t18)) s3528.least)] (by decide +kernel) Z Z ?_ ?_
       ·exact ⟨ym Z Z Z, ym Z Z Z, stepg_plain Z (op_indexAddrVecM Z underlying71 sizeOf3 (tm Z) (j := 0) Z (tm Z) c3573 ⟨Z, Z⟩), stepg_plain Z (op_loadE1M (i := 0) (sz := 1) Z isAgg3 (tm Z) Z c3574 (by decide) Z ⟨Z, Z⟩), ym Z Z Z, ym Z Z Z, yp Z (pu_indexAddrM Z underlying42 sizeOf22 (tm Z) (tm Z) c3575 Z), stepg_plain Z (op_loadV1 Z isAgg22 (tm Z) Z ⟨Z, Z⟩), yp Z (pu_lenM Z underlying22 (tm Z)), yp Z (pu_int (v := .bool (decide ((ix s3272.v s3528.t18) < ((ix l s3528.t18).length : Int)))) Z Z (tm Z) (tm Z) Z), AStepG.cast (ym Z Z Z) (congrArg AV.bool hb3576), yq Z Z (pu_move Z (tm Z)), yq Z Z (pu_not Z (tm Z)), AStepG.cast (yq Z Z (pu_move Z (tm Z))) (congrArg AV.bool hb3577), yq Z Z (pu_move Z (tm Z)), yq Z Z (pu_move Z (tm Z)), yq Z Z (pu_indexAddrM Z underlying42 sizeOf22 (tm Z) (tm Z) c3578 Z), yg Z Z (op_loadV1 Z isAgg22 (tm Z) Z ⟨Z, Z⟩), yq Z Z (pu_move Z (tm Z)), yq Z Z (pu_move Z (tm Z)), yg Z Z (op_indexAddrVecM Z underlying71 sizeOf3 (tm Z) (j := 0) Z (tm Z) c3579 ⟨Z, Z⟩), yg Z Z (op_loadE1M (i := 0) (sz := 1) Z isAgg3 (tm Z) Z c3580 (by decide) Z ⟨Z, Z⟩), yq Z Z (pu_indexAddrM Z underlying22 sizeOf9 (tm Z) (tm Z) c3581 Z), yg Z Z (op_loadV1 Z isAgg9 (tm Z) Z ⟨Z, Z⟩), yq Z Z (pu_move Z (tm Z)), yq Z Z (pu_str (v := .bool (strLt (ix (ix l s3528.t18) (ix s3272.v s3528.t18)) s3528.least)) Z Z (tm Z) (tm Z) Z), yq Z Z (pu_pick (b := false) Z (tm Z) (fun h => nomatch h) (fun _ => (tm Z))), yp Z (pu_pick (b := true) Z (tm Z) (fun _ => (tm Z)) (fun h => nomatch h)), trivial⟩
       obtain rfl := some_of h
       exact ⟨(), Weak.mkL [0, 1, 2] (by decide) ⟨⟨_, Z, ⟨vr, trivial⟩, Z⟩, ⟨_, Z, Z⟩, ⟨_, Z, Z⟩, trivial⟩ ⟨tm Z, tm Z, tm Z, tm Z, tm Z, tm Z, tm Z, tm Z, tm Z, (AEv.le (tm Z) vr), trivial⟩⟩
     ·replace h := ite_f (dec_f hb3576) h
      refine aw_planR (by decide +kernel) [[], [], [(1, 0, false)], [(1, 0, false)], [], [], [], [], [], [], [], [], [], [], [], [], [], [], [], [], [], [], [], [], [], [], [], []] [[], [], []] [[[(o0, .cells [.sl .no 1 (b0_.map av_List_List_UInt8)])]], [[(p1966, .vec 1 (s3272.v.map (AV.int .i64)))]], [[(n3273, .spare)]]] [.vec p1966, .i s3528.t18, .eptr p1966 (s3528.t18).toNat 0, .i (ix s3272.v s3528.t18), .sl .no 1 (l.map av_List_List_UInt8), .i s3528.t18, .vptr [.sl .no 1 ((ix l s3528.t18).map AV.str)], .sl .no 1 ((ix l s3528.t18).map AV.str), .i ((ix l s3528.t18).length : Int), .bool (decide ((ix s3272.v s3528.t18) < ((ix l s3528.t18).length : Int))), .bool false, .lit undef, .lit undef, .lit undef, .lit undef, .lit undef, .lit undef, .lit undef, .lit undef, .lit undef, .lit undef, .lit undef, .lit undef, .lit undef, .lit undef, .lit undef, .lit undef, .bool false] (by decide +kernel) Z Z ?_ ?_
      ·exact ⟨ym Z Z Z, ym Z Z Z, stepg_plain Z (op_indexAddrVecM Z underlying71 sizeOf3 (tm Z) (j := 0) Z (tm Z) c3573 ⟨Z, Z⟩), stepg_plain Z (op_loadE1M (i := 0) (sz := 1) Z isAgg3 (tm Z) Z c3574 (by decide) Z ⟨Z, Z⟩), ym Z Z Z, ym Z Z Z, yp Z (pu_indexAddrM Z underlying42 sizeOf22 (tm Z) (tm Z) c3575 Z), stepg_plain Z (op_loadV1 Z isAgg22 (tm Z) Z ⟨Z, Z⟩), yp Z (pu_lenM Z underlying22 (tm Z)), yp Z (pu_int (v := .bool (decide ((ix s3272.v s3528.t18) < ((ix l s3528.t18).length : Int)))) Z Z (tm Z) (tm Z) Z), AStepG.cast (ym Z Z Z) (congrArg AV.bool hb3576), yx Z Z Z, yx Z Z Z, yx Z Z Z, yy Z Z, yy Z Z, yy Z Z, yy Z Z, yy Z Z, yy Z Z, yy Z Z, yy Z Z, yy Z Z, yy Z Z, yy Z Z, yy Z Z, yx Z Z Z, yp Z (pu_pick (b := false) Z (tm Z) (fun h => nomatch h) (fun _ => (AEv.bool _))), trivial⟩
      obtain rfl := some_of h
      exact ⟨(), Weak.mkL [0, 1, 2] (by decide) ⟨⟨_, Z, ⟨vr, trivial⟩, Z⟩, ⟨_, Z, Z⟩, ⟨_, Z, Z⟩, trivial⟩ ⟨tm Z, tm Z, tm Z, tm Z, tm Z, tm Z, tm Z, tm Z, tm Z, tm Z, trivial⟩⟩
    ·intro _
     have h := h3571
     refine aw_cond (b := s3570) (tm Z) (fun hb3586 => ?_) (fun hb3586 => ?_)
     ·replace h := ite_t hb3586 h
      obtain ⟨c3582, h⟩ := need_of h
      obtain ⟨c3583, h⟩ := need_of h
      obtain ⟨c3584, h⟩ := need_of h
      obtain ⟨c3585, h⟩ := need_of h
      refine aw_planR (by decide +kernel) [[], [], [], [], [], [], [(1, 0, false)], [(1, 0, false)], [], [], [], []] [[], [], []] [[[(o0, .cells [.sl .no 1 (b0_.map av_List_List_UInt8)])]], [[(p1966, .vec 1 (s3272.v.map (AV.int .i64)))]], [[(n3273, .spare)]]] [.sl .no 1 (l.map av_List_List_UInt8), .i s3528.t18, .vptr [.sl .no 1 ((ix l s3528.t18).map AV.str)], .sl .no 1 ((ix l s3528.t18).map AV.str), .vec p1966, .i s3528.t18, .eptr p1966 (s3528.t18).toNat 0, .i (ix s3272.v s3528.t18), .vptr [.str (ix (ix l s3528.t18) (ix s3272.v s3528.t18))], .str (ix (ix l s3528.t18) (ix s3272.v s3528.t18)), .str (ix (ix l s3528.t18) (ix s3272.v s3528.t18)), .bool true] (by decide +kernel) Z Z ?_ ?_
      ·exact ⟨ym Z Z Z, ym Z Z Z, yp Z (pu_indexAddrM Z underlying42 sizeOf22 (tm Z) (tm Z) c3582 Z), stepg_plain Z (op_loadV1 Z isAgg22 (tm Z) Z ⟨Z, Z⟩), ym Z Z Z, ym Z Z Z, stepg_plain Z (op_indexAddrVecM Z underlying71 sizeOf3 (tm Z) (j := 0) Z (tm Z) c3583 ⟨Z, Z⟩), stepg_plain Z (op_loadE1M (i := 0) (sz := 1) Z isAgg3 (tm Z) Z c3584 (by decide) Z ⟨Z, Z⟩), yp Z (pu_indexAddrM Z underlying22 sizeOf9 (tm Z) (tm Z) c3585 Z), stepg_plain Z (op_loadV1 Z isAgg9 (tm Z) Z ⟨Z, Z⟩), ym Z Z Z, yp Z (pu_assign Z (AEv.bool _)), trivial⟩
      obtain rfl := some_of h
      exact ⟨(), Weak.mkL [0, 1, 2] (by decide) ⟨⟨_, Z, ⟨vr, trivial⟩, Z⟩, ⟨_, Z, Z⟩, ⟨_, Z, Z⟩, trivial⟩ ⟨tm Z, tm Z, tm Z, tm Z, (AEv.le (tm Z) vr), tm Z, tm Z, tm Z, trivial⟩⟩
     ·replace h := ite_fb hb3586 h
      refine aw_skip ?_
      obtain rfl := some_of h
      exact ⟨(), Weak.mkL [0, 1, 2] (by decide) ⟨⟨_, Z, ⟨vr, trivial⟩, Z⟩, ⟨_, Z, Z⟩, ⟨_, Z, Z⟩, trivial⟩ ⟨tm Z, tm Z, tm Z, tm Z, tm Z, tm Z, tm Z, tm Z, trivial⟩⟩
   ·intro _
    have h := h3559
    refine aw_region (xa (.i (IntKind.wrap .i64 (s3528.t18 + 1))) Z (pu_int (v := .i (IntKind.wrap .i64 (s3528.t18 + 1))) Z Z (tm Z) (AEv.int _ _) Z) (xm Z Z Z (xe ?_)))
    obtain rfl := some_of h
    exact ⟨_, (), Z, Weak.mkL [0, 1, 2] (by decide) ⟨⟨_, Z, ⟨vr, trivial⟩, Z⟩, ⟨_, Z, Z⟩, ⟨_, Z, Z⟩, trivial⟩ ⟨tm Z, tm Z, tm Z, tm Z, tm Z, tm Z, tm Z, (AEv.le (tm Z) vr), trivial⟩⟩
  ·replace h := ite_f (dec_f hb3587) h
   refine aw_exit ?_
   obtain rfl := some_of h
   have h := congrArg some (hx3529 _ rfl)
   obtain rfl := some_of h
   exact ⟨(), Weak.mkL [0, 1, 2] (by decide) ⟨⟨_, Z, ⟨vr, trivial⟩, Z⟩, ⟨_, Z, Z⟩, ⟨_, Z, Z⟩, trivial⟩ ⟨tm Z, tm Z, tm Z, tm Z, tm Z, tm Z, trivial⟩⟩
 ·intro _
  have h := h3432
  refine aw_seq (xr (xm Z Z Z (xa (.bool (!s3431.2)) Z (pu_not Z (tm Z)) (xe (aw_cond (b := (!s3431.2)) (tm Z) (fun hb3927 => ?_) (fun hb3927 => ?_))))))
  ·replace h := ite_t hb3927 h
   refine xr (xm Z Z Z (xm Z Z Z (xe (aw_ret ?_))))
   obtain rfl := some_of h
   have h := congrArg some (hx3274 _ rfl)
   obtain rfl := some_of h
   exact ⟨[.sl (.own n3273) 1 (s3272.out.map AV.str)], _, [(o0, .cells [.sl .no 1 (b0_.map av_List_List_UInt8)]), (n3273, .spare)], ⟨(tm Z), trivial⟩, vr, Weak.mkL [0, 2] (by decide) ⟨⟨_, Z, ⟨vr, trivial⟩, Z⟩, ⟨_, Z, Z⟩, trivial⟩ trivial, ⟨n3273, Z, Z⟩⟩
  ·replace h := ite_fb hb3927 h
   refine aw_skip (xr (xa (.i 0) Z (pu_assign Z (AEv.int _ _)) (xa (.bool false) Z (pu_assign Z (AEv.bool _)) (xe ?_))))
   obtain ⟨s3754, s3754e, h3755⟩ := bind_some h
   refine aw_meet (ν := Unit) (fun v => [(0, .sl .no 1 (l.map av_List_List_UInt8)), (1, .fn 28 [.ptr o0 0]), (5, .vec p1966), (6, .sl (.own n3273) 1 (s3272.out.map AV.str)), (7, .str s3431.1), (10, .i s3754.1), (11, .bool s3754.2.1)]) (fun v => [(o0, .cells [.sl .no 1 (b0_.map av_List_List_UInt8)]), (p1966, .vec 1 (s3754.2.2.map (AV.int .i64))), (n3273, .spare)]) ?_ ?_
   ·have h := s3754e
    refine xr (xm Z Z Z (xa (.i (l.length : Int)) Z (pu_lenM Z underlying42 (tm Z)) (xa (.i 0) Z (pu_move Z (AEv.int _ _)) (xe (aw_block (aw_while (σ := member.merge_member_Inter_1.S4) (ν := Unit) (member.merge_member_Inter_1.body4 l s3431) (fun s3865 v => [(0, .sl .no 1 (l.map av_List_List_UInt8)), (1, .fn 28 [.ptr o0 0]), (5, .vec p1966), (6, .sl (.own n3273) 1 (s3272.out.map AV.str)), (7, .str s3431.1), (10, .i s3865.n), (11, .bool s3865.first), (64, .i (l.length : Int)), (65, .i s3865.t65)]) (fun s3865 v => [(o0, .cells [.sl .no 1 (b0_.map av_List_List_UInt8)]), (p1966, .vec 1 (s3865.v.map (AV.int .i64))), (n3273, .spare)]) ⟨0, false, 0, s3272.v⟩ () _ h (Weak.mkL [0, 1, 2] (by decide) ⟨⟨_, Z, ⟨vr, trivial⟩, Z⟩, ⟨_, Z, Z⟩, ⟨_, Z, Z⟩, trivial⟩ ⟨tm Z, tm Z, tm Z, tm Z, tm Z, tm Z, tm Z, tm Z, tm Z, trivial⟩) ?_))))))
    rintro s3865 _ x3867 h hx3866
    unfold member.merge_member_Inter_1.body4 at h
    refine xr (xa (.bool (decide (s3865.t65 < (l.length : Int)))) Z (pu_int (v := .bool (decide (s3865.t65 < (l.length : Int)))) Z Z (tm Z) (tm Z) Z) (xe (aw_seq (aw_cond (b := decide (s3865.t65 < (l.length : Int))) (tm Z) (fun hb3922 => ?_) (fun hb3922 => ?_)))))
    ·replace h := ite_t (dec_t hb3922) h
     refine aw_skip ?_
     obtain ⟨s3894, s3894e, h3895⟩ := bind_some h
     refine aw_meet (ν := Unit) (fun v => [(0, .sl .no 1 (l.map av_List_List_UInt8)), (1, .fn 28 [.ptr o0 0]), (5, .vec p1966), (6, .sl (.own n3273) 1 (s3272.out.map AV.str)), (7, .str s3431.1), (10, .i s3894.1), (11, .bool s3894.2.1), (64, .i (l.length : Int)), (65, .i s3865.t65)]) (fun v => [(o0, .cells [.sl .no 1 (b0_.map av_List_List_UInt8)]), (p1966, .vec 1 (s3894.2.2.map (AV.int .i64))), (n3273, .spare)]) ?_ ?_
     ·have h := s3894e
      refine aw_block (xr (xm Z Z Z (xm Z Z Z (xe ?_))))
      obtain ⟨s3905, s3905e, h3906⟩ := bind_some h
      refine aw_meet (ν := Unit) (fun v => [(0, .sl .no 1 (l.map av_List_List_UInt8)), (1, .fn 28 [.ptr o0 0]), (5, .vec p1966), (6, .sl (.own n3273) 1 (s3272.out.map AV.str)), (7, .str s3431.1), (10, .i s3865.n), (11, .bool s3865.first), (12, .i s3865.t65), (64, .i (l.length : Int)), (65, .i s3865.t65), (91, .bool s3905)]) (fun v => [(o0, .cells [.sl .no 1 (b0_.map av_List_List_UInt8)]), (p1966, .vec 1 (s3865.v.map (AV.int .i64))), (n3273, .spare)]) ?_ ?_
      ·have h := s3905e
       obtain ⟨c3908, h⟩ := need_of h
       obtain ⟨c3909, h⟩ := need_of h
       obtain ⟨c3910, h⟩ := need_of h
       rcases Bool.eq_false_or_eq_true (decide ((ix s3865.v s3865.t65) < ((ix l s3865.t65).length : Int))) with hb3911 | hb3911
       ·replace h := ite_t (dec_t hb3911) h
        obtain ⟨c3912, h⟩ := need_of h
        obtain ⟨c3913, h⟩ := need_of h
        obtain ⟨c3914, h⟩ := need_of h
        obtain ⟨c3915, h⟩ := need_of h
        refine aw_planR (by decide +kernel) [[], [], [(1, 0, false)], [(1, 0, false)], [], [], [], [], [], [], [], [], [], [], [], [], [], [(1, 0, false)], [(1, 0, false)], [], [], [], [], []] [[], [], []] [[[(o0, .cells [.sl .no 1 (b0_.map av_List_List_UInt8)])]], [[(p1966, .vec 1 (s3865.v.map (AV.int .i64)))]], [[(n3273, .spare)]]] [.vec p1966, .i s3865.t65, .eptr p1966 (s3865.t65).toNat 0, .i (ix s3865.v s3865.t65), .sl .no 1 (l.map av_List_List_UInt8), .i s3865.t65, .vptr [.sl .no 1 ((ix l s3865.t65).map AV.str)], .sl .no 1 ((ix l s3865.t65).map AV.str), .i ((ix l s3865.t65).length : Int), .bool (decide ((ix s3865.v s3865.t65) < ((ix l s3865.t65).length : Int))), .bool true, .sl .no 1 (l.map av_List_List_UInt8), .i s3865.t65, .vptr [.sl .no 1 ((ix l s3865.t65).map AV.str)], .sl .no 1 ((ix l s3865.t65).map AV.str), .vec p1966, .i s3865.t65, .eptr p1966 (s3865.t65).toNat 0, .i (ix s3865.v s3865.t65), .vptr [.str (ix (ix l s3865.t65) (ix s3865.v s3865.t65))], .str (ix (ix l s3865.t65) (ix s3865.v s3865.t65)), .str s3431.1, .bool (decide ((ix (ix l s3865.t65) (ix s3865.v s3865.t65)) = s3431.1)), .bool (decide ((ix (ix l s3865.t65) (ix s3865.v s3865.t65)) = s3431.1))] (by decide +kernel) Z Z ?_ ?_
        ·exact ⟨ym Z Z Z, ym Z Z Z, stepg_plain Z (op_indexAddrVecM Z underlying71 sizeOf3 (tm Z) (j := 0) Z (tm Z) c3908 ⟨Z, Z⟩), stepg_plain Z (op_loadE1M (i := 0) (sz := 1) Z isAgg3 (tm Z) Z c3909 (by decide) Z ⟨Z, Z⟩), ym Z Z Z, ym Z Z Z, yp Z (pu_indexAddrM Z underlying42 sizeOf22 (tm Z) (tm Z) c3910 Z), stepg_plain Z (op_loadV1 Z isAgg22 (tm Z) Z ⟨Z, Z⟩), yp Z (pu_lenM Z underlying22 (tm Z)), yp Z (pu_int (v := .bool (decide ((ix s3865.v s3865.t65) < ((ix l s3865.t65).length : Int)))) Z Z (tm Z) (tm Z) Z), AStepG.cast (ym Z Z Z) (congrArg AV.bool hb3911), yq Z Z (pu_move Z (tm Z)), yq Z Z (pu_move Z (tm Z)), yq Z Z (pu_indexAddrM Z underlying42 sizeOf22 (tm Z) (tm Z) c3912 Z), yg Z Z (op_loadV1 Z isAgg22 (tm Z) Z ⟨Z, Z⟩), yq Z Z (pu_move Z (tm Z)), yq Z Z (pu_move Z (tm Z)), yg Z Z (op_indexAddrVecM Z underlying71 sizeOf3 (tm Z) (j := 0) Z (tm Z) c3913 ⟨Z, Z⟩), yg Z Z (op_loadE1M (i := 0) (sz := 1) Z isAgg3 (tm Z) Z c3914 (by decide) Z ⟨Z, Z⟩), yq Z Z (pu_indexAddrM Z underlying22 sizeOf9 (tm Z) (tm Z) c3915 Z), yg Z Z (op_loadV1 Z isAgg9 (tm Z) Z ⟨Z, Z⟩), yq Z Z (pu_move Z (tm Z)), yq Z Z (pu_str (v := .bool (decide ((ix (ix l s3865.t65) (ix s3865.v s3865.t65)) = s3431.1))) Z Z (tm Z) (tm Z) Z), yp Z (pu_pick (b := true) Z (tm Z) (fun _ => (tm Z)) (fun h => nomatch h)), trivial⟩
        obtain rfl := some_of h
        exact ⟨(), Weak.mkL [0, 1, 2] (by decide) ⟨⟨_, Z, ⟨vr, trivial⟩, Z⟩, ⟨_, Z, Z⟩, ⟨_, Z, Z⟩, trivial⟩ ⟨tm Z, tm Z, tm Z, tm Z, tm Z, tm Z, tm Z, tm Z, tm Z, tm Z, (AEv.le (tm Z) vr), trivial⟩⟩
       ·replace h := ite_f (dec_f hb3911) h
        refine aw_planR (by decide +kernel) [[], [], [(1, 0, false)], [(1, 0, false)], [], [], [], [], [], [], [], [], [], [], [], [], [], [], [], [], [], [], [], []] [[], [], []] [[[(o0, .cells [.sl .no 1 (b0_.map av_List_List_UInt8)])]], [[(p1966, .vec 1 (s3865.v.map (AV.int .i64)))]], [[(n3273, .spare)]]] [.vec p1966, .i s3865.t65, .eptr p1966 (s3865.t65).toNat 0, .i (ix s3865.v s3865.t65), .sl .no 1 (l.map av_List_List_UInt8), .i s3865.t65, .vptr [.sl .no 1 ((ix l s3865.t65).map AV.str)], .sl .no 1 ((ix l s3865.t65).map AV.str), .i ((ix l s3865.t65).length : Int), .bool (decide ((ix s3865.v s3865.t65) < ((ix l s3865.t65).length : Int))), .bool false, .lit undef, .lit undef, .lit undef, .lit undef, .lit undef, .lit undef, .lit undef, .lit undef, .lit undef, .lit undef, .lit undef, .lit undef, .bool false] (by decide +kernel) Z Z ?_ ?_
        ·exact ⟨ym Z Z Z, ym Z Z Z, stepg_plain Z (op_indexAddrVecM Z underlying71 sizeOf3 (tm Z) (j := 0) Z (tm Z) c3908 ⟨Z, Z⟩), stepg_plain Z (op_loadE1M (i := 0) (sz := 1) Z isAgg3 (tm Z) Z c3909 (by decide) Z ⟨Z, Z⟩), ym Z Z Z, ym Z Z Z, yp Z (pu_indexAddrM Z underlying42 sizeOf22 (tm Z) (tm Z) c3910 Z), stepg_plain Z (op_loadV1 Z isAgg22 (tm Z) Z ⟨Z, Z⟩), yp Z (pu_lenM Z underlying22 (tm Z)), yp Z (pu_int (v := .bool (decide ((ix s3865.v s3865.t65) < ((ix l s3865.t65).length : Int)))) Z Z (tm Z) (tm Z) Z), AStepG.cast (ym Z Z Z) (congrArg AV.bool hb3911), yx Z Z Z, yx Z Z Z, yx Z Z Z, yx Z Z Z, yx Z Z Z, yx Z Z Z, yx Z Z Z, yx Z Z Z, yx Z Z Z, yx Z Z Z, yx Z Z Z, yx Z Z Z, yp Z (pu_pick (b := false) Z (tm Z) (fun h => nomatch h) (fun _ => (AEv.bool _))), trivial⟩
        obtain rfl := some_of h
        exact ⟨(), Weak.mkL [0, 1, 2] (by decide) ⟨⟨_, Z, ⟨vr, trivial⟩, Z⟩, ⟨_, Z, Z⟩, ⟨_, Z, Z⟩, trivial⟩ ⟨tm Z, tm Z, tm Z, tm Z, tm Z, tm Z, tm Z, tm Z, tm Z, tm Z, tm Z, trivial⟩⟩
      ·intro _
       have h := h3906
       refine aw_cond (b := s3905) (tm Z) (fun hb3921 => ?_) (fun hb3921 => ?_)
       ·replace h := ite_t hb3921 h
        refine xr (xm Z Z Z (xm Z Z Z ?_))
        obtain ⟨c3916, h⟩ := need_of h
        refine xc Z (op_indexAddrVecM Z underlying71 sizeOf3 (tm Z) (j := 1) Z (tm Z) c3916 ?_)
        obtain ⟨c3917, h⟩ := need_of h
        refine xc Z (op_loadE1M (i := 1) (sz := 1) Z isAgg3 (tm Z) Z c3917 (by decide) Z (xa (.i (IntKind.wrap .i64 ((ix s3865.v s3865.t65) + 1))) Z (pu_int (v := .i (IntKind.wrap .i64 ((ix s3865.v s3865.t65) + 1))) Z Z (tm Z) (AEv.int _ _) Z) ?_))
        obtain ⟨c3918, h⟩ := need_of h
        refine xc Z (op_indexAddrVecM Z underlying71 sizeOf3 (tm Z) (j := 1) Z (tm Z) c3918 ?_)
        obtain ⟨c3919, h⟩ := need_of h
        refine ac0 Z Z (op_storeEM (i := 1) (sz := 1) (y' := IntKind.wrap .i64 ((ix s3865.v s3865.t65) + 1)) Z sizeOf3 (tm Z) (v := .i (IntKind.wrap .i64 ((ix s3865.v s3865.t65) + 1))) (tm Z) Z c3919 Z Z (by decide) Z (xe (xr (xm Z Z Z (xa (.i (IntKind.wrap .i64 (s3865.n + 1))) Z (pu_int (v := .i (IntKind.wrap .i64 (s3865.n + 1))) Z Z (tm Z) (AEv.int _ _) Z) (xm Z Z Z (xe (aw_region (xm Z Z Z ?_)))))))))
        refine xm Z Z Z ?_
        rcases Bool.eq_false_or_eq_true s3865.first with hb3920 | hb3920
        ·replace h := ite_t hb3920 h
         refine aops_known 101 Z hb3920 (xn Z Z Z (xn Z Z Z (xa (.bool true) Z (pu_pick (b := true) Z (tm Z) (fun _ => (AEv.bool _)) (fun h => nomatch h)) (xm Z Z Z (xe ?_)))))
         obtain rfl := some_of h
         exact ⟨(), Weak.mkL [0, 1, 2] (by decide) ⟨⟨_, Z, ⟨vr, trivial⟩, Z⟩, ⟨_, Z, Z⟩, ⟨_, Z, Z⟩, trivial⟩ ⟨tm Z, tm Z, tm Z, tm Z, tm Z, (AEv.le (tm Z) vr), tm Z, tm Z, tm Z, trivial⟩⟩
        ·replace h := ite_fb hb3920 h
         refine aops_known 101 Z hb3920 (xq Z Z Z Z (xp (.bool (decide (s3865.t65 = 0))) Z Z (pu_int (v := .bool (decide (s3865.t65 = 0))) Z Z (tm Z) (AEv.int _ _) Z) (xa (.bool (decide (s3865.t65 = 0))) Z (pu_pick (b := false) Z (tm Z) (fun h => nomatch h) (fun _ => (tm Z))) (xm Z Z Z (xe ?_)))))
         obtain rfl := some_of h
         exact ⟨(), Weak.mkL [0, 1, 2] (by decide) ⟨⟨_, Z, ⟨vr, trivial⟩, Z⟩, ⟨_, Z, Z⟩, ⟨_, Z, Z⟩, trivial⟩ ⟨tm Z, tm Z, tm Z, tm Z, tm Z, (AEv.le (tm Z) vr), (AEv.le (tm Z) vr), tm Z, tm Z, trivial⟩⟩
       ·replace h := ite_fb hb3921 h
        refine aw_skip ?_
        obtain rfl := some_of h
        exact ⟨(), Weak.mkL [0, 1, 2] (by decide) ⟨⟨_, Z, ⟨vr, trivial⟩, Z⟩, ⟨_, Z, Z⟩, ⟨_, Z, Z⟩, trivial⟩ ⟨tm Z, tm Z, tm Z, tm Z, tm Z, tm Z, tm Z, tm Z, tm Z, trivial⟩⟩
     ·intro _
      have h := h3895
      refine aw_region (xa (.i (IntKind.wrap .i64 (s3865.t65 + 1))) Z (pu_int (v := .i (IntKind.wrap .i64 (s3865.t65 + 1))) Z Z (tm Z) (AEv.int _ _) Z) (xm Z Z Z (xe ?_)))
      obtain rfl := some_of h
      exact ⟨_, (), Z, Weak.mkL [0, 1, 2] (by decide) ⟨⟨_, Z, ⟨vr, trivial⟩, Z⟩, ⟨_, Z, Z⟩, ⟨_, Z, Z⟩, trivial⟩ ⟨tm Z, tm Z, tm Z, tm Z, tm Z, tm Z, tm Z, tm Z, (AEv.le (tm Z) vr), trivial⟩⟩
    ·replace h := ite_f (dec_f hb3922) h
     refine aw_exit ?_
     obtain rfl := some_of h
     have h := congrArg some (hx3866 _ rfl)
     obtain rfl := some_of h
     exact ⟨(), Weak.mkL [0, 1, 2] (by decide) ⟨⟨_, Z, ⟨vr, trivial⟩, Z⟩, ⟨_, Z, Z⟩, ⟨_, Z, Z⟩, trivial⟩ ⟨tm Z, tm Z, tm Z, tm Z, tm Z, tm Z, tm Z, trivial⟩⟩
   ·intro _
    have h := h3755
    refine xr (xm Z Z Z (xm Z Z Z (xm Z Z Z ?_)))
    obtain ⟨r3923, r3923e, h⟩ := bind_some h
    refine xc Z (op_callV (vs := [.i s3754.1, .bool s3754.2.1]) (H := [(o0, .cells [.sl .no 1 (b0_.map av_List_List_UInt8)])]) Z (tm Z) call28 ⟨(tm Z), (tm Z), trivial⟩ (List.Perm.refl _) (member.Inter_1.ok r3923e o0) ?_)
    rintro _ _ ⟨rfl, rfl⟩
    refine xe (aw_cond (b := r3923) (tm Z) (fun hb3926 => ?_) (fun hb3926 => ?_))
    ·replace h := ite_t hb3926 h
     refine aw_region (xm Z Z Z (xm Z Z Z (xc Z (op_buildSlice (xs := ([s3431.1] : List (List UInt8)).map AV.str) (aparts := [(0, .str s3431.1)]) Z underlying22 sizeOf9 zeroValue9 (by decide) (by decide) ⟨Z, (tm Z), trivial⟩ Z Z Z ?_))))
     obtain ⟨c3924, h⟩ := need_of h
     refine xc Z (op_appendOM (q := 2) Z underlying22 underlying22 (.inl Z) typeInfo9 Z Z Z (by decide) (tm Z) Z (given_sl (tm Z)) c3924 ?_)
     intro t3925
     refine xm Z Z Z (xe ?_)
     obtain rfl := some_of h
     exact ⟨_, t3925, Z, Weak.mkL [0, 1, 2] (by decide) ⟨⟨_, Z, ⟨vr, trivial⟩, Z⟩, ⟨_, Z, Z⟩, ⟨_, Z, Z⟩, trivial⟩ ⟨tm Z, tm Z, tm Z, (AEv.le (tm Z) vr), trivial⟩⟩
    ·replace h := ite_fb hb3926 h
     refine aw_skip ?_
     obtain rfl := some_of h
     exact ⟨_, n3273, Z, Weak.mkL [0, 1, 2] (by decide) ⟨⟨_, Z, ⟨vr, trivial⟩, Z⟩, ⟨_, Z, Z⟩, ⟨_, Z, Z⟩, trivial⟩ ⟨tm Z, tm Z, tm Z, tm Z, trivial⟩⟩

theorem member.Inter.ok {l : List (List (List UInt8))} {r : List (List UInt8)} (h : member.Inter l = some r) : Go.Lift.Spec prog 12 [.sl .no 1 (l.map av_List_List_UInt8)] [] (fun v H => ∃ n0, v = .sl (.own n0) 1 (r.map AV.str) ∧ H = [(n0, .spare)]) := by
 unfold member.Inter at h
 refine Go.Lift.Spec.of_body (rs := [.tmp 2]) func12 Z Z (nb Z) Z (xr (xc Z (op_box (cs := [.sl .no 1 (l.map av_List_List_UInt8)]) (v := .sl .no 1 (l.map av_List_List_UInt8)) Z (tm Z) Z Z ?_)))
 intro p4
 refine xa (.sl .full 1 (([] : List (List UInt8)).map AV.str)) Z (pu_assign Z (AEv.nil 1 (by decide))) (xe (xr (xc Z (op_load1 (i := 0) Z isAgg42 (tm Z) Z Z (xa (.fn 28 [.ptr p4 0]) Z (pu_makeFunc Z ⟨(tm Z), trivial⟩) ?_)))))
 obtain ⟨r5, r5e, h⟩ := bind_some h
 refine xc Z (op_call (vs := [.sl .no 1 (l.map av_List_List_UInt8), .fn 28 [.ptr p4 0]]) (H := [(p4, .cells [.sl .no 1 (l.map av_List_List_UInt8)])]) Z call26 ⟨(tm Z), (tm Z), trivial⟩ (List.Perm.refl _) (member.merge_member_Inter_1.ok r5e p4) ?_)
 rintro _ _ ⟨t6, rfl, rfl⟩
 refine xm Z Z Z (xe (aw_ret ?_))
 obtain rfl := some_of h
 exact ⟨[.sl (.own t6) 1 (r5.map AV.str)], _, [(t6, .spare)], ⟨(tm Z), trivial⟩, vr, Weak.mkL [1] (by decide) ⟨⟨_, Z, Z⟩, trivial⟩ trivial, ⟨t6, Z, Z⟩⟩

theorem member.Diff_1.ok {n_ : Int} {first : Bool} {r : Bool} (h : member.Diff_1 n_ first = some r) : Go.Lift.Spec prog 29 [.i n_, .bool first] [] (fun v H => v = .bool r ∧ H = []) := by
 unfold member.Diff_1 at h
 refine Go.Lift.Spec.of_body (rs := [.tmp 4]) func29 Z Z (nb Z) Z (xr (xa (.bool false) Z (pu_assign Z (AEv.bool _)) (xe ?_)))
 obtain ⟨s7, s7e, h8⟩ := letO_of h
 refine aw_meet (ν := Unit) (fun v => [(4, .bool s7)]) (fun v => []) ?_ ?_
 ·have h := s7e.symm
  refine aw_region (xm Z Z Z (xm Z Z Z ?_))
  rcases Bool.eq_false_or_eq_true first with hb10 | hb10
  ·replace h := ite_t hb10 h
   refine aops_known 6 Z hb10 (xq Z Z Z Z (xp (.bool (decide (n_ = 1))) Z Z (pu_int (v := .bool (decide (n_ = 1))) Z Z (tm Z) (AEv.int _ _) Z) (xa (.bool (decide (n_ = 1))) Z (pu_pick (b := true) Z (tm Z) (fun _ => (tm Z)) (fun h => nomatch h)) (xm Z Z Z (xe ?_)))))
   subst h
   exact ⟨(), Weak.mkL [] (by decide) trivial ⟨(AEv.le (tm Z) vr), trivial⟩⟩
  ·replace h := ite_fb hb10 h
   refine aops_known 6 Z hb10 (xn Z Z Z (xn Z Z Z (xa (.bool false) Z (pu_pick (b := false) Z (tm Z) (fun h => nomatch h) (fun _ => (AEv.bool _))) (xm Z Z Z (xe ?_)))))
   subst h
   exact ⟨(), Weak.mkL [] (by decide) trivial ⟨tm Z, trivial⟩⟩
 ·intro _
  have h := h8
  refine aw_ret ?_
  obtain rfl := some_of h
  exact ⟨[.bool s7], _, [], ⟨(tm Z), trivial⟩, vr, Weak.mkL [] (by decide) trivial trivial, ⟨Z, Z⟩⟩

theorem member.merge_member_Diff_1.ok {l : List (List (List UInt8))} {r : List (List UInt8)} (h : member.merge_member_Diff_1 l = some r) : Go.Lift.Spec prog 26 [.sl .no 1 (l.map av_List_List_UInt8), .fn 29 []] [] (fun v H => ∃ n0, v = .sl (.own n0) 1 (r.map AV.str) ∧ H = [(n0, .spare)]) := by
 unfold member.merge_member_Diff_1 at h
 refine Go.Lift.Spec.of_body (rs := [.tmp 4]) func26 Z Z (nb Z) Z (xr (xa (.sl .full 1 (([] : List (List UInt8)).map AV.str)) Z (pu_assign Z (AEv.nil 1 (by decide))) (xe (xr (xm Z Z Z (xa (.i (l.length : Int)) Z (pu_lenM Z underlying42 (tm Z)) ?_))))))
 obtain ⟨c1965, h⟩ := need_of h
 refine xc Z (op_makeVecM (f := (AV.int .i64)) (z := 0) Z underlying71 typeInfo3 Z Z (by decide) Z Z (by decide) (tm Z) (tm Z) c1965 ?_)
 intro p1966
 refine xm Z Z Z (xe (xr (xa (.sl .full 1 (([] : List (List UInt8)).map AV.str)) Z (pu_assign Z (AEv.nil 1 (by decide))) (xe (aw_block (aw_claim 6 (tm Z) fun t3928 => (aw_while (σ := member.merge_member_Diff_1.S0) (ν := Nat) (member.merge_member_Diff_1.body0 l) (fun s3272 v => [(0, .sl .no 1 (l.map av_List_List_UInt8)), (1, .fn 29 []), (5, .vec p1966), (6, .sl (.own v) 1 (s3272.out.map AV.str))]) (fun s3272 v => [(p1966, .vec 1 (s3272.v.map (AV.int .i64))), (v, .spare)]) ⟨([] : List (List UInt8)), List.replicate (Int.toNat (l.length : Int)) (0 : Int)⟩ t3928 _ h (Weak.mkL [1, 0] (by decide) ⟨⟨_, Z, Z⟩, ⟨_, Z, Z⟩, trivial⟩ ⟨tm Z, tm Z, tm Z, tm Z, trivial⟩) ?_)))))))
 rintro s3272 n3273 x3275 h hx3274
 unfold member.merge_member_Diff_1.body0 at h
 refine aw_block (xr (xa (.str ([] : List UInt8)) Z (pu_assign Z (AEv.const Z)) (xa (.bool false) Z (pu_assign Z (AEv.bool _)) (xe ?_))))
 obtain ⟨s3431, s3431e, h3432⟩ := bind_some h
 refine aw_meet (ν := Unit) (fun v => [(0, .sl .no 1 (l.map av_List_List_UInt8)), (1, .fn 29 []), (5, .vec p1966), (6, .sl (.own n3273) 1 (s3272.out.map AV.str)), (7, .str s3431.1), (8, .bool s3431.2)]) (fun v => [(p1966, .vec 1 (s3272.v.map (AV.int .i64))), (n3273, .spare)]) ?_ ?_
 ·have h := s3431e
  refine xr (xm Z Z Z (xa (.i (l.length : Int)) Z (pu_lenM Z underlying42 (tm Z)) (xa (.i 0) Z (pu_move Z (AEv.int _ _)) (xe (aw_block (aw_while (σ := member.merge_member_Diff_1.S2) (ν := Unit) (member.merge_member_Diff_1.body2 l s3272) (fun s3528 v => [(0, .sl .no 1 (l.map av_List_List_UInt8)), (1, .fn 29 []), (5, .vec p1966), (6, .sl (.own n3273) 1 (s3272.out.map AV.str)), (7, .str s3528.least), (8, .bool s3528.some_), (17, .i (l.length : Int)), (18, .i s3528.t18)]) (fun s3528 v => [(p1966, .vec 1 (s3272.v.map (AV.int .i64))), (n3273, .spare)]) ⟨([] : List UInt8), false, 0⟩ () _ h (Weak.mkL [0, 1] (by decide) ⟨⟨_, Z, Z⟩, ⟨_, Z, Z⟩, trivial⟩ ⟨tm Z, tm Z, tm Z, tm Z, tm Z, tm Z, tm Z, tm Z, trivial⟩) ?_))))))
  rintro s3528 _ x3530 h hx3529
  unfold member.merge_member_Diff_1.body2 at h
  refine xr (xa (.bool (decide (s3528.t18 < (l.length : Int)))) Z (pu_int (v := .bool (decide (s3528.t18 < (l.length : Int)))) Z Z (tm Z) (tm Z) Z) (xe (aw_seq (aw_cond (b := decide (s3528.t18 < (l.length : Int))) (tm Z) (fun hb3587 => ?_) (fun hb3587 => ?_)))))
  ·replace h := ite_t (dec_t hb3587) h
   refine aw_skip ?_
   obtain ⟨s3558, s3558e, h3559⟩ := bind_some h
   refine aw_meet (ν := Unit) (fun v => [(0, .sl .no 1 (l.map av_List_List_UInt8)), (1, .fn 29 []), (5, .vec p1966), (6, .sl (.own n3273) 1 (s3272.out.map AV.str)), (7, .str s3558.1), (8, .bool s3558.2), (17, .i (l.length : Int)), (18, .i s3528.t18)]) (fun v => [(p1966, .vec 1 (s3272.v.map (AV.int .i64))), (n3273, .spare)]) ?_ ?_
   ·have h := s3558e
    refine aw_block (xr (xm Z Z Z (xm Z Z Z (xe ?_))))
    obtain ⟨s3570, s3570e, h3571⟩ := bind_some h
    refine aw_meet (ν := Unit) (fun v => [(0, .sl .no 1 (l.map av_List_List_UInt8)), (1, .fn 29 []), (5, .vec p1966), (6, .sl (.own n3273) 1 (s3272.out.map AV.str)), (7, .str s3528.least), (8, .bool s3528.some_), (9, .i s3528.t18), (17, .i (l.length : Int)), (18, .i s3528.t18), (48, .bool s3570)]) (fun v => [(p1966, .vec 1 (s3272.v.map (AV.int .i64))), (n3273, .spare)]) ?_ ?_
    ·have h := s3570e
     obtain ⟨c3573, h⟩ := need_of h
     obtain ⟨c3574, h⟩ := need_of h
     obtain ⟨c3575, h⟩ := need_of h
     rcases Bool.eq_false_or_eq_true (decide ((ix s3272.v s3528.t18) < ((ix l s3528.t18).length : Int))) with hb3576 | hb3576
     ·replace h := ite_t (dec_t hb3576) h
      rcases Bool.eq_false_or_eq_true (!s3528.some_) with hb3577 | hb3577
      ·replace h := ite_t hb3577 h
       refine aw_planR (by decide +kernel) [[], [], [(0, 0, false)], [(0, 0, false)], [], [], [], [], [], [], [], [], [], [], [], [], [], [], [], [], [], [], [], [], [], [], [], []] [[], []] [[[(p1966, .vec 1 (s3272.v.map (AV.int .i64)))]], [[(n3273, .spare)]]] [.vec p1966, .i s3528.t18, .eptr p1966 (s3528.t18).toNat 0, .i (ix s3272.v s3528.t18), .sl .no 1 (l.map av_List_List_UInt8), .i s3528.t18, .vptr [.sl .no 1 ((ix l s3528.t18).map AV.str)], .sl .no 1 ((ix l s3528.t18).map AV.str), .i ((ix l s3528.t18).length : Int), .bool (decide ((ix s3272.v s3528.t18) < ((ix l s3528.t18).length : Int))), .bool true, .bool s3528.some_, .bool (!s3528.some_), .bool true, .lit undef, .lit undef, .lit undef, .lit undef, .lit undef, .lit undef, .lit undef, .lit undef, .lit undef, .lit undef, .lit undef, .lit undef, .bool true, .bool true] (by decide +kernel) Z Z ?_ ?_
       ·exact ⟨ym Z Z Z, ym Z Z Z, stepg_plain Z (op_indexAddrVecM Z underlying71 sizeOf3 (tm Z) (j := 0) Z (tm Z) c3573 ⟨Z, Z⟩), stepg_plain Z (op_loadE1M (i := 0) (sz := 1) Z isAgg3 (tm Z) Z c3574 (by decide) Z ⟨Z, Z⟩), ym Z Z Z, ym Z Z Z, yp Z (pu_indexAddrM Z underlying42 sizeOf22 (tm Z) (tm Z) c3575 Z), stepg_plain Z (op_loadV1 Z isAgg22 (tm Z) Z ⟨Z, Z⟩), yp Z (pu_lenM Z underlying22 (tm Z)), yp Z (pu_int (v := .bool (decide ((ix s3272.v s3528.t18) < ((ix l s3528.t18).length : Int)))) Z Z (tm Z) (tm Z) Z), AStepG.cast (ym Z Z Z) (congrArg AV.bool hb3576), yq Z Z (pu_move Z (tm Z)), yq Z Z (pu_not Z (tm Z)), AStepG.cast (yq Z Z (pu_move Z (tm Z))) (congrArg AV.bool hb3577), yx Z Z Z, yx Z Z Z, yx Z Z Z, yx Z Z Z, yx Z Z Z, yx Z Z Z, yx Z Z Z, yx Z Z Z, yx Z Z Z, yx Z Z Z, yx Z Z Z, yx Z Z Z, yq Z Z (pu_pick (b := true) Z (tm Z) (fun _ => (AEv.bool _)) (fun h => nomatch h)), yp Z (pu_pick (b := true) Z (tm Z) (fun _ => (tm Z)) (fun h => nomatch h)), trivial⟩
       obtain rfl := some_of h
       exact ⟨(), Weak.mkL [0, 1] (by decide) ⟨⟨_, Z, Z⟩, ⟨_, Z, Z⟩, trivial⟩ ⟨tm Z, tm Z, tm Z, tm Z, tm Z, tm Z, tm Z, tm Z, tm Z, tm Z, trivial⟩⟩
      ·replace h := ite_fb hb3577 h
       obtain ⟨c3578, h⟩ := need_of h
       obtain ⟨c3579, h⟩ := need_of h
       obtain ⟨c3580, h⟩ := need_of h
       obtain ⟨c3581, h⟩ := need_of h
       refine aw_planR (by decide +kernel) [[], [], [(0, 0, false)], [(0, 0, false)], [], [], [], [], [], [], [], [], [], [], [], [], [], [], [], [], [(0, 0, false)], [(0, 0, false)], [], [], [], [], [], []] [[], []] [[[(p1966, .vec 1 (s3272.v.map (AV.int .i64)))]], [[(n3273, .spare)]]] [.vec p1966, .i s3528.t18, .eptr p1966 (s3528.t18).toNat 0, .i (ix s3272.v s3528.t18), .sl .no 1 (l.map av_List_List_UInt8), .i s3528.t18, .vptr [.sl .no 1 ((ix l s3528.t18).map AV.str)], .sl .no 1 ((ix l s3528.t18).map AV.str), .i ((ix l s3528.t18).length : Int), .bool (decide ((ix s3272.v s3528.t18) < ((ix l s3528.t18).length : Int))), .bool true, .bool s3528.some_, .bool (!s3528.some_), .bool false, .sl .no 1 (l.map av_List_List_UInt8), .i s3528.t18, .vptr [.sl .no 1 ((ix l s3528.t18).map AV.str)], .sl .no 1 ((ix l s3528.t18).map AV.str), .vec p1966, .i s3528.t18, .eptr p1966 (s3528.t18).toNat 0, .i (ix s3272.v s3528.t18), .vptr [.str (ix (ix l s3528.t18) (ix s3272.v s3528.t18))], .str (ix (ix l s3528.t18) (ix s3272.v s3528.t18)), .str s3528.least, .bool (strLt (ix (ix l s3528.t18) (ix s3272.v s3528.t18)) s3528.least), .bool (strLt (ix (ix l s3528.t18) (ix s3272.v s3528.t18)) s3528.least), .bool (strLt (ix (ix l s3528.t18) (ix s3272.v s3528.t18)) s3528.least)] (by decide +kernel) Z Z ?_ ?_
       ·exact ⟨ym Z Z Z, ym Z Z Z, stepg_plain Z (op_indexAddrVecM Z underlying71 sizeOf3 (tm Z) (j := 0) Z (tm Z) c3573 ⟨Z, Z⟩), stepg_plain Z (op_loadE1M (i := 0) (sz := 1) Z isAgg3 (tm Z) Z c3574 (by decide) Z ⟨Z, Z⟩), ym Z Z Z, ym Z Z Z, yp Z (pu_indexAddrM Z underlying42 sizeOf22 (tm Z) (tm Z) c3575 Z), stepg_plain Z (op_loadV1 Z isAgg22 (tm Z) Z ⟨Z, Z⟩), yp Z (pu_lenM Z underlying22 (tm Z)), yp Z (pu_int (v := .bool (decide ((ix s3272.v s3528.t18) < ((ix l s3528.t18).length : Int)))) Z Z (tm Z) (tm Z) Z), AStepG.cast (ym Z Z Z) (congrArg AV.bool hb3576), yq Z Z (pu_move Z (tm Z)), yq Z Z (pu_not Z (tm Z)), AStepG.cast (yq Z Z (pu_move Z (tm Z))) (congrArg AV.bool hb3577), yq Z Z (pu_move Z (tm Z)), yq Z Z (pu_move Z (tm Z)), yq Z Z (pu_indexAddrM Z underlying42 sizeOf22 (tm Z) (tm Z) c3578 Z), yg Z Z (op_loadV1 Z isAgg22 (tm Z) Z ⟨Z, Z⟩), yq Z Z (pu_move Z (tm Z)), yq Z Z (pu_move Z (tm Z)), yg Z Z (op_indexAddrVecM Z underlying71 sizeOf3 (tm Z) (j := 0) Z (tm Z) c3579 ⟨Z, Z⟩), yg Z Z (op_loadE1M (i := 0) (sz := 1) Z isAgg3 (tm Z) Z c3580 (by decide) Z ⟨Z, Z⟩), yq Z Z (pu_indexAddrM Z underlying22 sizeOf9 (tm Z) (tm Z) c3581 Z), yg Z Z (op_loadV1 Z isAgg9 (tm Z) Z ⟨Z, Z⟩), yq Z Z (pu_move Z (tm Z)), yq Z Z (pu_str (v := .bool (strLt (ix (ix l s3528.t18) (ix s3272.v s3528.t18)) s3528.least)) Z Z (tm Z) (tm Z) Z), yq Z Z (pu_pick (b := false) Z (tm Z) (fun h => nomatch h) (fun _ => (tm Z))), yp Z (pu_pick (b := true) Z (tm Z) (fun _ => (tm Z)) (fun h => nomatch h)), trivial⟩
       obtain rfl := some_of h
       exact ⟨(), Weak.mkL [0, 1] (by decide) ⟨⟨_, Z, Z⟩, ⟨_, Z, Z⟩, trivial⟩ ⟨tm Z, tm Z, tm Z, tm Z, tm Z, tm Z, tm Z, tm Z, tm Z, (AEv.le (tm Z) vr), trivial⟩⟩
     ·replace h := ite_f (dec_f hb3576) h
      refine aw_planR (by decide +kernel) [[], [], [(0, 0, false)], [(0, 0, false)], [], [], [], [], [], [], [], [], [], [], [], [], [], [], [], [], [], [], [], [], [], [], [], []] [[], []] [[[(p1966, .vec 1 (s3272.v.map (AV.int .i64)))]], [[(n3273, .spare)]]] [.vec p1966, .i s3528.t18, .eptr p1966 (s3528.t18).toNat 0, .i (ix s3272.v s3528.t18), .sl .no 1 (l.map av_List_List_UInt8), .i s3528.t18, .vptr [.sl .no 1 ((ix l s3528.t18).map AV.str)], .sl .no 1 ((ix l s3528.t18).map AV.str), .i ((ix l s3528.t18).length : Int), .bool (decide ((ix s3272.v s3528.t18) < ((ix l s3528.t18).length : Int))), .bool false, .lit undef, .lit undef, .lit undef, .lit undef, .lit undef, .lit undef, .lit undef, .lit undef, .lit undef, .lit undef, .lit undef, .lit undef, .lit undef, .lit undef, .lit undef, .lit undef, .bool false] (by decide +kernel) Z Z ?_ ?_
      ·exact ⟨ym Z Z Z, ym Z Z Z, stepg_plain Z (op_indexAddrVecM Z underlying71 sizeOf3 (tm Z) (j := 0) Z (tm Z) c3573 ⟨Z, Z⟩), stepg_plain Z (op_loadE1M (i := 0) (sz := 1) Z isAgg3 (tm Z) Z c3574 (by decide) Z ⟨Z, Z⟩), ym Z Z Z, ym Z Z Z, yp Z (pu_indexAddrM Z underlying42 sizeOf22 (tm Z) (tm Z) c3575 Z), stepg_plain Z (op_loadV1 Z isAgg22 (tm Z) Z ⟨Z, Z⟩), yp Z (pu_lenM Z underlying22 (tm Z)), yp Z (pu_int (v := .bool (decide ((ix s3272.v s3528.t18) < ((ix l s3528.t18).length : Int)))) Z Z (tm Z) (tm Z) Z), AStepG.cast (ym Z Z Z) (congrArg AV.bool hb3576), yx Z Z Z, yx Z Z Z, yx Z Z Z, yy Z Z, yy Z Z, yy Z Z, yy Z Z, yy Z Z, yy Z Z, yy Z Z, yy Z Z, yy Z Z, yy Z Z, yy Z Z, yy Z Z, yx Z Z Z, yp Z (pu_pick (b := false) Z (tm Z) (fun h => nomatch h) (fun _ => (AEv.bool _))), trivial⟩
      obtain rfl := some_of h
      exact ⟨(), Weak.mkL [0, 1] (by decide) ⟨⟨_, Z, Z⟩, ⟨_, Z, Z⟩, trivial⟩ ⟨tm Z, tm Z, tm Z, tm Z, tm Z, tm Z, tm Z, tm Z, tm Z, tm Z, trivial⟩⟩
    ·intro _
     have h := h3571
     refine aw_cond (b := s3570) (tm Z) (fun hb3586 => ?_) (fun hb3586 => ?_)
     ·replace h := ite_t hb3586 h
      obtain ⟨c3582, h⟩ := need_of h
      obtain ⟨c3583, h⟩ := need_of h
      obtain ⟨c3584, h⟩ := need_of h
      obtain ⟨c3585, h⟩ := need_of h
      refine aw_planR (by decide +kernel) [[], [], [], [], [], [], [(0, 0, false)], [(0, 0, false)], [], [], [], []] [[], []] [[[(p1966, .vec 1 (s3272.v.map (AV.int .i64)))]], [[(n3273, .spare)]]] [.sl .no 1 (l.map av_List_List_UInt8), .i s3528.t18, .vptr [.sl .no 1 ((ix l s3528.t18).map AV.str)], .sl .no 1 ((ix l s3528.t18).map AV.str), .vec p1966, .i s3528.t18, .eptr p1966 (s3528.t18).toNat 0, .i (ix s3272.v s3528.t18), .vptr [.str (ix (ix l s3528.t18) (ix s3272.v s3528.t18))], .str (ix (ix l s3528.t18) (ix s3272.v s3528.t18)), .str (ix (ix l s3528.t18) (ix s3272.v s3528.t18)), .bool true] (by decide +kernel) Z Z ?_ ?_
      ·exact ⟨ym Z Z Z, ym Z Z Z, yp Z (pu_indexAddrM Z underlying42 sizeOf22 (tm Z) (tm Z) c3582 Z), stepg_plain Z (op_loadV1 Z isAgg22 (tm Z) Z ⟨Z, Z⟩), ym Z Z Z, ym Z Z Z, stepg_plain Z (op_indexAddrVecM Z underlying71 sizeOf3 (tm Z) (j := 0) Z (tm Z) c3583 ⟨Z, Z⟩), stepg_plain Z (op_loadE1M (i := 0) (sz := 1) Z isAgg3 (tm Z) Z c3584 (by decide) Z ⟨Z, Z⟩), yp Z (pu_indexAddrM Z underlying22 sizeOf9 (tm Z) (tm Z) c3585 Z), stepg_plain Z (op_loadV1 Z isAgg9 (tm Z) Z ⟨Z, Z⟩), ym Z Z Z, yp Z (pu_assign Z (AEv.bool _)), trivial⟩
      obtain rfl := some_of h
      exact ⟨(), Weak.mkL [0, 1] (by decide) ⟨⟨_, Z, Z⟩, ⟨_, Z, Z⟩, trivial⟩ ⟨tm Z, tm Z, tm Z, tm Z, (AEv.le (tm Z) vr), tm Z, tm Z, tm Z, trivial⟩⟩
     ·replace h := ite_fb hb3586 h
      refine aw_skip ?_
      obtain rfl := some_of h
      exact ⟨(), Weak.mkL [0, 1] (by decide) ⟨⟨_, Z, Z⟩, ⟨_, Z, Z⟩, trivial⟩ ⟨tm Z, tm Z, tm Z, tm Z, tm Z, tm Z, tm Z, tm Z, trivial⟩⟩
   ·intro _
    have h := h3559
    refine aw_region (xa (.i (IntKind.wrap .i64 (s3528.t18 + 1))) Z (pu_int (v := .i (IntKind.wrap .i64 (s3528.t18 + 1))) Z Z (tm Z) (AEv.int _ _) Z) (xm Z Z Z (xe ?_)))
    obtain rfl := some_of h
    exact ⟨_, (), Z, Weak.mkL [0, 1] (by decide) ⟨⟨_, Z, Z⟩, ⟨_, Z, Z⟩, trivial⟩ ⟨tm Z, tm Z, tm Z, tm Z, tm Z, tm Z, tm Z, (AEv.le (tm Z) vr), trivial⟩⟩
  ·replace h := ite_f (dec_f hb3587) h
   refine aw_exit ?_
   obtain rfl := some_of h
   have h := congrArg some (hx3529 _ rfl)
   obtain rfl := some_of h
   exact ⟨(), Weak.mkL [0, 1] (by decide) ⟨⟨_, Z, Z⟩, ⟨_, Z, Z⟩, trivial⟩ ⟨tm Z, tm Z, tm Z, tm Z, tm Z, tm Z, trivial⟩⟩
 ·intro _
  have h := h3432
  refine aw_seq (xr (xm Z Z Z (xa (.bool (!s3431.2)) Z (pu_not Z (tm Z)) (xe (aw_cond (b := (!s3431.2)) (tm Z) (fun hb3927 => ?_) (fun hb3927 => ?_))))))
  ·replace h := ite_t hb3927 h
   refine xr (xm Z Z Z (xm Z Z Z (xe (aw_ret ?_))))
   obtain rfl := some_of h
   have h := congrArg some (hx3274 _ rfl)
   obtain rfl := some_of h
   exact ⟨[.sl (.own n3273) 1 (s3272.out.map AV.str)], _, [(n3273, .spare)], ⟨(tm Z), trivial⟩, vr, Weak.mkL [1] (by decide) ⟨⟨_, Z, Z⟩, trivial⟩ trivial, ⟨n3273, Z, Z⟩⟩
  ·replace h := ite_fb hb3927 h
   refine aw_skip (xr (xa (.i 0) Z (pu_assign Z (AEv.int _ _)) (xa (.bool false) Z (pu_assign Z (AEv.bool _)) (xe ?_))))
   obtain ⟨s3754, s3754e, h3755⟩ := bind_some h
   refine aw_meet (ν := Unit) (fun v => [(0, .sl .no 1 (l.map av_List_List_UInt8)), (1, .fn 29 []), (5, .vec p1966), (6, .sl (.own n3273) 1 (s3272.out.map AV.str)), (7, .str s3431.1), (10, .i s3754.1), (11, .bool s3754.2.1)]) (fun v => [(p1966, .vec 1 (s3754.2.2.map (AV.int .i64))), (n3273, .spare)]) ?_ ?_
   ·have h := s3754e
    refine xr (xm Z Z Z (xa (.i (l.length : Int)) Z (pu_lenM Z underlying42 (tm Z)) (xa (.i 0) Z (pu_move Z (AEv.int _ _)) (xe (aw_block (aw_while (σ := member.merge_member_Diff_1.S4) (ν := Unit) (member.merge_member_Diff_1.body4 l s3431) (fun s3865 v => [(0, .sl .no 1 (l.map av_List_List_UInt8)), (1, .fn 29 []), (5, .vec p1966), (6, .sl (.own n3273) 1 (s3272.out.map AV.str)), (7, .str s3431.1), (10, .i s3865.n), (11, .bool s3865.first), (64, .i (l.length : Int)), (65, .i s3865.t65)]) (fun s3865 v => [(p1966, .vec 1 (s3865.v.map (AV.int .i64))), (n3273, .spare)]) ⟨0, false, 0, s3272.v⟩ () _ h (Weak.mkL [0, 1] (by decide) ⟨⟨_, Z, Z⟩, ⟨_, Z, Z⟩, trivial⟩ ⟨tm Z, tm Z, tm Z, tm Z, tm Z, tm Z, tm Z, tm Z, tm Z, trivial⟩) ?_))))))
    rintro s3865 _ x3867 h hx3866
    unfold member.merge_member_Diff_1.body4 at h
    refine xr (xa (.bool (decide (s3865.t65 < (l.length : Int)))) Z (pu_int (v := .bool (decide (s3865.t65 < (l.length : Int)))) Z Z (tm Z) (tm Z) Z) (xe (aw_seq (aw_cond (b := decide (s3865.t65 < (l.length : Int))) (tm Z) (fun hb3922 => ?_) (fun hb3922 => ?_)))))
    ·replace h := ite_t (dec_t hb3922) h
     refine aw_skip ?_
     obtain ⟨s3894, s3894e, h3895⟩ := bind_some h
     refine aw_meet (ν := Unit) (fun v => [(0, .sl .no 1 (l.map av_List_List_UInt8)), (1, .fn 29 []), (5, .vec p1966), (6, .sl (.own n3273) 1 (s3272.out.map AV.str)), (7, .str s3431.1), (10, .i s3894.1), (11, .bool s3894.2.1), (64, .i (l.length : Int)), (65, .i s3865.t65)]) (fun v => [(p1966, .vec 1 (s3894.2.2.map (AV.int .i64))), (n3273, .spare)]) ?_ ?_
     ·have h := s3894e
      refine aw_block (xr (xm Z Z Z (xm Z Z Z (xe ?_))))
      obtain ⟨s3905, s3905e, h3906⟩ := bind_some h
      refine aw_meet (ν := Unit) (fun v => [(0, .sl .no 1 (l.map av_List_List_UInt8)), (1, .fn 29 []), (5, .vec p1966), (6, .sl (.own n3273) 1 (s3272.out.map AV.str)), (7, .str s3431.1), (10, .i s3865.n), (11, .bool s3865.first), (12, .i s3865.t65), (64, .i (l.length : Int)), (65, .i s3865.t65), (91, .bool s3905)]) (fun v => [(p1966, .vec 1 (s3865.v.map (AV.int .i64))), (n3273, .spare)]) ?_ ?_
      ·have h := s3905e
       obtain ⟨c3908, h⟩ := need_of h
       obtain ⟨c3909, h⟩ := need_of h
       obtain ⟨c3910, h⟩ := need_of h
       rcases Bool.eq_false_or_eq_true (decide ((ix s3865.v s3865.t65) < ((ix l s3865.t65).length : Int))) with hb3911 | hb3911
       ·replace h := ite_t (dec_t hb3911) h
        obtain ⟨c3912, h⟩ := need_of h
        obtain ⟨c3913, h⟩ := need_of h
        obtain ⟨c3914, h⟩ := need_of h
        obtain ⟨c3915, h⟩ := need_of h
        refine aw_planR (by decide +kernel) [[], [], [(0, 0, false)], [(0, 0, false)], [], [], [], [], [], [], [], [], [], [], [], [], [], [(0, 0, false)], [(0, 0, false)], [], [], [], [], []] [[], []] [[[(p1966, .vec 1 (s3865.v.map (AV.int .i64)))]], [[(n3273, .spare)]]] [.vec p1966, .i s3865.t65, .eptr p1966 (s3865.t65).toNat 0, .i (ix s3865.v s3865.t65), .sl .no 1 (l.map av_List_List_UInt8), .i s3865.t65, .vptr [.sl .no 1 ((ix l s3865.t65).map AV.str)], .sl .no 1 ((ix l s3865.t65).map AV.str), .i ((ix l s3865.t65).length : Int), .bool (decide ((ix s3865.v s3865.t65) < ((ix l s3865.t65).length : Int))), .bool true, .sl .no 1 (l.map av_List_List_UInt8), .i s3865.t65, .vptr [.sl .no 1 ((ix l s3865.t65).map AV.str)], .sl .no 1 ((ix l s3865.t65).map AV.str), .vec p1966, .i s3865.t65, .eptr p1966 (s3865.t65).toNat 0, .i (ix s3865.v s3865.t65), .vptr [.str (ix (ix l s3865.t65) (ix s3865.v s3865.t65))], .str (ix (ix l s3865.t65) (ix s3865.v s3865.t65)), .str s3431.1, .bool (decide ((ix (ix l s3865.t65) (ix s3865.v s3865.t65)) = s3431.1)), .bool (decide ((ix (ix l s3865.t65) (ix s3865.v s3865.t65)) = s3431.1))] (by decide +kernel) Z Z ?_ ?_
        ·exact ⟨ym Z Z Z, ym Z Z Z, stepg_plain Z (op_indexAddrVecM Z underlying71 sizeOf3 (tm Z) (j := 0) Z (tm Z) c3908 ⟨Z, Z⟩), stepg_plain Z (op_loadE1M (i := 0) (sz := 1) Z isAgg3 (tm Z) Z c3909 (by decide) Z ⟨Z, Z⟩), ym Z Z Z, ym Z Z Z, yp Z (pu_indexAddrM Z underlying42 sizeOf22 (tm Z) (tm Z) c3910 Z), stepg_plain Z (op_loadV1 Z isAgg22 (tm Z) Z ⟨Z, Z⟩), yp Z (pu_lenM Z underlying22 (tm Z)), yp Z (pu_int (v := .bool (decide ((ix s3865.v s3865.t65) < ((ix l s3865.t65).length : Int)))) Z Z (tm Z) (tm Z) Z), AStepG.cast (ym Z Z Z) (congrArg AV.bool hb3911), yq Z Z (pu_move Z (tm Z)), yq Z Z (pu_move Z (tm Z)), yq Z Z (pu_indexAddrM Z underlying42 sizeOf22 (tm Z) (tm Z) c3912 Z), yg Z Z (op_loadV1 Z isAgg22 (tm Z) Z ⟨Z, Z⟩), yq Z Z (pu_move Z (tm Z)), yq Z Z (pu_move Z (tm Z)), yg Z Z (op_indexAddrVecM Z underlying71 sizeOf3 (tm Z) (j := 0) Z (tm Z) c3913 ⟨Z, Z⟩), yg Z Z (op_loadE1M (i := 0) (sz := 1) Z isAgg3 (tm Z) Z c3914 (by decide) Z ⟨Z, Z⟩), yq Z Z (pu_indexAddrM Z underlying22 sizeOf9 (tm Z) (tm Z) c3915 Z), yg Z Z (op_loadV1 Z isAgg9 (tm Z) Z ⟨Z, Z⟩), yq Z Z (pu_move Z (tm Z)), yq Z Z (pu_str (v := .bool (decide ((ix (ix l s3865.t65) (ix s3865.v s3865.t65)) = s3431.1))) Z Z (tm Z) (tm Z) Z), yp Z (pu_pick (b := true) Z (tm Z) (fun _ => (tm Z)) (fun h => nomatch h)), trivial⟩
        obtain rfl := some_of h
        exact ⟨(), Weak.mkL [0, 1] (by decide) ⟨⟨_, Z, Z⟩, ⟨_, Z, Z⟩, trivial⟩ ⟨tm Z, tm Z, tm Z, tm Z, tm Z, tm Z, tm Z, tm Z, tm Z, tm Z, (AEv.le (tm Z) vr), trivial⟩⟩
       ·replace h := ite_f (dec_f hb3911) h
        refine aw_planR (by decide +kernel) [[], [], [(0, 0, false)], [(0, 0, false)], [], [], [], [], [], [], [], [], [], [], [], [], [], [], [], [], [], [], [], []] [[], []] [[[(p1966, .vec 1 (s3865.v.map (AV.int .i64)))]], [[(n3273, .spare)]]] [.vec p1966, .i s3865.t65, .eptr p1966 (s3865.t65).toNat 0, .i (ix s3865.v s3865.t65), .sl .no 1 (l.map av_List_List_UInt8), .i s3865.t65, .vptr [.sl .no 1 ((ix l s3865.t65).map AV.str)], .sl .no 1 ((ix l s3865.t65).map AV.str), .i ((ix l s3865.t65).length : Int), .bool (decide ((ix s3865.v s3865.t65) < ((ix l s3865.t65).length : Int))), .bool false, .lit undef, .lit undef, .lit undef, .lit undef, .lit undef, .lit undef, .lit undef, .lit undef, .lit undef, .lit undef, .lit undef, .lit undef, .bool false] (by decide +kernel) Z Z ?_ ?_
        ·exact ⟨ym Z Z Z, ym Z Z Z, stepg_plain Z (op_indexAddrVecM Z underlying71 sizeOf3 (tm Z) (j := 0) Z (tm Z) c3908 ⟨Z, Z⟩), stepg_plain Z (op_loadE1M (i := 0) (sz := 1) Z isAgg3 (tm Z) Z c3909 (by decide) Z ⟨Z, Z⟩), ym Z Z Z, ym Z Z Z, yp Z (pu_indexAddrM Z underlying42 sizeOf22 (tm Z) (tm Z) c3910 Z), stepg_plain Z (op_loadV1 Z isAgg22 (tm Z) Z ⟨Z, Z⟩), yp Z (pu_lenM Z underlying22 (tm Z)), yp Z (pu_int (v := .bool (decide ((ix s3865.v s3865.t65) < ((ix l s3865.t65).length : Int)))) Z Z (tm Z) (tm Z) Z), AStepG.cast (ym Z Z Z) (congrArg AV.bool hb3911), yx Z Z Z, yx Z Z Z, yx Z Z Z, yx Z Z Z, yx Z Z Z, yx Z Z Z, yx Z Z Z, yx Z Z Z, yx Z Z Z, yx Z Z Z, yx Z Z Z, yx Z Z Z, yp Z (pu_pick (b := false) Z (tm Z) (fun h => nomatch h) (fun _ => (AEv.bool _))), trivial⟩
        obtain rfl := some_of h
        exact ⟨(), Weak.mkL [0, 1] (by decide) ⟨⟨_, Z, Z⟩, ⟨_, Z, Z⟩, trivial⟩ ⟨tm Z, tm Z, tm Z, tm Z, tm Z, tm Z, tm Z, tm Z, tm Z, tm Z, tm Z, trivial⟩⟩
      ·intro _
       have h := h3906
       refine aw_cond (b := s3905) (tm Z) (fun hb3921 => ?_) (fun hb3921 => ?_)
       ·replace h := ite_t hb3921 h
        refine xr (xm Z Z Z (xm Z Z Z ?_))
        obtain ⟨c3916, h⟩ := need_of h
        refine xc Z (op_indexAddrVecM Z underlying71 sizeOf3 (tm Z) (j := 0) Z (tm Z) c3916 ?_)
        obtain ⟨c3917, h⟩ := need_of h
        refine xc Z (op_loadE1M (i := 0) (sz := 1) Z isAgg3 (tm Z) Z c3917 (by decide) Z (xa (.i (IntKind.wrap .i64 ((ix s3865.v s3865.t65) + 1))) Z (pu_int (v := .i (IntKind.wrap .i64 ((ix s3865.v s3865.t65) + 1))) Z Z (tm Z) (AEv.int _ _) Z) ?_))
        obtain ⟨c3918, h⟩ := need_of h
        refine xc Z (op_indexAddrVecM Z underlying71 sizeOf3 (tm Z) (j := 0) Z (tm Z) c3918 ?_)
        obtain ⟨c3919, h⟩ := need_of h
        refine ac0 Z Z (op_storeEM (i := 0) (sz := 1) (y' := IntKind.wrap .i64 ((ix s3865.v s3865.t65) + 1)) Z sizeOf3 (tm Z) (v := .i (IntKind.wrap .i64 ((ix s3865.v s3865.t65) + 1))) (tm Z) Z c3919 Z Z (by decide) Z (xe (xr (xm Z Z Z (xa (.i (IntKind.wrap .i64 (s3865.n + 1))) Z (pu_int (v := .i (IntKind.wrap .i64 (s3865.n + 1))) Z Z (tm Z) (AEv.int _ _) Z) (xm Z Z Z (xe (aw_region (xm Z Z Z ?_)))))))))
        refine xm Z Z Z ?_
        rcases Bool.eq_false_or_eq_true s3865.first with hb3920 | hb3920
        ·replace h := ite_t hb3920 h
         refine aops_known 101 Z hb3920 (xn Z Z Z (xn Z Z Z (xa (.bool true) Z (pu_pick (b := true) Z (tm Z) (fun _ => (AEv.bool _)) (fun h => nomatch h)) (xm Z Z Z (xe ?_)))))
         obtain rfl := some_of h
         exact ⟨(), Weak.mkL [0, 1] (by decide) ⟨⟨_, Z, Z⟩, ⟨_, Z, Z⟩, trivial⟩ ⟨tm Z, tm Z, tm Z, tm Z, tm Z, (AEv.le (tm Z) vr), tm Z, tm Z, tm Z, trivial⟩⟩
        ·replace h := ite_fb hb3920 h
         refine aops_known 101 Z hb3920 (xq Z Z Z Z (xp (.bool (decide (s3865.t65 = 0))) Z Z (pu_int (v := .bool (decide (s3865.t65 = 0))) Z Z (tm Z) (AEv.int _ _) Z) (xa (.bool (decide (s3865.t65 = 0))) Z (pu_pick (b := false) Z (tm Z) (fun h => nomatch h) (fun _ => (tm Z))) (xm Z Z Z (xe ?_)))))
         obtain rfl := some_of h
         exact ⟨(), Weak.mkL [0, 1] (by decide) ⟨⟨_, Z, Z⟩, ⟨_, Z, Z⟩, trivial⟩ ⟨tm Z, tm Z, tm Z, tm Z, tm Z, (AEv.le (tm Z) vr), (AEv.le (tm Z) vr), tm Z, tm Z, trivial⟩⟩
       ·replace h := ite_fb hb3921 h
        refine aw_skip ?_
        obtain rfl := some_of h
        exact ⟨(), Weak.mkL [0, 1] (by decide) ⟨⟨_, Z, Z⟩, ⟨_, Z, Z⟩, trivial⟩ ⟨tm Z, tm Z, tm Z, tm Z, tm Z, tm Z, tm Z, tm Z, tm Z, trivial⟩⟩
     ·intro _
      have h := h3895
      refine aw_region (xa (.i (IntKind.wrap .i64 (s3865.t65 + 1))) Z (pu_int (v := .i (IntKind.wrap .i64 (s3865.t65 + 1))) Z Z (tm Z) (AEv.int _ _) Z) (xm Z Z Z (xe ?_)))
      obtain rfl := some_of h
      exact ⟨_, (), Z, Weak.mkL [0, 1] (by decide) ⟨⟨_, Z, Z⟩, ⟨_, Z, Z⟩, trivial⟩ ⟨tm Z, tm Z, tm Z, tm Z, tm Z, tm Z, tm Z, tm Z, (AEv.le (tm Z) vr), trivial⟩⟩
    ·replace h := ite_f (dec_f hb3922) h
     refine aw_exit ?_
     obtain rfl := some_of h
     have h := congrArg some (hx3866 _ rfl)
     obtain rfl := some_of h
     exact ⟨(), Weak.mkL [0, 1] (by decide) ⟨⟨_, Z, Z⟩, ⟨_, Z, Z⟩, trivial⟩ ⟨tm Z, tm Z, tm Z, tm Z, tm Z, tm Z, tm Z, trivial⟩⟩
   ·intro _
    have h := h3755
    refine xr (xm Z Z Z (xm Z Z Z (xm Z Z Z ?_)))
    obtain ⟨r3923, r3923e, h⟩ := bind_some h
    refine xc Z (op_callV (vs := [.i s3754.1, .bool s3754.2.1]) (H := []) Z (tm Z) call29 ⟨(tm Z), (tm Z), trivial⟩ (List.Perm.refl _) (member.Diff_1.ok r3923e) ?_)
    rintro _ _ ⟨rfl, rfl⟩
    refine xe (aw_cond (b := r3923) (tm Z) (fun hb3926 => ?_) (fun hb3926 => ?_))
    ·replace h := ite_t hb3926 h
     refine aw_region (xm Z Z Z (xm Z Z Z (xc Z (op_buildSlice (xs := ([s3431.1] : List (List UInt8)).map AV.str) (aparts := [(0, .str s3431.1)]) Z underlying22 sizeOf9 zeroValue9 (by decide) (by decide) ⟨Z, (tm Z), trivial⟩ Z Z Z ?_))))
     obtain ⟨c3924, h⟩ := need_of h
     refine xc Z (op_appendOM (q := 1) Z underlying22 underlying22 (.inl Z) typeInfo9 Z Z Z (by decide) (tm Z) Z (given_sl (tm Z)) c3924 ?_)
     intro t3925
     refine xm Z Z Z (xe ?_)
     obtain rfl := some_of h
     exact ⟨_, t3925, Z, Weak.mkL [0, 1] (by decide) ⟨⟨_, Z, Z⟩, ⟨_, Z, Z⟩, trivial⟩ ⟨tm Z, tm Z, tm Z, (AEv.le (tm Z) vr), trivial⟩⟩
    ·replace h := ite_fb hb3926 h
     refine aw_skip ?_
     obtain rfl := some_of h
     exact ⟨_, n3273, Z, Weak.mkL [0, 1] (by decide) ⟨⟨_, Z, Z⟩, ⟨_, Z, Z⟩, trivial⟩ ⟨tm Z, tm Z, tm Z, tm Z, trivial⟩⟩

theorem member.Diff.ok {l : List (List (List UInt8))} {r : List (List UInt8)} (h : member.Diff l = some r) : Go.Lift.Spec prog 13 [.sl .no 1 (l.map av_List_List_UInt8)] [] (fun v H => ∃ n0, v = .sl (.own n0) 1 (r.map AV.str) ∧ H = [(n0, .spare)]) := by
 unfold member.Diff at h
 refine Go.Lift.Spec.of_body (rs := [.tmp 2]) func13 Z Z (nb Z) Z (xr (xa (.sl .full 1 (([] : List (List UInt8)).map AV.str)) Z (pu_assign Z (AEv.nil 1 (by decide))) (xe (xr (xm Z Z Z ?_)))))
 obtain ⟨r3, r3e, h⟩ := bind_some h
 refine xc Z (op_call (vs := [.sl .no 1 (l.map av_List_List_UInt8), .fn 29 []]) (H := []) Z call26 ⟨(tm Z), (AEv.func _), trivial⟩ (List.Perm.refl _) (member.merge_member_Diff_1.ok r3e) ?_)
 rintro _ _ ⟨t4, rfl, rfl⟩
 refine xm Z Z Z (xe (aw_ret ?_))
 obtain rfl := some_of h
 exact ⟨[.sl (.own t4) 1 (r3.map AV.str)], _, [(t4, .spare)], ⟨(tm Z), trivial⟩, vr, Weak.mkL [0] (by decide) ⟨⟨_, Z, Z⟩, trivial⟩ trivial, ⟨t4, Z, Z⟩⟩

end Go.Pu
