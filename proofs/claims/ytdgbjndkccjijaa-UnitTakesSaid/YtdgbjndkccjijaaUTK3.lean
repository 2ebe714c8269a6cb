/- Printed by lift.py: the functions come to them. -/
import Derived.Test.YtdgbjndkccjijaaLiftW
import Derived.Test.YtdgbjndkccjijaaUTK2
set_option maxRecDepth 100000
set_option maxHeartbeats 0
namespace Go.Pu
open Go.Lift Go.Proofs.Try Go.RowKit Go.Proofs

theorem mewslaw15.UnitPuts.ok {a : api.Unit} {b : api.Unit} {r : Bool} (h : mewslaw15.UnitPuts a b = some r) : Go.Lift.Spec prog 3 [.agg [.sl .no 1 (a.Cmds.map av_List_List_UInt8)], .agg [.sl .no 1 (b.Cmds.map av_List_List_UInt8)]] [] (fun v H => v = .bool r ∧ H = []) := by
 unfold mewslaw15.UnitPuts at h
 refine Go.Lift.Spec.of_body (rs := [.tmp 4]) func3 Z Z (nb Z) Z (xr (xc Z (op_box (cs := [.sl .no 1 (a.Cmds.map av_List_List_UInt8)]) (v := .agg [.sl .no 1 (a.Cmds.map av_List_List_UInt8)]) Z (tm Z) Z Z ?_)))
 intro p27
 refine xc Z (op_box (cs := [.sl .no 1 (b.Cmds.map av_List_List_UInt8)]) (v := .agg [.sl .no 1 (b.Cmds.map av_List_List_UInt8)]) Z (tm Z) Z Z ?_)
 intro p28
 refine xa (.bool false) Z (pu_assign Z (AEv.bool _)) (xe (aw_seq (xr (xc Z (op_loadN (i := 1) Z isAgg24 sizeOf24 (tm Z) Z (nb Z) Z (xc Z (op_loadN (i := 0) Z isAgg24 sizeOf24 (tm Z) Z (nb Z) Z (xc Z (op_buildSlice (xs := ([a, b] : List api.Unit).map api.Unit.av) (aparts := [(0, .agg [.sl .no 1 (a.Cmds.map av_List_List_UInt8)]), (1, .agg [.sl .no 1 (b.Cmds.map av_List_List_UInt8)])]) Z underlying37 sizeOf24 zeroValue24 (by decide) (by decide) ⟨Z, (tm Z), ⟨Z, (tm Z), trivial⟩⟩ Z Z Z ?_)))))))))
 obtain ⟨r29, r29e, h⟩ := bind_some h
 refine xc Z (op_call (vs := [.sl .no 1 ([a, b].map api.Unit.av)]) (H := []) Z call8 ⟨(AEv.le (tm Z) (AV.Le.forget _ _ _)), trivial⟩ (List.Perm.refl _) (mewslaw15.Far.ok r29e) ?_)
 rintro _ _ ⟨rfl, rfl⟩
 refine xe (aw_cond (b := r29) (tm Z) (fun hb52 => ?_) (fun hb52 => ?_))
 ·replace h := ite_t hb52 h
  refine aw_seq (aw_region ?_)
  obtain ⟨r30, r30e, h⟩ := bind_some h
  refine xc Z (op_call (vs := []) (H := []) Z call9 trivial (List.Perm.refl _) (mewslaw15.alive.ok r30e) ?_)
  rintro _ _ ⟨rfl, rfl⟩
  refine xm Z Z Z (xe (aw_ret ?_))
  obtain rfl := some_of h
  exact ⟨[.bool r30], _, [], ⟨(tm Z), trivial⟩, vr, Weak.mkL [] (by decide) trivial trivial, ⟨Z, Z⟩⟩
 ·replace h := ite_fb hb52 h
  refine aw_skip (xr (xc Z (op_loadN (i := 1) Z isAgg24 sizeOf24 (tm Z) Z (nb Z) Z ?_)))
  obtain ⟨r31, r31e, h⟩ := bind_some h
  refine xc Z (op_call (vs := [.agg [.sl .no 1 (a.Cmds.map av_List_List_UInt8)]]) (H := []) Z call10 ⟨(tm Z), trivial⟩ (List.Perm.refl _) (unit.Put.ok r31e) ?_)
  rintro _ _ ⟨rfl, rfl⟩
  refine xm Z Z Z (xa (.str r31.1) Z (pu_extract Z (tm Z) (nb Z) Z) (xa (.i r31.2) Z (pu_extract Z (tm Z) (nb Z) Z) (xm Z Z Z (xm Z Z Z (xe (xr (xc Z (op_loadN (i := 1) Z isAgg24 sizeOf24 (tm Z) Z (nb Z) Z ?_))))))))
  obtain ⟨r32, r32e, h⟩ := bind_some h
  refine xc Z (op_call (vs := [.agg [.sl .no 1 (a.Cmds.map av_List_List_UInt8)]]) (H := []) Z call11 ⟨(tm Z), trivial⟩ (List.Perm.refl _) (mewsref15.Put.ok r32e) ?_)
  rintro _ _ ⟨rfl, rfl⟩
  refine xm Z Z Z (xa (.str r32.1) Z (pu_extract Z (tm Z) (nb Z) Z) (xa (.i r32.2) Z (pu_extract Z (tm Z) (nb Z) Z) (xm Z Z Z (xm Z Z Z (xe ?_)))))
  obtain ⟨s41, s41e, h42⟩ := bind_some h
  refine aw_meet (ν := Unit) (fun v => [(4, .bool s41)]) (fun v => []) ?_ ?_
  ·have h := s41e
   rcases Bool.eq_false_or_eq_true (decide (r31.1 = r32.1)) with hb44 | hb44
   ·replace h := ite_t (dec_t hb44) h
    rcases Bool.eq_false_or_eq_true (decide (r31.2 = r32.2)) with hb45 | hb45
    ·replace h := ite_t (dec_t hb45) h
     obtain ⟨r46, r46e, h⟩ := bind_some h
     obtain ⟨r47, r47e, h⟩ := bind_some h
     rcases Bool.eq_false_or_eq_true (r46 == r47) with hb48 | hb48
     ·replace h := ite_t hb48 h
      obtain ⟨r49, r49e, h⟩ := bind_some h
      rcases Bool.eq_false_or_eq_true r49 with hb50 | hb50
      ·replace h := ite_t hb50 h
       obtain ⟨r51, r51e, h⟩ := bind_some h
       refine aw_planR (by decide +kernel) [[], [], [], [], [], [], [], [], [], [(1, 0, false)], [(0, 0, false)], [], [(1, 0, false)], [(0, 0, false)], [], [], [], [], [(1, 0, false)], [(1, 0, false)], [], [], [], [], [], []] [[], []] [[[(p28, .cells [.sl .no 1 (b.Cmds.map av_List_List_UInt8)])]], [[(p27, .cells [.sl .no 1 (a.Cmds.map av_List_List_UInt8)])]]] [.str r31.1, .str r32.1, .bool (decide (r31.1 = r32.1)), .bool true, .i r31.2, .i r32.2, .bool (decide (r31.2 = r32.2)), .bool (decide (r31.2 = r32.2)), .bool true, .agg [.sl .no 1 (a.Cmds.map av_List_List_UInt8)], .agg [.sl .no 1 (b.Cmds.map av_List_List_UInt8)], .bool r46, .agg [.sl .no 1 (a.Cmds.map av_List_List_UInt8)], .agg [.sl .no 1 (b.Cmds.map av_List_List_UInt8)], .bool r47, .bool (r46 == r47), .bool (r46 == r47), .bool true, .agg [.sl .no 1 (a.Cmds.map av_List_List_UInt8)], .agg [.sl .no 1 (a.Cmds.map av_List_List_UInt8)], .bool r49, .bool r49, .bool true, .bool r51, .bool r51, .bool r51] (by decide +kernel) Z Z ?_ ?_
       ·exact ⟨ym Z Z Z, ym Z Z Z, yp Z (pu_str (v := .bool (decide (r31.1 = r32.1))) Z Z (tm Z) (tm Z) Z), AStepG.cast (ym Z Z Z) (congrArg AV.bool hb44), yq Z Z (pu_move Z (tm Z)), yq Z Z (pu_move Z (tm Z)), yq Z Z (pu_int (v := .bool (decide (r31.2 = r32.2))) Z Z (tm Z) (tm Z) Z), yp Z (pu_pick (b := true) Z (tm Z) (fun _ => (tm Z)) (fun h => nomatch h)), AStepG.cast (ym Z Z Z) (congrArg AV.bool hb45), yg Z Z (op_loadN (i := 0) Z isAgg24 sizeOf24 (tm Z) Z (nb Z) Z ⟨Z, Z⟩), yg Z Z (op_loadN (i := 0) Z isAgg24 sizeOf24 (tm Z) Z (nb Z) Z ⟨Z, Z⟩), yg Z Z (op_call (vs := [.agg [.sl .no 1 (a.Cmds.map av_List_List_UInt8)], .agg [.sl .no 1 (b.Cmds.map av_List_List_UInt8)]]) (H := []) Z call12 ⟨(tm Z), (tm Z), trivial⟩ (R := []) (List.Perm.refl _) (unit.Same.ok r46e) (by rintro _ _ ⟨rfl, rfl⟩; exact ⟨Z, Z⟩)), yg Z Z (op_loadN (i := 0) Z isAgg24 sizeOf24 (tm Z) Z (nb Z) Z ⟨Z, Z⟩), yg Z Z (op_loadN (i := 0) Z isAgg24 sizeOf24 (tm Z) Z (nb Z) Z ⟨Z, Z⟩), yg Z Z (op_call (vs := [.agg [.sl .no 1 (a.Cmds.map av_List_List_UInt8)], .agg [.sl .no 1 (b.Cmds.map av_List_List_UInt8)]]) (H := []) Z call13 ⟨(tm Z), (tm Z), trivial⟩ (R := []) (List.Perm.refl _) (mewsref15.Same.ok r47e) (by rintro _ _ ⟨rfl, rfl⟩; exact ⟨Z, Z⟩)), yq Z Z (pu_boolEq Z underlying4 (tm Z) (tm Z)), yp Z (pu_pick (b := true) Z (tm Z) (fun _ => (tm Z)) (fun h => nomatch h)), AStepG.cast (ym Z Z Z) (congrArg AV.bool hb48), yg Z Z (op_loadN (i := 0) Z isAgg24 sizeOf24 (tm Z) Z (nb Z) Z ⟨Z, Z⟩), yg Z Z (op_loadN (i := 0) Z isAgg24 sizeOf24 (tm Z) Z (nb Z) Z ⟨Z, Z⟩), yg Z Z (op_call (vs := [.agg [.sl .no 1 (a.Cmds.map av_List_List_UInt8)], .agg [.sl .no 1 (a.Cmds.map av_List_List_UInt8)]]) (H := []) Z call12 ⟨(tm Z), (tm Z), trivial⟩ (R := []) (List.Perm.refl _) (unit.Same.ok r49e) (by rintro _ _ ⟨rfl, rfl⟩; exact ⟨Z, Z⟩)), yp Z (pu_pick (b := true) Z (tm Z) (fun _ => (tm Z)) (fun h => nomatch h)), AStepG.cast (ym Z Z Z) (congrArg AV.bool hb50), yg Z Z (op_call (vs := []) (H := []) Z call9 trivial (R := []) (List.Perm.refl _) (mewslaw15.alive.ok r51e) (by rintro _ _ ⟨rfl, rfl⟩; exact ⟨Z, Z⟩)), yp Z (pu_pick (b := true) Z (tm Z) (fun _ => (tm Z)) (fun h => nomatch h)), ym Z Z Z, trivial⟩
       obtain rfl := some_of h
       exact ⟨(), Weak.mkL [] (by decide) trivial ⟨tm Z, trivial⟩⟩
      ·replace h := ite_fb hb50 h
       refine aw_planR (by decide +kernel) [[], [], [], [], [], [], [], [], [], [(1, 0, false)], [(0, 0, false)], [], [(1, 0, false)], [(0, 0, false)], [], [], [], [], [(1, 0, false)], [(1, 0, false)], [], [], [], [], [], []] [[], []] [[[(p28, .cells [.sl .no 1 (b.Cmds.map av_List_List_UInt8)])]], [[(p27, .cells [.sl .no 1 (a.Cmds.map av_List_List_UInt8)])]]] [.str r31.1, .str r32.1, .bool (decide (r31.1 = r32.1)), .bool true, .i r31.2, .i r32.2, .bool (decide (r31.2 = r32.2)), .bool (decide (r31.2 = r32.2)), .bool true, .agg [.sl .no 1 (a.Cmds.map av_List_List_UInt8)], .agg [.sl .no 1 (b.Cmds.map av_List_List_UInt8)], .bool r46, .agg [.sl .no 1 (a.Cmds.map av_List_List_UInt8)], .agg [.sl .no 1 (b.Cmds.map av_List_List_UInt8)], .bool r47, .bool (r46 == r47), .bool (r46 == r47), .bool true, .agg [.sl .no 1 (a.Cmds.map av_List_List_UInt8)], .agg [.sl .no 1 (a.Cmds.map av_List_List_UInt8)], .bool r49, .bool r49, .bool false, .lit undef, .bool false, .bool false] (by decide +kernel) Z Z ?_ ?_
       ·exact ⟨ym Z Z Z, ym Z Z Z, yp Z (pu_str (v := .bool (decide (r31.1 = r32.1))) Z Z (tm Z) (tm Z) Z), AStepG.cast (ym Z Z Z) (congrArg AV.bool hb44), yq Z Z (pu_move Z (tm Z)), yq Z Z (pu_move Z (tm Z)), yq Z Z (pu_int (v := .bool (decide (r31.2 = r32.2))) Z Z (tm Z) (tm Z) Z), yp Z (pu_pick (b := true) Z (tm Z) (fun _ => (tm Z)) (fun h => nomatch h)), AStepG.cast (ym Z Z Z) (congrArg AV.bool hb45), yg Z Z (op_loadN (i := 0) Z isAgg24 sizeOf24 (tm Z) Z (nb Z) Z ⟨Z, Z⟩), yg Z Z (op_loadN (i := 0) Z isAgg24 sizeOf24 (tm Z) Z (nb Z) Z ⟨Z, Z⟩), yg Z Z (op_call (vs := [.agg [.sl .no 1 (a.Cmds.map av_List_List_UInt8)], .agg [.sl .no 1 (b.Cmds.map av_List_List_UInt8)]]) (H := []) Z call12 ⟨(tm Z), (tm Z), trivial⟩ (R := []) (List.Perm.refl _) (unit.Same.ok r46e) (by rintro _ _ ⟨rfl, rfl⟩; exact ⟨Z, Z⟩)), yg Z Z (op_loadN (i := 0) Z isAgg24 sizeOf24 (tm Z) Z (nb Z) Z ⟨Z, Z⟩), yg Z Z (op_loadN (i := 0) Z isAgg24 sizeOf24 (tm Z) Z (nb Z) Z ⟨Z, Z⟩), yg Z Z (op_call (vs := [.agg [.sl .no 1 (a.Cmds.map av_List_List_UInt8)], .agg [.sl .no 1 (b.Cmds.map av_List_List_UInt8)]]) (H := []) Z call13 ⟨(tm Z), (tm Z), trivial⟩ (R := []) (List.Perm.refl _) (mewsref15.Same.ok r47e) (by rintro _ _ ⟨rfl, rfl⟩; exact ⟨Z, Z⟩)), yq Z Z (pu_boolEq Z underlying4 (tm Z) (tm Z)), yp Z (pu_pick (b := true) Z (tm Z) (fun _ => (tm Z)) (fun h => nomatch h)), AStepG.cast (ym Z Z Z) (congrArg AV.bool hb48), yg Z Z (op_loadN (i := 0) Z isAgg24 sizeOf24 (tm Z) Z (nb Z) Z ⟨Z, Z⟩), yg Z Z (op_loadN (i := 0) Z isAgg24 sizeOf24 (tm Z) Z (nb Z) Z ⟨Z, Z⟩), yg Z Z (op_call (vs := [.agg [.sl .no 1 (a.Cmds.map av_List_List_UInt8)], .agg [.sl .no 1 (a.Cmds.map av_List_List_UInt8)]]) (H := []) Z call12 ⟨(tm Z), (tm Z), trivial⟩ (R := []) (List.Perm.refl _) (unit.Same.ok r49e) (by rintro _ _ ⟨rfl, rfl⟩; exact ⟨Z, Z⟩)), yp Z (pu_pick (b := true) Z (tm Z) (fun _ => (tm Z)) (fun h => nomatch h)), AStepG.cast (ym Z Z Z) (congrArg AV.bool hb50), yx Z Z Z, yp Z (pu_pick (b := false) Z (tm Z) (fun h => nomatch h) (fun _ => (AEv.bool _))), ym Z Z Z, trivial⟩
       obtain rfl := some_of h
       exact ⟨(), Weak.mkL [] (by decide) trivial ⟨tm Z, trivial⟩⟩
     ·replace h := ite_fb hb48 h
      refine aw_planR (by decide +kernel) [[], [], [], [], [], [], [], [], [], [(1, 0, false)], [(0, 0, false)], [], [(1, 0, false)], [(0, 0, false)], [], [], [], [], [], [], [], [], [], [], [], []] [[], []] [[[(p28, .cells [.sl .no 1 (b.Cmds.map av_List_List_UInt8)])]], [[(p27, .cells [.sl .no 1 (a.Cmds.map av_List_List_UInt8)])]]] [.str r31.1, .str r32.1, .bool (decide (r31.1 = r32.1)), .bool true, .i r31.2, .i r32.2, .bool (decide (r31.2 = r32.2)), .bool (decide (r31.2 = r32.2)), .bool true, .agg [.sl .no 1 (a.Cmds.map av_List_List_UInt8)], .agg [.sl .no 1 (b.Cmds.map av_List_List_UInt8)], .bool r46, .agg [.sl .no 1 (a.Cmds.map av_List_List_UInt8)], .agg [.sl .no 1 (b.Cmds.map av_List_List_UInt8)], .bool r47, .bool (r46 == r47), .bool (r46 == r47), .bool false, .lit undef, .lit undef, .lit undef, .bool false, .bool false, .lit undef, .bool false, .bool false] (by decide +kernel) Z Z ?_ ?_
      ·exact ⟨ym Z Z Z, ym Z Z Z, yp Z (pu_str (v := .bool (decide (r31.1 = r32.1))) Z Z (tm Z) (tm Z) Z), AStepG.cast (ym Z Z Z) (congrArg AV.bool hb44), yq Z Z (pu_move Z (tm Z)), yq Z Z (pu_move Z (tm Z)), yq Z Z (pu_int (v := .bool (decide (r31.2 = r32.2))) Z Z (tm Z) (tm Z) Z), yp Z (pu_pick (b := true) Z (tm Z) (fun _ => (tm Z)) (fun h => nomatch h)), AStepG.cast (ym Z Z Z) (congrArg AV.bool hb45), yg Z Z (op_loadN (i := 0) Z isAgg24 sizeOf24 (tm Z) Z (nb Z) Z ⟨Z, Z⟩), yg Z Z (op_loadN (i := 0) Z isAgg24 sizeOf24 (tm Z) Z (nb Z) Z ⟨Z, Z⟩), yg Z Z (op_call (vs := [.agg [.sl .no 1 (a.Cmds.map av_List_List_UInt8)], .agg [.sl .no 1 (b.Cmds.map av_List_List_UInt8)]]) (H := []) Z call12 ⟨(tm Z), (tm Z), trivial⟩ (R := []) (List.Perm.refl _) (unit.Same.ok r46e) (by rintro _ _ ⟨rfl, rfl⟩; exact ⟨Z, Z⟩)), yg Z Z (op_loadN (i := 0) Z isAgg24 sizeOf24 (tm Z) Z (nb Z) Z ⟨Z, Z⟩), yg Z Z (op_loadN (i := 0) Z isAgg24 sizeOf24 (tm Z) Z (nb Z) Z ⟨Z, Z⟩), yg Z Z (op_call (vs := [.agg [.sl .no 1 (a.Cmds.map av_List_List_UInt8)], .agg [.sl .no 1 (b.Cmds.map av_List_List_UInt8)]]) (H := []) Z call13 ⟨(tm Z), (tm Z), trivial⟩ (R := []) (List.Perm.refl _) (mewsref15.Same.ok r47e) (by rintro _ _ ⟨rfl, rfl⟩; exact ⟨Z, Z⟩)), yq Z Z (pu_boolEq Z underlying4 (tm Z) (tm Z)), yp Z (pu_pick (b := true) Z (tm Z) (fun _ => (tm Z)) (fun h => nomatch h)), AStepG.cast (ym Z Z Z) (congrArg AV.bool hb48), yx Z Z Z, yx Z Z Z, yx Z Z Z, yp Z (pu_pick (b := false) Z (tm Z) (fun h => nomatch h) (fun _ => (AEv.bool _))), ym Z Z Z, yx Z Z Z, yp Z (pu_pick (b := false) Z (tm Z) (fun h => nomatch h) (fun _ => (AEv.bool _))), ym Z Z Z, trivial⟩
      obtain rfl := some_of h
      exact ⟨(), Weak.mkL [] (by decide) trivial ⟨tm Z, trivial⟩⟩
    ·replace h := ite_f (dec_f hb45) h
     refine aw_planR (by decide +kernel) [[], [], [], [], [], [], [], [], [], [], [], [], [], [], [], [], [], [], [], [], [], [], [], [], [], []] [[], []] [[[(p28, .cells [.sl .no 1 (b.Cmds.map av_List_List_UInt8)])]], [[(p27, .cells [.sl .no 1 (a.Cmds.map av_List_List_UInt8)])]]] [.str r31.1, .str r32.1, .bool (decide (r31.1 = r32.1)), .bool true, .i r31.2, .i r32.2, .bool (decide (r31.2 = r32.2)), .bool (decide (r31.2 = r32.2)), .bool false, .lit undef, .lit undef, .lit undef, .lit undef, .lit undef, .lit undef, .lit undef, .bool false, .bool false, .lit undef, .lit undef, .lit undef, .bool false, .bool false, .lit undef, .bool false, .bool false] (by decide +kernel) Z Z ?_ ?_
     ·exact ⟨ym Z Z Z, ym Z Z Z, yp Z (pu_str (v := .bool (decide (r31.1 = r32.1))) Z Z (tm Z) (tm Z) Z), AStepG.cast (ym Z Z Z) (congrArg AV.bool hb44), yq Z Z (pu_move Z (tm Z)), yq Z Z (pu_move Z (tm Z)), yq Z Z (pu_int (v := .bool (decide (r31.2 = r32.2))) Z Z (tm Z) (tm Z) Z), yp Z (pu_pick (b := true) Z (tm Z) (fun _ => (tm Z)) (fun h => nomatch h)), AStepG.cast (ym Z Z Z) (congrArg AV.bool hb45), yx Z Z Z, yx Z Z Z, yx Z Z Z, yx Z Z Z, yx Z Z Z, yx Z Z Z, yx Z Z Z, yp Z (pu_pick (b := false) Z (tm Z) (fun h => nomatch h) (fun _ => (AEv.bool _))), ym Z Z Z, yx Z Z Z, yx Z Z Z, yx Z Z Z, yp Z (pu_pick (b := false) Z (tm Z) (fun h => nomatch h) (fun _ => (AEv.bool _))), ym Z Z Z, yx Z Z Z, yp Z (pu_pick (b := false) Z (tm Z) (fun h => nomatch h) (fun _ => (AEv.bool _))), ym Z Z Z, trivial⟩
     obtain rfl := some_of h
     exact ⟨(), Weak.mkL [] (by decide) trivial ⟨tm Z, trivial⟩⟩
   ·replace h := ite_f (dec_f hb44) h
    refine aw_planR (by decide +kernel) [[], [], [], [], [], [], [], [], [], [], [], [], [], [], [], [], [], [], [], [], [], [], [], [], [], []] [[], []] [[[(p28, .cells [.sl .no 1 (b.Cmds.map av_List_List_UInt8)])]], [[(p27, .cells [.sl .no 1 (a.Cmds.map av_List_List_UInt8)])]]] [.str r31.1, .str r32.1, .bool (decide (r31.1 = r32.1)), .bool false, .lit undef, .lit undef, .lit undef, .bool false, .bool false, .lit undef, .lit undef, .lit undef, .lit undef, .lit undef, .lit undef, .lit undef, .bool false, .bool false, .lit undef, .lit undef, .lit undef, .bool false, .bool false, .lit undef, .bool false, .bool false] (by decide +kernel) Z Z ?_ ?_
    ·exact ⟨ym Z Z Z, ym Z Z Z, yp Z (pu_str (v := .bool (decide (r31.1 = r32.1))) Z Z (tm Z) (tm Z) Z), AStepG.cast (ym Z Z Z) (congrArg AV.bool hb44), yx Z Z Z, yx Z Z Z, yx Z Z Z, yp Z (pu_pick (b := false) Z (tm Z) (fun h => nomatch h) (fun _ => (AEv.bool _))), ym Z Z Z, yx Z Z Z, yx Z Z Z, yx Z Z Z, yx Z Z Z, yx Z Z Z, yx Z Z Z, yx Z Z Z, yp Z (pu_pick (b := false) Z (tm Z) (fun h => nomatch h) (fun _ => (AEv.bool _))), ym Z Z Z, yx Z Z Z, yx Z Z Z, yx Z Z Z, yp Z (pu_pick (b := false) Z (tm Z) (fun h => nomatch h) (fun _ => (AEv.bool _))), ym Z Z Z, yx Z Z Z, yp Z (pu_pick (b := false) Z (tm Z) (fun h => nomatch h) (fun _ => (AEv.bool _))), ym Z Z Z, trivial⟩
    obtain rfl := some_of h
    exact ⟨(), Weak.mkL [] (by decide) trivial ⟨tm Z, trivial⟩⟩
  ·intro _
   have h := h42
   refine aw_ret ?_
   obtain rfl := some_of h
   exact ⟨[.bool s41], _, [], ⟨(tm Z), trivial⟩, vr, Weak.mkL [] (by decide) trivial trivial, ⟨Z, Z⟩⟩

theorem mewsref05.between.ok {n_ : Int} {most : Int} {r : Int} (h : mewsref05.between n_ most = some r) : Go.Lift.Spec prog 59 [.i n_, .i most] [] (fun v H => v = .i r ∧ H = []) := by
 unfold mewsref05.between at h
 refine Go.Lift.Spec.of_body (rs := [.tmp 4]) func59 Z Z (nb Z) Z (xr (xa (.i 0) Z (pu_assign Z (AEv.int _ _)) (xe (aw_seq (xr (xm Z Z Z (xa (.bool (decide (n_ < 1))) Z (pu_int (v := .bool (decide (n_ < 1))) Z Z (tm Z) (AEv.int _ _) Z) ?_)))))))
 refine xe (aw_cond (b := decide (n_ < 1)) (tm Z) (fun hb4 => ?_) (fun hb4 => ?_))
 ·replace h := ite_t (dec_t hb4) h
  refine xr (xa (.i 1) Z (pu_assign Z (AEv.int _ _)) (xe (aw_ret ?_)))
  obtain rfl := some_of h
  exact ⟨[.i 1], _, [], ⟨(tm Z), trivial⟩, vr, Weak.mkL [] (by decide) trivial trivial, ⟨Z, Z⟩⟩
 ·replace h := ite_f (dec_f hb4) h
  refine aw_skip (aw_seq (xr (xm Z Z Z (xm Z Z Z (xa (.bool (decide (most < n_))) Z (pu_int (v := .bool (decide (most < n_))) Z Z (tm Z) (tm Z) Z) (xe (aw_cond (b := decide (most < n_)) (tm Z) (fun hb3 => ?_) (fun hb3 => ?_))))))))
  ·replace h := ite_t (dec_t hb3) h
   refine xr (xm Z Z Z (xm Z Z Z (xe (aw_ret ?_))))
   obtain rfl := some_of h
   exact ⟨[.i most], _, [], ⟨(tm Z), trivial⟩, vr, Weak.mkL [] (by decide) trivial trivial, ⟨Z, Z⟩⟩
  ·replace h := ite_f (dec_f hb3) h
   refine aw_skip (xr (xm Z Z Z (xm Z Z Z (xe (aw_ret ?_)))))
   obtain rfl := some_of h
   exact ⟨[.i n_], _, [], ⟨(tm Z), trivial⟩, vr, Weak.mkL [] (by decide) trivial trivial, ⟨Z, Z⟩⟩

theorem mewsref05.Limits.ok {l : api.Limits} {r : api.Limits} (h : mewsref05.Limits l = some r) : Go.Lift.Spec prog 45 [.agg [.i l.Args, .i l.Bulk, .i l.Line]] [] (fun v H => v = .agg [.i r.Args, .i r.Bulk, .i r.Line] ∧ H = []) := by
 unfold mewsref05.Limits at h
 refine Go.Lift.Spec.of_body (rs := [.cell 2 67]) func45 Z Z (nb Z) Z (xr (xc Z (op_box (cs := [.i l.Args, .i l.Bulk, .i l.Line]) (v := .agg [.i l.Args, .i l.Bulk, .i l.Line]) Z (tm Z) Z Z ?_)))
 intro p6
 refine xc Z (op_alloc (cs := [.i 0, .i 0, .i 0]) (v := .agg [.i 0, .i 0, .i 0]) Z zeroValue67 Z Z Z ?_)
 intro p7
 refine xe (aw_seq ?_)
 obtain ⟨r8, r8e, h⟩ := bind_some h
 obtain ⟨r9, r9e, h⟩ := bind_some h
 obtain ⟨r10, r10e, h⟩ := bind_some h
 refine aw_planR (by decide +kernel) [[], [(1, 0, false)], [], [], [(1, 0, false)], [], [], [(1, 0, false)], [], [], [(0, 0, true)]] [[10], []] [[[(p7, .cells [.i 0, .i 0, .i 0])], [(p7, .cells [.i r8, .i r9, .i r10])]], [[(p6, .cells [.i l.Args, .i l.Bulk, .i l.Line])]]] [.ptr p6 0, .i l.Args, .i r8, .ptr p6 1, .i l.Bulk, .i r9, .ptr p6 2, .i l.Line, .i r10, .agg [.i r8, .i r9, .i r10], .un] (by decide +kernel) Z Z ?_ ?_
 ·exact ⟨yp Z (fa Z underlying67 Z sizeOf3 Z Z Z), stepg_plain Z (op_load1 (i := 0) Z isAgg3 (tm Z) Z Z ⟨Z, Z⟩), stepg_plain Z (op_call (vs := [.i l.Args, .i 65536]) (H := []) Z call59 ⟨(tm Z), (AEv.int _ _), trivial⟩ (R := []) (List.Perm.refl _) (mewsref05.between.ok r8e) (by rintro _ _ ⟨rfl, rfl⟩; exact ⟨Z, Z⟩)), yp Z (fa Z underlying67 Z sizeOf3 Z Z Z), stepg_plain Z (op_load1 (i := 0) Z isAgg3 (tm Z) Z Z ⟨Z, Z⟩), stepg_plain Z (op_call (vs := [.i l.Bulk, .i 1048576]) (H := []) Z call59 ⟨(tm Z), (AEv.int _ _), trivial⟩ (R := []) (List.Perm.refl _) (mewsref05.between.ok r9e) (by rintro _ _ ⟨rfl, rfl⟩; exact ⟨Z, Z⟩)), yp Z (fa Z underlying67 Z sizeOf3 Z Z Z), stepg_plain Z (op_load1 (i := 0) Z isAgg3 (tm Z) Z Z ⟨Z, Z⟩), stepg_plain Z (op_call (vs := [.i l.Line, .i 65536]) (H := []) Z call59 ⟨(tm Z), (AEv.int _ _), trivial⟩ (R := []) (List.Perm.refl _) (mewsref05.between.ok r10e) (by rintro _ _ ⟨rfl, rfl⟩; exact ⟨Z, Z⟩)), yp Z (pu_build (zs := [.i 0, .i 0, .i 0]) (szs := [1, 1, 1]) (aparts := [(0, .i r8), (1, .i r9), (2, .i r10)]) (cs := [.i r8, .i r9, .i r10]) Z underlying67 zeroValue67 Z ⟨sizeOf3, sizeOf3, sizeOf3, trivial⟩ ⟨Z, (tm Z), ⟨Z, (tm Z), ⟨Z, (tm Z), trivial⟩⟩⟩ Z), stepg_plain Z (op_store (i := 0) (cs' := [.i r8, .i r9, .i r10]) Z sizeOf67 (tm Z) (v := .agg [.i r8, .i r9, .i r10]) (tm Z) Z Z Z (nb Z) Z ⟨Z, Z⟩), trivial⟩
 refine aw_ret ?_
 obtain rfl := some_of h
 exact ⟨[.agg [.i r8, .i r9, .i r10]], _, [], ⟨(CellOk.agg 0 (tm Z) Z isAgg67 sizeOf67 (nb Z) Z), trivial⟩, vr, Weak.mkL [] (by decide) trivial trivial, ⟨Z, Z⟩⟩

theorem mewsref01.Parse.ok {s_ : List UInt8} {r : Int × Bool} (h : mewsref01.Parse s_ = some r) : Go.Lift.Spec prog 72 [.str s_] [] (fun v H => v = .tup [.i r.1, .bool r.2] ∧ H = []) := by
 unfold mewsref01.Parse at h
 refine Go.Lift.Spec.of_body (rs := [.tmp 2, .tmp 3]) func72 Z Z (nb Z) Z (xr (xa (.i 0) Z (pu_assign Z (AEv.int _ _)) (xa (.bool false) Z (pu_assign Z (AEv.bool _)) (xe ?_))))
 obtain ⟨s309, s309e, h310⟩ := bind_some h
 refine aw_meet (ν := Unit) (fun v => [(0, .str s_), (4, .bool s309)]) (fun v => []) ?_ ?_
 ·have h := s309e
  refine aw_region (xm Z Z Z (xa (.i (s_.length : Int)) Z (pu_strLen Z underlying9 (tm Z)) (xa (.bool (decide (0 < (s_.length : Int)))) Z (pu_int (v := .bool (decide (0 < (s_.length : Int)))) Z Z (tm Z) (AEv.int _ _) Z) (xm Z Z Z ?_))))
  rcases Bool.eq_false_or_eq_true (decide (0 < (s_.length : Int))) with hb312 | hb312
  ·replace h := ite_t (dec_t hb312) h
   refine aops_known 11 Z hb312 (xq Z Z Z Z ?_)
   obtain ⟨c313, h⟩ := need_of h
   refine xp (.int .u8 (bix s_ 0)) Z Z (pu_strIdxM Z underlying9 (tm Z) (AEv.int _ _) c313) (xp (.bool (decide ((bix s_ 0) = 45))) Z Z (pu_int (v := .bool (decide ((bix s_ 0) = 45))) Z Z (tm Z) (AEv.int _ _) Z) (xa (.bool (decide ((bix s_ 0) = 45))) Z (pu_pick (b := true) Z (tm Z) (fun _ => (tm Z)) (fun h => nomatch h)) (xm Z Z Z (xe ?_))))
   obtain rfl := some_of h
   exact ⟨(), Weak.mkL [] (by decide) trivial ⟨tm Z, (AEv.le (tm Z) vr), trivial⟩⟩
  ·replace h := ite_f (dec_f hb312) h
   refine aops_known 11 Z hb312 (xn Z Z Z (xn Z Z Z (xn Z Z Z (xa (.bool false) Z (pu_pick (b := false) Z (tm Z) (fun h => nomatch h) (fun _ => (AEv.bool _))) (xm Z Z Z (xe ?_))))))
   obtain rfl := some_of h
   exact ⟨(), Weak.mkL [] (by decide) trivial ⟨tm Z, tm Z, trivial⟩⟩
 ·intro _
  have h := h310
  refine xr (xa (.i 0) Z (pu_assign Z (AEv.int _ _)) (xe ?_))
  obtain ⟨s612, s612e, h456⟩ := bind_some h
  refine aw_join (σ := Int) (ν := Unit) (fun u v => [(0, .str s_), (4, .bool s309), (5, .i u)]) (fun u v => []) (fun u => s612 = .inl u) ?_ ?_
  ·intro s455
   intro _
   rintro rfl
   have h := onSum_inl h456
   refine aw_seq ?_
   obtain ⟨s600, s600e, h601⟩ := letO_of h
   refine aw_meet (ν := Unit) (fun v => [(0, .str s_), (4, .bool s309), (5, .i s455), (56, .bool s600)]) (fun v => []) ?_ ?_
   ·have h := s600e.symm
    refine aw_region (xm Z Z Z (xa (.bool (!s309)) Z (pu_not Z (tm Z)) (xm Z Z Z ?_)))
    rcases Bool.eq_false_or_eq_true (!s309) with hb603 | hb603
    ·replace h := ite_t hb603 h
     refine aops_known 53 Z hb603 (xq Z Z Z Z (xp (.bool (decide (s455 = (-9223372036854775808)))) Z Z (pu_int (v := .bool (decide (s455 = (-9223372036854775808)))) Z Z (tm Z) (AEv.int _ _) Z) (xa (.bool (decide (s455 = (-9223372036854775808)))) Z (pu_pick (b := true) Z (tm Z) (fun _ => (tm Z)) (fun h => nomatch h)) (xe ?_))))
     subst h
     exact ⟨(), Weak.mkL [] (by decide) trivial ⟨tm Z, tm Z, tm Z, (AEv.le (tm Z) vr), trivial⟩⟩
    ·replace h := ite_fb hb603 h
     refine aops_known 53 Z hb603 (xn Z Z Z (xn Z Z Z (xa (.bool false) Z (pu_pick (b := false) Z (tm Z) (fun h => nomatch h) (fun _ => (AEv.bool _))) (xe ?_))))
     subst h
     exact ⟨(), Weak.mkL [] (by decide) trivial ⟨tm Z, tm Z, tm Z, tm Z, trivial⟩⟩
   ·intro _
    have h := h601
    refine aw_cond (b := s600) (tm Z) (fun hb611 => ?_) (fun hb611 => ?_)
    ·replace h := ite_t hb611 h
     refine xr (xa (.i 0) Z (pu_assign Z (AEv.int _ _)) (xa (.bool false) Z (pu_assign Z (AEv.bool _)) (xe (aw_ret ?_))))
     obtain rfl := some_of h
     exact ⟨[.i 0, .bool false], _, [], ⟨(tm Z), (tm Z), trivial⟩, vr, Weak.mkL [] (by decide) trivial trivial, ⟨Z, Z⟩⟩
    ·replace h := ite_fb hb611 h
     refine aw_skip ?_
     obtain ⟨s605, s605e, h606⟩ := letO_of h
     refine aw_meet (ν := Unit) (fun v => [(0, .str s_), (5, .i s605)]) (fun v => []) ?_ ?_
     ·have h := s605e.symm
      refine xr (xm Z Z Z (xa (.bool (!s309)) Z (pu_not Z (tm Z)) (xe (aw_cond (b := (!s309)) (tm Z) (fun hb608 => ?_) (fun hb608 => ?_)))))
      ·replace h := ite_t hb608 h
       refine aw_region (xm Z Z Z (xa (.i (IntKind.wrap .i64 (0 - s455))) Z (pu_neg Z (tm Z)) (xm Z Z Z (xe ?_))))
       subst h
       exact ⟨(), Weak.mkL [] (by decide) trivial ⟨tm Z, (AEv.le (tm Z) vr), trivial⟩⟩
      ·replace h := ite_fb hb608 h
       refine aw_skip ?_
       subst h
       exact ⟨(), Weak.mkL [] (by decide) trivial ⟨tm Z, tm Z, trivial⟩⟩
     ·intro _
      have h := h606
      refine aw_seq (xr (xm Z Z Z ?_))
      obtain ⟨r609, r609e, h⟩ := bind_some h
      refine xc Z (op_call (vs := [.i s605]) (H := []) Z call53 ⟨(tm Z), trivial⟩ (List.Perm.refl _) (mewsref01.Text.ok r609e) ?_)
      rintro _ _ ⟨rfl, rfl⟩
      refine xm Z Z Z (xa (.bool (!decide (r609 = s_))) Z (pu_str (v := .bool (!decide (r609 = s_))) Z Z (tm Z) (tm Z) Z) (xe (aw_cond (b := (!decide (r609 = s_))) (tm Z) (fun hb610 => ?_) (fun hb610 => ?_))))
      ·replace h := ite_f (ndec_t hb610) h
       refine xr (xa (.i 0) Z (pu_assign Z (AEv.int _ _)) (xa (.bool false) Z (pu_assign Z (AEv.bool _)) (xe (aw_ret ?_))))
       obtain rfl := some_of h
       exact ⟨[.i 0, .bool false], _, [], ⟨(tm Z), (tm Z), trivial⟩, vr, Weak.mkL [] (by decide) trivial trivial, ⟨Z, Z⟩⟩
      ·replace h := ite_t (ndec_f hb610) h
       refine aw_skip (xr (xm Z Z Z (xm Z Z Z (xa (.bool true) Z (pu_assign Z (AEv.bool _)) (xe (aw_ret ?_))))))
       obtain rfl := some_of h
       exact ⟨[.i s605, .bool true], _, [], ⟨(tm Z), (tm Z), trivial⟩, vr, Weak.mkL [] (by decide) trivial trivial, ⟨Z, Z⟩⟩
  ·have h := s612e
   refine xr (xa (.i 0) Z (pu_assign Z (AEv.int _ _)) (xe (aw_block (aw_while (σ := mewsref01.Parse.S0) (ν := Unit) (mewsref01.Parse.body0 s_ s309) (fun s550 v => [(0, .str s_), (4, .bool s309), (5, .i s550.n), (6, .i s550.i)]) (fun s550 v => []) ⟨0, 0⟩ () _ h (Weak.mkL [] (by decide) trivial ⟨tm Z, tm Z, tm Z, tm Z, trivial⟩) ?_))))
   rintro s550 _ x552 h hx551
   unfold mewsref01.Parse.body0 at h
   refine aw_seq (xr (xm Z Z Z (xm Z Z Z (xa (.i (s_.length : Int)) Z (pu_strLen Z underlying9 (tm Z)) (xa (.bool (decide (s550.i < (s_.length : Int)))) Z (pu_int (v := .bool (decide (s550.i < (s_.length : Int)))) Z Z (tm Z) (tm Z) Z) (xe (aw_cond (b := decide (s550.i < (s_.length : Int))) (tm Z) (fun hb598 => ?_) (fun hb598 => ?_))))))))
   ·replace h := ite_t (dec_t hb598) h
    refine aw_skip ?_
    obtain ⟨s597, s597e, h575⟩ := bind_some h
    refine aw_join (σ := Int) (ν := Unit) (fun u v => [(0, .str s_), (4, .bool s309), (5, .i u), (6, .i s550.i)]) (fun u v => []) (fun u => s597 = .inl u) ?_ ?_
    ·intro s574
     intro _
     rintro rfl
     have h := onSum_inl h575
     refine aw_region (xm Z Z Z (xa (.i (IntKind.wrap .i64 (s550.i + 1))) Z (pu_int (v := .i (IntKind.wrap .i64 (s550.i + 1))) Z Z (tm Z) (AEv.int _ _) Z) (xm Z Z Z (xe ?_))))
     obtain rfl := some_of h
     exact ⟨_, (), Z, Weak.mkL [] (by decide) trivial ⟨tm Z, tm Z, tm Z, (AEv.le (tm Z) vr), trivial⟩⟩
    ·have h := s597e
     refine aw_block (aw_seq ?_)
     obtain ⟨s578, s578e, h579⟩ := letO_of h
     refine aw_meet (ν := Unit) (fun v => [(0, .str s_), (4, .bool s309), (5, .i s550.n), (6, .i s550.i), (26, .bool s578)]) (fun v => []) ?_ ?_
     ·have h := s578e.symm
      refine aw_region (xm Z Z Z (xa (.bool (decide (s550.i = 0))) Z (pu_int (v := .bool (decide (s550.i = 0))) Z Z (tm Z) (AEv.int _ _) Z) (xm Z Z Z ?_)))
      rcases Bool.eq_false_or_eq_true (decide (s550.i = 0)) with hb581 | hb581
      ·replace h := ite_t (dec_t hb581) h
       refine aops_known 24 Z hb581 (xq Z Z Z Z (xa (.bool s309) Z (pu_pick (b := true) Z (tm Z) (fun _ => (tm Z)) (fun h => nomatch h)) (xe ?_)))
       subst h
       exact ⟨(), Weak.mkL [] (by decide) trivial ⟨tm Z, tm Z, tm Z, tm Z, tm Z, trivial⟩⟩
      ·replace h := ite_f (dec_f hb581) h
       refine aops_known 24 Z hb581 (xn Z Z Z (xa (.bool false) Z (pu_pick (b := false) Z (tm Z) (fun h => nomatch h) (fun _ => (AEv.bool _))) (xe ?_)))
       subst h
       exact ⟨(), Weak.mkL [] (by decide) trivial ⟨tm Z, tm Z, tm Z, tm Z, tm Z, trivial⟩⟩
     ·intro _
      have h := h579
      refine aw_cond (b := s578) (tm Z) (fun hb596 => ?_) (fun hb596 => ?_)
      ·replace h := ite_t hb596 h
       refine aw_exit ?_
       exact ⟨s550.n, (), (some_of h).symm, Weak.mkL [] (by decide) trivial ⟨tm Z, tm Z, tm Z, tm Z, trivial⟩⟩
      ·replace h := ite_fb hb596 h
       refine aw_skip (aw_seq ?_)
       obtain ⟨s585, s585e, h586⟩ := bind_some h
       refine aw_meet (ν := Unit) (fun v => [(0, .str s_), (4, .bool s309), (5, .i s550.n), (6, .i s550.i), (36, .bool s585)]) (fun v => []) ?_ ?_
       ·have h := s585e
        refine aw_region (xm Z Z Z (xm Z Z Z ?_))
        obtain ⟨c588, h⟩ := need_of h
        refine xa (.int .u8 (bix s_ s550.i)) Z (pu_strIdxM Z underlying9 (tm Z) (tm Z) c588) (xa (.bool (decide ((bix s_ s550.i) < 48))) Z (pu_int (v := .bool (decide ((bix s_ s550.i) < 48))) Z Z (tm Z) (AEv.int _ _) Z) (xm Z Z Z ?_))
        rcases Bool.eq_false_or_eq_true (decide ((bix s_ s550.i) < 48)) with hb589 | hb589
        ·replace h := ite_t (dec_t hb589) h
         refine aops_known 31 Z hb589 (xn Z Z Z (xn Z Z Z (xn Z Z Z (xn Z Z Z (xa (.bool true) Z (pu_pick (b := true) Z (tm Z) (fun _ => (AEv.bool _)) (fun h => nomatch h)) (xe ?_))))))
         obtain rfl := some_of h
         exact ⟨(), Weak.mkL [] (by decide) trivial ⟨tm Z, tm Z, tm Z, tm Z, tm Z, trivial⟩⟩
        ·replace h := ite_f (dec_f hb589) h
         refine aops_known 31 Z hb589 (xq Z Z Z Z (xq Z Z Z Z ?_))
         obtain ⟨c590, h⟩ := need_of h
         refine xp (.int .u8 (bix s_ s550.i)) Z Z (pu_strIdxM Z underlying9 (tm Z) (tm Z) c590) (xp (.bool (decide (57 < (bix s_ s550.i)))) Z Z (pu_int (v := .bool (decide (57 < (bix s_ s550.i)))) Z Z (tm Z) (AEv.int _ _) Z) (xa (.bool (decide (57 < (bix s_ s550.i)))) Z (pu_pick (b := false) Z (tm Z) (fun h => nomatch h) (fun _ => (tm Z))) (xe ?_)))
         obtain rfl := some_of h
         exact ⟨(), Weak.mkL [] (by decide) trivial ⟨tm Z, tm Z, tm Z, tm Z, (AEv.le (tm Z) vr), trivial⟩⟩
       ·intro _
        have h := h586
        refine aw_cond (b := s585) (tm Z) (fun hb595 => ?_) (fun hb595 => ?_)
        ·replace h := ite_t hb595 h
         refine xr (xa (.i 0) Z (pu_assign Z (AEv.int _ _)) (xa (.bool false) Z (pu_assign Z (AEv.bool _)) (xe (aw_ret ?_))))
         obtain rfl := some_of h
         have h := onSum_inr h575
         obtain rfl := some_of h
         have h := congrArg some (hx551 _ rfl)
         obtain rfl := some_of h
         have h := onSum_inr h456
         obtain rfl := some_of h
         exact ⟨[.i 0, .bool false], _, [], ⟨(tm Z), (tm Z), trivial⟩, vr, Weak.mkL [] (by decide) trivial trivial, ⟨Z, Z⟩⟩
        ·replace h := ite_fb hb595 h
         refine aw_skip (xr (xm Z Z Z (xm Z Z Z ?_)))
         obtain ⟨c591, h⟩ := need_of h
         refine xa (.int .u8 (bix s_ s550.i)) Z (pu_strIdxM Z underlying9 (tm Z) (tm Z) c591) (xa (.int .u8 (IntKind.wrap .u8 ((bix s_ s550.i) - 48))) Z (pu_int (v := .int .u8 (IntKind.wrap .u8 ((bix s_ s550.i) - 48))) Z Z (tm Z) (AEv.int _ _) Z) (xa (.i (IntKind.wrap .i64 (IntKind.wrap .u8 ((bix s_ s550.i) - 48)))) Z (pu_conv Z underlying5 underlying2 (tm Z)) (xm Z Z Z (xe (aw_seq (xr (xm Z Z Z (xm Z Z Z ?_))))))))
         refine xa (.i (IntKind.wrap .i64 ((-9223372036854775808) + (IntKind.wrap .i64 (IntKind.wrap .u8 ((bix s_ s550.i) - 48)))))) Z (pu_int (v := .i (IntKind.wrap .i64 ((-9223372036854775808) + (IntKind.wrap .i64 (IntKind.wrap .u8 ((bix s_ s550.i) - 48)))))) Z Z (AEv.int _ _) (tm Z) Z) ?_
         obtain ⟨x592, x592e, h⟩ := letO_of h
         refine xa (.i x592) Z (APure.eq (pu_quo Z (tm Z) (AEv.int _ _) (by decide)) (congrArg (AV.int .i64) x592e.symm)) (xa (.bool (decide (s550.n < x592))) Z (pu_int (v := .bool (decide (s550.n < x592))) Z Z (tm Z) (tm Z) Z) (xe (aw_cond (b := decide (s550.n < x592)) (tm Z) (fun hb594 => ?_) (fun hb594 => ?_))))
         ·replace h := ite_t (dec_t hb594) h
          refine xr (xa (.i 0) Z (pu_assign Z (AEv.int _ _)) (xa (.bool false) Z (pu_assign Z (AEv.bool _)) (xe (aw_ret ?_))))
          obtain rfl := some_of h
          have h := onSum_inr h575
          obtain rfl := some_of h
          have h := congrArg some (hx551 _ rfl)
          obtain rfl := some_of h
          have h := onSum_inr h456
          obtain rfl := some_of h
          exact ⟨[.i 0, .bool false], _, [], ⟨(tm Z), (tm Z), trivial⟩, vr, Weak.mkL [] (by decide) trivial trivial, ⟨Z, Z⟩⟩
         ·replace h := ite_f (dec_f hb594) h
          refine aw_skip (aw_region (xm Z Z Z (xa (.i (IntKind.wrap .i64 (s550.n * 10))) Z (pu_int (v := .i (IntKind.wrap .i64 (s550.n * 10))) Z Z (tm Z) (AEv.int _ _) Z) (xm Z Z Z ?_))))
          obtain ⟨x593, x593e, h⟩ := letO_of h
          refine xa (.i x593) Z (APure.eq (pu_int (v := .i (IntKind.wrap .i64 ((IntKind.wrap .i64 (s550.n * 10)) - (IntKind.wrap .i64 (IntKind.wrap .u8 ((bix s_ s550.i) - 48)))))) Z Z (tm Z) (tm Z) Z) (congrArg (AV.int .i64) x593e.symm)) (xm Z Z Z (xe ?_))
          exact ⟨x593, (), (some_of h).symm, Weak.mkL [] (by decide) trivial ⟨tm Z, tm Z, tm Z, tm Z, trivial⟩⟩
   ·replace h := ite_f (dec_f hb598) h
    refine aw_exit ?_
    obtain rfl := some_of h
    have h := congrArg some (hx551 _ rfl)
    exact ⟨s550.n, (), (some_of h).symm, Weak.mkL [] (by decide) trivial ⟨tm Z, tm Z, tm Z, trivial⟩⟩

theorem mewsref05.first.ok {s_ : List UInt8} {mark : Int} {most : Int} {over : Int} {r : Int × Int × Int} (h : mewsref05.first s_ mark most over = some r) : Go.Lift.Spec prog 60 [.str s_, .int .u8 mark, .i most, .i over] [] (fun v H => v = .tup [.i r.1, .i r.2.1, .i r.2.2] ∧ H = []) := by
 unfold mewsref05.first at h
 refine Go.Lift.Spec.of_body (rs := [.tmp 8, .tmp 9, .tmp 10]) func60 Z Z (nb Z) Z (xr (xa (.i 0) Z (pu_assign Z (AEv.int _ _)) (xa (.i 0) Z (pu_assign Z (AEv.int _ _)) (xa (.i 0) Z (pu_assign Z (AEv.int _ _)) (xe (aw_seq (aw_seq (aw_region ?_))))))))
 refine xm Z Z Z (xa (.bool (decide (s_ = ([] : List UInt8)))) Z (pu_str (v := .bool (decide (s_ = ([] : List UInt8)))) Z Z (tm Z) (AEv.const Z) Z) (xe (aw_cond (b := decide (s_ = ([] : List UInt8))) (tm Z) (fun hb404 => ?_) (fun hb404 => ?_))))
 ·replace h := ite_t (dec_t hb404) h
  refine xr (xa (.i 0) Z (pu_assign Z (AEv.int _ _)) (xa (.i 0) Z (pu_assign Z (AEv.int _ _)) (xa (.i (-1)) Z (pu_assign Z (AEv.int _ _)) (xe (aw_ret ?_)))))
  obtain rfl := some_of h
  exact ⟨[.i 0, .i 0, .i (-1)], _, [], ⟨(tm Z), (tm Z), (tm Z), trivial⟩, vr, Weak.mkL [] (by decide) trivial trivial, ⟨Z, Z⟩⟩
 ·replace h := ite_f (dec_f hb404) h
  refine aw_skip (aw_seq (xr (xm Z Z Z ?_)))
  obtain ⟨c203, h⟩ := need_of h
  refine xa (.int .u8 (bix s_ 0)) Z (pu_strIdxM Z underlying9 (tm Z) (AEv.int _ _) c203) (xm Z Z Z (xa (.bool (!decide ((bix s_ 0) = mark))) Z (pu_int (v := .bool (!decide ((bix s_ 0) = mark))) Z Z (tm Z) (tm Z) Z) (xe (aw_cond (b := (!decide ((bix s_ 0) = mark))) (tm Z) (fun hb403 => ?_) (fun hb403 => ?_)))))
  ·replace h := ite_f (ndec_t hb403) h
   refine xr (xa (.i 0) Z (pu_assign Z (AEv.int _ _)) (xa (.i 0) Z (pu_assign Z (AEv.int _ _)) (xa (.i 5) Z (pu_assign Z (AEv.int _ _)) (xe (aw_ret ?_)))))
   obtain rfl := some_of h
   exact ⟨[.i 0, .i 0, .i 5], _, [], ⟨(tm Z), (tm Z), (tm Z), trivial⟩, vr, Weak.mkL [] (by decide) trivial trivial, ⟨Z, Z⟩⟩
  ·replace h := ite_t (ndec_f hb403) h
   refine aw_skip (xr (xa (.i 1) Z (pu_assign Z (AEv.int _ _)) (xe ?_)))
   obtain ⟨s402, s402e, h295⟩ := bind_some h
   refine aw_join (σ := Int) (ν := Unit) (fun u v => [(0, .str s_), (11, .i u)]) (fun u v => []) (fun u => s402 = .inl u) ?_ ?_
   ·intro s294
    intro _
    rintro rfl
    have h := onSum_inl h295
    refine xr (xm Z Z Z (xm Z Z Z ?_))
    obtain ⟨c387, h⟩ := need_of h
    refine xa (.str (sub s_ 1 s294)) Z (pu_strSliceM Z underlying9 (tm Z) ⟨_, (AEv.int _ _)⟩ ⟨_, (tm Z)⟩ c387) ?_
    obtain ⟨r388, r388e, h⟩ := bind_some h
    refine xc Z (op_call (vs := [.str (sub s_ 1 s294)]) (H := []) Z call72 ⟨(tm Z), trivial⟩ (List.Perm.refl _) (mewsref01.Parse.ok r388e) ?_)
    rintro _ _ ⟨rfl, rfl⟩
    refine xm Z Z Z (xa (.i r388.1) Z (pu_extract Z (tm Z) (nb Z) Z) (xa (.bool r388.2) Z (pu_extract Z (tm Z) (nb Z) Z) (xm Z Z Z (xm Z Z Z (xe (xr (xm Z Z Z (xm Z Z Z ?_))))))))
    obtain ⟨c389, h⟩ := need_of h
    refine xa (.str (sub s_ s294 (s_.length : Int))) Z (pu_strSliceM Z underlying9 (tm Z) ⟨_, (tm Z)⟩ Z c389) (xm Z Z Z (xe (aw_seq (aw_block (xr (xm Z Z Z (xa (.bool (decide ((sub s_ s294 (s_.length : Int)) = ([] : List UInt8)))) Z (pu_str (v := .bool (decide ((sub s_ s294 (s_.length : Int)) = ([] : List UInt8)))) Z Z (tm Z) (AEv.const Z) Z) (xm Z Z Z ?_))))))))
    refine xe (aw_cond (b := decide ((sub s_ s294 (s_.length : Int)) = ([] : List UInt8))) (tm Z) (fun hb401 => ?_) (fun hb401 => ?_))
    ·replace h := ite_t (dec_t hb401) h
     refine xr (xa (.i 0) Z (pu_assign Z (AEv.int _ _)) (xa (.i 0) Z (pu_assign Z (AEv.int _ _)) (xa (.i (-1)) Z (pu_assign Z (AEv.int _ _)) (xe (aw_ret ?_)))))
     obtain rfl := some_of h
     exact ⟨[.i 0, .i 0, .i (-1)], _, [], ⟨(tm Z), (tm Z), (tm Z), trivial⟩, vr, Weak.mkL [] (by decide) trivial trivial, ⟨Z, Z⟩⟩
    ·replace h := ite_f (dec_f hb401) h
     obtain ⟨s392, s392e, h393⟩ := bind_some h
     refine aw_meet (ν := Unit) (fun v => [(11, .i s294), (14, .i r388.1), (16, .str (sub s_ s294 (s_.length : Int))), (77, .bool s392)]) (fun v => []) ?_ ?_
     ·have h := s392e
      refine aw_region (xm Z Z Z (xa (.bool (decide (s294 = 1))) Z (pu_int (v := .bool (decide (s294 = 1))) Z Z (tm Z) (AEv.int _ _) Z) (xm Z Z Z ?_)))
      rcases Bool.eq_false_or_eq_true (decide (s294 = 1)) with hb395 | hb395
      ·replace h := ite_t (dec_t hb395) h
       refine aops_known 80 Z hb395 (xn Z Z Z (xn Z Z Z (xn Z Z Z (xa (.bool true) Z (pu_pick (b := true) Z (tm Z) (fun _ => (AEv.bool _)) (fun h => nomatch h)) (xm Z Z Z (xe ?_))))))
       obtain rfl := some_of h
       exact ⟨(), Weak.mkL [] (by decide) trivial ⟨tm Z, tm Z, tm Z, tm Z, trivial⟩⟩
      ·replace h := ite_f (dec_f hb395) h
       refine aops_known 80 Z hb395 (xq Z Z Z Z ?_)
       obtain ⟨c396, h⟩ := need_of h
       refine xp (.int .u8 (bix (sub s_ s294 (s_.length : Int)) 0)) Z Z (pu_strIdxM Z underlying9 (tm Z) (AEv.int _ _) c396) (xp (.bool (!decide ((bix (sub s_ s294 (s_.length : Int)) 0) = 13))) Z Z (pu_int (v := .bool (!decide ((bix (sub s_ s294 (s_.length : Int)) 0) = 13))) Z Z (tm Z) (AEv.int _ _) Z) (xa (.bool (!decide ((bix (sub s_ s294 (s_.length : Int)) 0) = 13))) Z (pu_pick (b := false) Z (tm Z) (fun h => nomatch h) (fun _ => (tm Z))) (xm Z Z Z (xe ?_))))
       obtain rfl := some_of h
       exact ⟨(), Weak.mkL [] (by decide) trivial ⟨tm Z, tm Z, tm Z, tm Z, trivial⟩⟩
     ·intro _
      have h := h393
      refine aw_cond (b := s392) (tm Z) (fun hb400 => ?_) (fun hb400 => ?_)
      ·replace h := ite_t hb400 h
       refine xr (xa (.i 0) Z (pu_assign Z (AEv.int _ _)) (xa (.i 0) Z (pu_assign Z (AEv.int _ _)) (xa (.i 5) Z (pu_assign Z (AEv.int _ _)) (xe (aw_ret ?_)))))
       obtain rfl := some_of h
       exact ⟨[.i 0, .i 0, .i 5], _, [], ⟨(tm Z), (tm Z), (tm Z), trivial⟩, vr, Weak.mkL [] (by decide) trivial trivial, ⟨Z, Z⟩⟩
      ·replace h := ite_fb hb400 h
       refine xr (xm Z Z Z (xa (.i ((sub s_ s294 (s_.length : Int)).length : Int)) Z (pu_strLen Z underlying9 (tm Z)) (xa (.bool (decide (((sub s_ s294 (s_.length : Int)).length : Int) = 1))) Z (pu_int (v := .bool (decide (((sub s_ s294 (s_.length : Int)).length : Int) = 1))) Z Z (tm Z) (AEv.int _ _) Z) (xm Z Z Z (xe (aw_cond (b := decide (((sub s_ s294 (s_.length : Int)).length : Int) = 1)) (tm Z) (fun hb399 => ?_) (fun hb399 => ?_)))))))
       ·replace h := ite_t (dec_t hb399) h
        refine xr (xa (.i 0) Z (pu_assign Z (AEv.int _ _)) (xa (.i 0) Z (pu_assign Z (AEv.int _ _)) (xa (.i (-1)) Z (pu_assign Z (AEv.int _ _)) (xe (aw_ret ?_)))))
        obtain rfl := some_of h
        exact ⟨[.i 0, .i 0, .i (-1)], _, [], ⟨(tm Z), (tm Z), (tm Z), trivial⟩, vr, Weak.mkL [] (by decide) trivial trivial, ⟨Z, Z⟩⟩
       ·replace h := ite_f (dec_f hb399) h
        refine xr (xm Z Z Z ?_)
        obtain ⟨c397, h⟩ := need_of h
        refine xa (.int .u8 (bix (sub s_ s294 (s_.length : Int)) 1)) Z (pu_strIdxM Z underlying9 (tm Z) (AEv.int _ _) c397) (xa (.bool (!decide ((bix (sub s_ s294 (s_.length : Int)) 1) = 10))) Z (pu_int (v := .bool (!decide ((bix (sub s_ s294 (s_.length : Int)) 1) = 10))) Z Z (tm Z) (AEv.int _ _) Z) (xm Z Z Z (xe (aw_cond (b := (!decide ((bix (sub s_ s294 (s_.length : Int)) 1) = 10))) (tm Z) (fun hb398 => ?_) (fun hb398 => ?_)))))
        ·replace h := ite_f (ndec_t hb398) h
         refine xr (xa (.i 0) Z (pu_assign Z (AEv.int _ _)) (xa (.i 0) Z (pu_assign Z (AEv.int _ _)) (xa (.i 5) Z (pu_assign Z (AEv.int _ _)) (xe (aw_ret ?_)))))
         obtain rfl := some_of h
         exact ⟨[.i 0, .i 0, .i 5], _, [], ⟨(tm Z), (tm Z), (tm Z), trivial⟩, vr, Weak.mkL [] (by decide) trivial trivial, ⟨Z, Z⟩⟩
        ·replace h := ite_t (ndec_f hb398) h
         refine aw_skip (xr (xm Z Z Z (xm Z Z Z (xa (.i (IntKind.wrap .i64 (s294 + 2))) Z (pu_int (v := .i (IntKind.wrap .i64 (s294 + 2))) Z Z (tm Z) (AEv.int _ _) Z) (xm Z Z Z (xm Z Z Z (xa (.i 0) Z (pu_assign Z (AEv.int _ _)) (xe ?_))))))))
         refine aw_ret ?_
         obtain rfl := some_of h
         exact ⟨[.i r388.1, .i (IntKind.wrap .i64 (s294 + 2)), .i 0], _, [], ⟨(tm Z), (tm Z), (tm Z), trivial⟩, vr, Weak.mkL [] (by decide) trivial trivial, ⟨Z, Z⟩⟩
   ·have h := s402e
    refine aw_block (aw_while (σ := mewsref05.first.S0) (ν := Unit) (mewsref05.first.body0 s_ most over) (fun s355 v => [(0, .str s_), (2, .i most), (3, .i over), (11, .i s355.digits)]) (fun s355 v => []) ⟨1⟩ () _ h (Weak.mkL [] (by decide) trivial ⟨tm Z, tm Z, tm Z, tm Z, trivial⟩) ?_)
    rintro s355 _ x357 h hx356
    unfold mewsref05.first.body0 at h
    refine aw_seq ?_
    obtain ⟨s363, s363e, h364⟩ := bind_some h
    refine aw_meet (ν := Unit) (fun v => [(0, .str s_), (2, .i most), (3, .i over), (11, .i s355.digits), (38, .bool s363)]) (fun v => []) ?_ ?_
    ·have h := s363e
     refine aw_region (xm Z Z Z (xm Z Z Z (xa (.i (s_.length : Int)) Z (pu_strLen Z underlying9 (tm Z)) (xa (.bool (decide (s355.digits < (s_.length : Int)))) Z (pu_int (v := .bool (decide (s355.digits < (s_.length : Int)))) Z Z (tm Z) (tm Z) Z) (xm Z Z Z ?_)))))
     rcases Bool.eq_false_or_eq_true (decide (s355.digits < (s_.length : Int))) with hb366 | hb366
     ·replace h := ite_t (dec_t hb366) h
      refine aops_known 27 Z hb366 (xq Z Z Z Z (xq Z Z Z Z ?_))
      obtain ⟨c367, h⟩ := need_of h
      refine xp (.int .u8 (bix s_ s355.digits)) Z Z (pu_strIdxM Z underlying9 (tm Z) (tm Z) c367) (xp (.bool (decide (48 ≤ (bix s_ s355.digits)))) Z Z (pu_int (v := .bool (decide (48 ≤ (bix s_ s355.digits)))) Z Z (tm Z) (AEv.int _ _) Z) (xa (.bool (decide (48 ≤ (bix s_ s355.digits)))) Z (pu_pick (b := true) Z (tm Z) (fun _ => (tm Z)) (fun h => nomatch h)) (xm Z Z Z ?_)))
      rcases Bool.eq_false_or_eq_true (decide (48 ≤ (bix s_ s355.digits))) with hb368 | hb368
      ·replace h := ite_t (dec_t hb368) h
       refine aops_known 33 Z hb368 (xq Z Z Z Z (xq Z Z Z Z ?_))
       obtain ⟨c369, h⟩ := need_of h
       refine xp (.int .u8 (bix s_ s355.digits)) Z Z (pu_strIdxM Z underlying9 (tm Z) (tm Z) c369) (xp (.bool (decide ((bix s_ s355.digits) ≤ 57))) Z Z (pu_int (v := .bool (decide ((bix s_ s355.digits) ≤ 57))) Z Z (tm Z) (AEv.int _ _) Z) (xa (.bool (decide ((bix s_ s355.digits) ≤ 57))) Z (pu_pick (b := true) Z (tm Z) (fun _ => (tm Z)) (fun h => nomatch h)) (xe ?_)))
       obtain rfl := some_of h
       exact ⟨(), Weak.mkL [] (by decide) trivial ⟨tm Z, tm Z, tm Z, tm Z, (AEv.le (tm Z) vr), trivial⟩⟩
      ·replace h := ite_f (dec_f hb368) h
       refine aops_known 33 Z hb368 (xn Z Z Z (xn Z Z Z (xn Z Z Z (xn Z Z Z (xa (.bool false) Z (pu_pick (b := false) Z (tm Z) (fun h => nomatch h) (fun _ => (AEv.bool _))) (xe ?_))))))
       obtain rfl := some_of h
       exact ⟨(), Weak.mkL [] (by decide) trivial ⟨tm Z, tm Z, tm Z, tm Z, tm Z, trivial⟩⟩
     ·replace h := ite_f (dec_f hb366) h
      refine aops_known 27 Z hb366 (xn Z Z Z (xn Z Z Z (xn Z Z Z (xn Z Z Z (xa (.bool false) Z (pu_pick (b := false) Z (tm Z) (fun h => nomatch h) (fun _ => (AEv.bool _))) (xm Z Z Z (xn Z Z Z (xn Z Z Z (xn Z Z Z ?_)))))))))
      refine xn Z Z Z (xa (.bool false) Z (pu_pick (b := false) Z (tm Z) (fun h => nomatch h) (fun _ => (AEv.bool _))) (xe ?_))
      obtain rfl := some_of h
      exact ⟨(), Weak.mkL [] (by decide) trivial ⟨tm Z, tm Z, tm Z, tm Z, tm Z, trivial⟩⟩
    ·intro _
     have h := h364
     refine aw_cond (b := s363) (tm Z) (fun hb386 => ?_) (fun hb386 => ?_)
     ·replace h := ite_t hb386 h
      refine aw_skip (aw_block (xr (xm Z Z Z (xm Z Z Z (xa (.i (IntKind.wrap .i64 (s355.digits + 1))) Z (pu_int (v := .i (IntKind.wrap .i64 (s355.digits + 1))) Z Z (tm Z) (AEv.int _ _) Z) ?_)))))
      obtain ⟨c370, h⟩ := need_of h
      refine xa (.str (sub s_ 1 (IntKind.wrap .i64 (s355.digits + 1)))) Z (pu_strSliceM Z underlying9 (tm Z) ⟨_, (AEv.int _ _)⟩ ⟨_, (tm Z)⟩ c370) ?_
      obtain ⟨r371, r371e, h⟩ := bind_some h
      refine xc Z (op_call (vs := [.str (sub s_ 1 (IntKind.wrap .i64 (s355.digits + 1)))]) (H := []) Z call72 ⟨(tm Z), trivial⟩ (List.Perm.refl _) (mewsref01.Parse.ok r371e) ?_)
      rintro _ _ ⟨rfl, rfl⟩
      refine xm Z Z Z (xa (.i r371.1) Z (pu_extract Z (tm Z) (nb Z) Z) (xa (.bool r371.2) Z (pu_extract Z (tm Z) (nb Z) Z) (xm Z Z Z (xm Z Z Z (xe (aw_seq ?_))))))
      obtain ⟨s374, s374e, h375⟩ := bind_some h
      refine aw_meet (ν := Unit) (fun v => [(0, .str s_), (2, .i most), (3, .i over), (11, .i s355.digits), (12, .i r371.1), (13, .bool r371.2), (53, .bool s374)]) (fun v => []) ?_ ?_
      ·have h := s374e
       refine aw_region (xm Z Z Z (xa (.bool (!r371.2)) Z (pu_not Z (tm Z)) (xm Z Z Z ?_)))
       rcases Bool.eq_false_or_eq_true (!r371.2) with hb377 | hb377
       ·replace h := ite_t hb377 h
        refine aops_known 49 Z hb377 (xq Z Z Z Z ?_)
        obtain ⟨c378, h⟩ := need_of h
        refine xp (.int .u8 (bix s_ 1)) Z Z (pu_strIdxM Z underlying9 (tm Z) (AEv.int _ _) c378) (xp (.bool (decide ((bix s_ 1) = 48))) Z Z (pu_int (v := .bool (decide ((bix s_ 1) = 48))) Z Z (tm Z) (AEv.int _ _) Z) (xa (.bool (decide ((bix s_ 1) = 48))) Z (pu_pick (b := true) Z (tm Z) (fun _ => (tm Z)) (fun h => nomatch h)) (xe ?_)))
        obtain rfl := some_of h
        exact ⟨(), Weak.mkL [] (by decide) trivial ⟨tm Z, tm Z, tm Z, tm Z, tm Z, tm Z, (AEv.le (tm Z) vr), trivial⟩⟩
       ·replace h := ite_fb hb377 h
        refine aops_known 49 Z hb377 (xn Z Z Z (xn Z Z Z (xn Z Z Z (xa (.bool false) Z (pu_pick (b := false) Z (tm Z) (fun h => nomatch h) (fun _ => (AEv.bool _))) (xe ?_)))))
        obtain rfl := some_of h
        exact ⟨(), Weak.mkL [] (by decide) trivial ⟨tm Z, tm Z, tm Z, tm Z, tm Z, tm Z, tm Z, trivial⟩⟩
      ·intro _
       have h := h375
       refine aw_cond (b := s374) (tm Z) (fun hb385 => ?_) (fun hb385 => ?_)
       ·replace h := ite_t hb385 h
        refine xr (xa (.i 0) Z (pu_assign Z (AEv.int _ _)) (xa (.i 0) Z (pu_assign Z (AEv.int _ _)) (xa (.i 5) Z (pu_assign Z (AEv.int _ _)) (xe (aw_ret ?_)))))
        obtain rfl := some_of h
        have h := congrArg some (hx356 _ rfl)
        obtain rfl := some_of h
        have h := onSum_inr h295
        obtain rfl := some_of h
        exact ⟨[.i 0, .i 0, .i 5], _, [], ⟨(tm Z), (tm Z), (tm Z), trivial⟩, vr, Weak.mkL [] (by decide) trivial trivial, ⟨Z, Z⟩⟩
       ·replace h := ite_fb hb385 h
        refine aw_skip (aw_seq ?_)
        obtain ⟨s380, s380e, h381⟩ := letO_of h
        refine aw_meet (ν := Unit) (fun v => [(0, .str s_), (2, .i most), (3, .i over), (11, .i s355.digits), (60, .bool s380)]) (fun v => []) ?_ ?_
        ·have h := s380e.symm
         refine aw_region (xm Z Z Z (xa (.bool (!r371.2)) Z (pu_not Z (tm Z)) (xm Z Z Z ?_)))
         rcases Bool.eq_false_or_eq_true (!r371.2) with hb383 | hb383
         ·replace h := ite_t hb383 h
          refine aops_known 56 Z hb383 (xn Z Z Z (xn Z Z Z (xn Z Z Z (xa (.bool true) Z (pu_pick (b := true) Z (tm Z) (fun _ => (AEv.bool _)) (fun h => nomatch h)) (xe ?_)))))
          subst h
          exact ⟨(), Weak.mkL [] (by decide) trivial ⟨tm Z, tm Z, tm Z, tm Z, tm Z, trivial⟩⟩
         ·replace h := ite_fb hb383 h
          refine aops_known 56 Z hb383 (xq Z Z Z Z (xq Z Z Z Z (xp (.bool (decide (most < r371.1))) Z Z (pu_int (v := .bool (decide (most < r371.1))) Z Z (tm Z) (tm Z) Z) (xa (.bool (decide (most < r371.1))) Z (pu_pick (b := false) Z (tm Z) (fun h => nomatch h) (fun _ => (tm Z))) (xe ?_)))))
          subst h
          exact ⟨(), Weak.mkL [] (by decide) trivial ⟨tm Z, tm Z, tm Z, tm Z, (AEv.le (tm Z) vr), trivial⟩⟩
        ·intro _
         have h := h381
         refine aw_cond (b := s380) (tm Z) (fun hb384 => ?_) (fun hb384 => ?_)
         ·replace h := ite_t hb384 h
          refine xr (xm Z Z Z (xa (.i 0) Z (pu_assign Z (AEv.int _ _)) (xa (.i 0) Z (pu_assign Z (AEv.int _ _)) (xm Z Z Z (xe (aw_ret ?_))))))
          obtain rfl := some_of h
          have h := congrArg some (hx356 _ rfl)
          obtain rfl := some_of h
          have h := onSum_inr h295
          obtain rfl := some_of h
          exact ⟨[.i 0, .i 0, .i over], _, [], ⟨(tm Z), (tm Z), (tm Z), trivial⟩, vr, Weak.mkL [] (by decide) trivial trivial, ⟨Z, Z⟩⟩
         ·replace h := ite_fb hb384 h
          refine aw_skip (aw_region (xm Z Z Z (xa (.i (IntKind.wrap .i64 (s355.digits + 1))) Z (pu_int (v := .i (IntKind.wrap .i64 (s355.digits + 1))) Z Z (tm Z) (AEv.int _ _) Z) (xm Z Z Z (xe ?_)))))
          obtain rfl := some_of h
          exact ⟨_, (), Z, Weak.mkL [] (by decide) trivial ⟨tm Z, tm Z, tm Z, (AEv.le (tm Z) vr), trivial⟩⟩
     ·replace h := ite_fb hb386 h
      refine aw_exit ?_
      obtain rfl := some_of h
      have h := congrArg some (hx356 _ rfl)
      exact ⟨s355.digits, (), (some_of h).symm, Weak.mkL [] (by decide) trivial ⟨tm Z, tm Z, trivial⟩⟩

theorem mewsref05.ends.ok {s_ : List UInt8} {r : Int} (h : mewsref05.ends s_ = some r) : Go.Lift.Spec prog 61 [.str s_] [] (fun v H => v = .i r ∧ H = []) := by
 unfold mewsref05.ends at h
 refine Go.Lift.Spec.of_body (rs := [.tmp 2]) func61 Z Z (nb Z) Z (xr (xa (.i 0) Z (pu_assign Z (AEv.int _ _)) (xe (xr (xa (.str [13, 10]) Z (pu_assign Z (AEv.const Z)) (xe ?_))))))
 obtain ⟨s92, s92e, h69⟩ := bind_some h
 refine aw_join (σ := Unit) (ν := Unit) (fun u v => []) (fun u v => []) (fun u => s92 = .inl u) ?_ ?_
 ·intro s68
  intro _
  rintro rfl
  have h := onSum_inl h69
  refine xr (xa (.i 0) Z (pu_assign Z (AEv.int _ _)) (xe (aw_ret ?_)))
  obtain rfl := some_of h
  exact ⟨[.i 0], _, [], ⟨(tm Z), trivial⟩, vr, Weak.mkL [] (by decide) trivial trivial, ⟨Z, Z⟩⟩
 ·have h := s92e
  refine xr (xa (.i 0) Z (pu_assign Z (AEv.int _ _)) (xe (aw_block (aw_while (σ := mewsref05.ends.S0) (ν := Unit) (mewsref05.ends.body0 s_) (fun s83 v => [(0, .str s_), (3, .str [13, 10]), (4, .i s83.i)]) (fun s83 v => []) ⟨0⟩ () _ h (Weak.mkL [] (by decide) trivial ⟨tm Z, tm Z, tm Z, trivial⟩) ?_))))
  rintro s83 _ x85 h hx84
  unfold mewsref05.ends.body0 at h
  refine aw_seq (xr (xm Z Z Z (xa (.bool (decide (s83.i < 2))) Z (pu_int (v := .bool (decide (s83.i < 2))) Z Z (tm Z) (AEv.int _ _) Z) (xe (aw_cond (b := decide (s83.i < 2)) (tm Z) (fun hb91 => ?_) (fun hb91 => ?_))))))
  ·replace h := ite_t (dec_t hb91) h
   refine aw_skip (aw_seq (aw_block (aw_seq (xr (xm Z Z Z (xa (.i (s_.length : Int)) Z (pu_strLen Z underlying9 (tm Z)) (xm Z Z Z (xa (.bool (decide ((s_.length : Int) ≤ s83.i))) Z (pu_int (v := .bool (decide ((s_.length : Int) ≤ s83.i))) Z Z (tm Z) (tm Z) Z) ?_))))))))
   refine xe (aw_cond (b := decide ((s_.length : Int) ≤ s83.i)) (tm Z) (fun hb90 => ?_) (fun hb90 => ?_))
   ·replace h := ite_t (dec_t hb90) h
    refine xr (xa (.i (-1)) Z (pu_assign Z (AEv.int _ _)) (xe (aw_ret ?_)))
    obtain rfl := some_of h
    have h := congrArg some (hx84 _ rfl)
    obtain rfl := some_of h
    have h := onSum_inr h69
    obtain rfl := some_of h
    exact ⟨[.i (-1)], _, [], ⟨(tm Z), trivial⟩, vr, Weak.mkL [] (by decide) trivial trivial, ⟨Z, Z⟩⟩
   ·replace h := ite_f (dec_f hb90) h
    refine aw_skip (aw_seq ?_)
    obtain ⟨c87, h⟩ := need_of h
    obtain ⟨c88, h⟩ := need_of h
    refine aw_planR (by decide +kernel) [[], [], [], [], [], [], []] [] [] [.str s_, .i s83.i, .int .u8 (bix s_ s83.i), .str [13, 10], .i s83.i, .int .u8 (bix [13, 10] s83.i), .bool (!decide ((bix s_ s83.i) = (bix [13, 10] s83.i)))] (by decide +kernel) Z Z ?_ ?_
    ·exact ⟨ym Z Z Z, ym Z Z Z, yp Z (pu_strIdxM Z underlying9 (tm Z) (tm Z) c87), ym Z Z Z, ym Z Z Z, yp Z (pu_strIdxM Z underlying9 (tm Z) (tm Z) c88), yp Z (pu_int (v := .bool (!decide ((bix s_ s83.i) = (bix [13, 10] s83.i)))) Z Z (tm Z) (tm Z) Z), trivial⟩
    refine aw_cond (b := (!decide ((bix s_ s83.i) = (bix [13, 10] s83.i)))) (tm Z) (fun hb89 => ?_) (fun hb89 => ?_)
    ·replace h := ite_f (ndec_t hb89) h
     refine xr (xa (.i 5) Z (pu_assign Z (AEv.int _ _)) (xe (aw_ret ?_)))
     obtain rfl := some_of h
     have h := congrArg some (hx84 _ rfl)
     obtain rfl := some_of h
     have h := onSum_inr h69
     obtain rfl := some_of h
     exact ⟨[.i 5], _, [], ⟨(tm Z), trivial⟩, vr, Weak.mkL [] (by decide) trivial trivial, ⟨Z, Z⟩⟩
    ·replace h := ite_t (ndec_f hb89) h
     refine aw_skip (aw_region (xm Z Z Z (xa (.i (IntKind.wrap .i64 (s83.i + 1))) Z (pu_int (v := .i (IntKind.wrap .i64 (s83.i + 1))) Z Z (tm Z) (AEv.int _ _) Z) (xm Z Z Z (xe ?_)))))
     obtain rfl := some_of h
     exact ⟨_, (), Z, Weak.mkL [] (by decide) trivial ⟨tm Z, tm Z, (AEv.le (tm Z) vr), trivial⟩⟩
  ·replace h := ite_f (dec_f hb91) h
   refine aw_exit ?_
   obtain rfl := some_of h
   have h := congrArg some (hx84 _ rfl)
   exact ⟨(), (), (some_of h).symm, Weak.mkL [] (by decide) trivial trivial⟩

theorem mewsref05.many.ok {s_ : List UInt8} {l : api.Limits} {r : api.Input × Int} (h : mewsref05.many s_ l = some r) : Go.Lift.Spec prog 46 [.str s_, .agg [.i l.Args, .i l.Bulk, .i l.Line]] [] (fun v H => v = .tup [.agg [.str r.1.Rest, .sl .no 1 (r.1.Args.map AV.str), .i r.1.Left, .i r.1.Size, .bool r.1.Body, .i r.1.Need, .i r.1.Dead], .i r.2] ∧ H = []) := by
 unfold mewsref05.many at h
 refine Go.Lift.Spec.of_body (rs := [.cell 4 62, .tmp 5]) func46 Z Z (nb Z) Z (xr (xc Z (op_box (cs := [.i l.Args, .i l.Bulk, .i l.Line]) (v := .agg [.i l.Args, .i l.Bulk, .i l.Line]) Z (tm Z) Z Z ?_)))
 intro p161
 refine xc Z (op_alloc (cs := [.str ([] : List UInt8), .sl .full 1 (([] : List (List UInt8)).map AV.str), .i 0, .i 0, .bool false, .i 0, .i 0]) (v := .agg [.str ([] : List UInt8), .sl .full 1 (([] : List (List UInt8)).map AV.str), .i 0, .i 0, .bool false, .i 0, .i 0]) Z zeroValue62 Z Z Z ?_)
 intro p162
 refine xa (.i 0) Z (pu_assign Z (AEv.int _ _)) (xe (xr (xm Z Z Z (xa (.ptr p161 0) Z (fa Z underlying67 Z sizeOf3 Z Z Z) (xc Z (op_load1 (i := 1) Z isAgg3 (tm Z) Z Z ?_))))))
 obtain ⟨r163, r163e, h⟩ := bind_some h
 refine xc Z (op_call (vs := [.str s_, .int .u8 42, .i l.Args, .i 7]) (H := []) Z call60 ⟨(tm Z), (AEv.int _ _), (tm Z), (AEv.int _ _), trivial⟩ (List.Perm.refl _) (mewsref05.first.ok r163e) ?_)
 rintro _ _ ⟨rfl, rfl⟩
 refine xm Z Z Z (xa (.i r163.1) Z (pu_extract Z (tm Z) (nb Z) Z) (xa (.i r163.2.1) Z (pu_extract Z (tm Z) (nb Z) Z) (xa (.i r163.2.2) Z (pu_extract Z (tm Z) (nb Z) Z) (xm Z Z Z (xm Z Z Z (xm Z Z Z (xe (aw_seq (aw_seq ?_)))))))))
 refine aw_region (xm Z Z Z (xa (.bool (!decide (r163.2.2 = 0))) Z (pu_int (v := .bool (!decide (r163.2.2 = 0))) Z Z (tm Z) (AEv.int _ _) Z) (xe (aw_cond (b := (!decide (r163.2.2 = 0))) (tm Z) (fun hb320 => ?_) (fun hb320 => ?_)))))
 ·replace h := ite_f (ndec_t hb320) h
  refine xr (xm Z Z Z (xa (.agg [.str s_, .sl .full 1 (([] : List (List UInt8)).map AV.str), .i 0, .i 0, .bool false, .i 0, .i 0]) Z (pu_build (zs := [.str ([] : List UInt8), .sl .full 1 (([] : List (List UInt8)).map AV.str), .i 0, .i 0, .bool false, .i 0, .i 0]) (szs := [1, 1, 1, 1, 1, 1, 1]) (aparts := [(0, .str s_)]) (cs := [.str s_, .sl .full 1 (([] : List (List UInt8)).map AV.str), .i 0, .i 0, .bool false, .i 0, .i 0]) Z underlying62 zeroValue62 Z ⟨sizeOf9, sizeOf49, sizeOf3, sizeOf3, sizeOf4, sizeOf3, sizeOf27, trivial⟩ ⟨Z, (tm Z), trivial⟩ Z) (xm Z Z Z (ac0 Z Z (op_store (i := 0) (cs' := [.str s_, .sl .full 1 (([] : List (List UInt8)).map AV.str), .i 0, .i 0, .bool false, .i 0, .i 0]) Z sizeOf62 (tm Z) (v := .agg [.str s_, .sl .full 1 (([] : List (List UInt8)).map AV.str), .i 0, .i 0, .bool false, .i 0, .i 0]) (tm Z) Z Z Z (nb Z) Z (xm Z Z Z (xe (aw_ret ?_))))))))
  obtain rfl := some_of h
  exact ⟨[.agg [.str s_, .sl .full 1 (([] : List (List UInt8)).map AV.str), .i 0, .i 0, .bool false, .i 0, .i 0], .i r163.2.2], .tup [.agg [.str s_, .sl .no 1 (([] : List (List UInt8)).map AV.str), .i 0, .i 0, .bool false, .i 0, .i 0], .i r163.2.2], [], ⟨(CellOk.agg 0 (tm Z) Z isAgg62 sizeOf62 (nb Z) Z), (tm Z), trivial⟩, (AV.Le.tup ⟨(AV.Le.agg ⟨vr, (AV.Le.forget _ _ _), vr, vr, vr, vr, vr, trivial⟩), vr, trivial⟩), Weak.mkL [] (by decide) trivial trivial, ⟨Z, Z⟩⟩
 ·replace h := ite_t (ndec_f hb320) h
  refine aw_skip (xr (xm Z Z Z (xm Z Z Z (xa (.agg [.str ([] : List UInt8), .sl .full 1 (([] : List (List UInt8)).map AV.str), .i r163.1, .i r163.2.1, .bool false, .i 0, .i 0]) Z (pu_build (zs := [.str ([] : List UInt8), .sl .full 1 (([] : List (List UInt8)).map AV.str), .i 0, .i 0, .bool false, .i 0, .i 0]) (szs := [1, 1, 1, 1, 1, 1, 1]) (aparts := [(2, .i r163.1), (3, .i r163.2.1)]) (cs := [.str ([] : List UInt8), .sl .full 1 (([] : List (List UInt8)).map AV.str), .i r163.1, .i r163.2.1, .bool false, .i 0, .i 0]) Z underlying62 zeroValue62 Z ⟨sizeOf9, sizeOf49, sizeOf3, sizeOf3, sizeOf4, sizeOf3, sizeOf27, trivial⟩ ⟨Z, (tm Z), ⟨Z, (tm Z), trivial⟩⟩ Z) (xc Z (op_alloc (cs := [.str ([] : List UInt8), .sl .full 1 (([] : List (List UInt8)).map AV.str), .i 0, .i 0, .bool false, .i 0, .i 0]) (v := .agg [.str ([] : List UInt8), .sl .full 1 (([] : List (List UInt8)).map AV.str), .i 0, .i 0, .bool false, .i 0, .i 0]) Z zeroValue62 Z Z Z ?_))))))
  intro p164
  refine ac0 Z Z (op_store (i := 0) (cs' := [.str ([] : List UInt8), .sl .full 1 (([] : List (List UInt8)).map AV.str), .i r163.1, .i r163.2.1, .bool false, .i 0, .i 0]) Z sizeOf62 (tm Z) (v := .agg [.str ([] : List UInt8), .sl .full 1 (([] : List (List UInt8)).map AV.str), .i r163.1, .i r163.2.1, .bool false, .i 0, .i 0]) (tm Z) Z Z Z (nb Z) Z (xe ?_))
  obtain ⟨s319, s319e, h242⟩ := bind_some h
  refine aw_join (σ := (List (List UInt8)) × Int × Int) (ν := Nat) (fun u v => [(4, .ptr p162 0), (9, .ptr p164 0)]) (fun u v => [(p162, .cells [.str ([] : List UInt8), .sl .full 1 (([] : List (List UInt8)).map AV.str), .i 0, .i 0, .bool false, .i 0, .i 0]), (p164, .cells [.str ([] : List UInt8), .sl (.own v) 1 (u.1.map AV.str), .i u.2.1, .i u.2.2, .bool false, .i 0, .i 0]), (v, .spare)]) (fun u => s319 = .inl u) ?_ ?_
  ·intro s240
   intro n241
   rintro rfl
   have h := onSum_inl h242
   refine xr (xc Z (op_loadN (i := 1) Z isAgg62 sizeOf62 (tm Z) Z (nb Z) Z (ac0 Z Z (op_store (i := 0) (cs' := [.str ([] : List UInt8), .sl (.own n241) 1 (s240.1.map AV.str), .i s240.2.1, .i s240.2.2, .bool false, .i 0, .i 0]) Z sizeOf62 (tm Z) (v := .agg [.str ([] : List UInt8), .sl (.own n241) 1 (s240.1.map AV.str), .i s240.2.1, .i s240.2.2, .bool false, .i 0, .i 0]) (tm Z) Z Z Z (nb Z) Z (xa (.i 0) Z (pu_assign Z (AEv.int _ _)) (xe (aw_ret ?_)))))))
   obtain rfl := some_of h
   exact ⟨[.agg [.str ([] : List UInt8), .sl (.own n241) 1 (s240.1.map AV.str), .i s240.2.1, .i s240.2.2, .bool false, .i 0, .i 0], .i 0], .tup [.agg [.str ([] : List UInt8), .sl .no 1 (s240.1.map AV.str), .i s240.2.1, .i s240.2.2, .bool false, .i 0, .i 0], .i 0], [], ⟨(CellOk.agg 0 (tm Z) Z isAgg62 sizeOf62 (nb Z) Z), (tm Z), trivial⟩, (AV.Le.tup ⟨(AV.Le.agg ⟨vr, (AV.Le.forget _ _ _), vr, vr, vr, vr, vr, trivial⟩), vr, trivial⟩), Weak.mkL [] (by decide) trivial trivial, ⟨Z, Z⟩⟩
  ·have h := s319e
   refine aw_block (aw_claimCell 0 1 Z Z fun t318 => (aw_while (σ := mewsref05.many.S0) (ν := Nat) (mewsref05.many.body0 s_ l) (fun s291 v => [(0, .str s_), (3, .ptr p161 0), (4, .ptr p162 0), (9, .ptr p164 0)]) (fun s291 v => [(p161, .cells [.i l.Args, .i l.Bulk, .i l.Line]), (p162, .cells [.str ([] : List UInt8), .sl .full 1 (([] : List (List UInt8)).map AV.str), .i 0, .i 0, .bool false, .i 0, .i 0]), (p164, .cells [.str ([] : List UInt8), .sl (.own v) 1 (s291.c.map AV.str), .i s291.c2, .i s291.c3, .bool false, .i 0, .i 0]), (v, .spare)]) ⟨([] : List (List UInt8)), r163.1, r163.2.1⟩ t318 _ h (Weak.mkL [3, 2, 1, 0] (by decide) ⟨⟨_, Z, cr, Z⟩, ⟨_, Z, cr, Z⟩, ⟨_, Z, cr, Z⟩, ⟨_, Z, Z⟩, trivial⟩ ⟨tm Z, tm Z, tm Z, tm Z, trivial⟩) ?_))
   rintro s291 n292 x294 h hx293
   unfold mewsref05.many.body0 at h
   refine aw_seq (xr (xa (.ptr p164 2) Z (fa Z underlying62 Z sizeOf3 Z Z Z) (xc Z (op_load1 (i := 2) Z isAgg3 (tm Z) Z Z (xa (.bool (decide (0 < s291.c2))) Z (pu_int (v := .bool (decide (0 < s291.c2))) Z Z (tm Z) (AEv.int _ _) Z) (xe (aw_cond (b := decide (0 < s291.c2)) (tm Z) (fun hb317 => ?_) (fun hb317 => ?_))))))))
   ·replace h := ite_t (dec_t hb317) h
    refine aw_skip (aw_block (aw_seq ?_))
    obtain ⟨c296, h⟩ := need_of h
    obtain ⟨r297, r297e, h⟩ := bind_some h
    refine aw_planR (by decide +kernel) [[], [], [(2, 0, false)], [], [], [(0, 0, false)], [], [], [], [], [], [], [], []] [[], [], [], []] [[[(p161, .cells [.i l.Args, .i l.Bulk, .i l.Line])]], [[(p162, .cells [.str ([] : List UInt8), .sl .full 1 (([] : List (List UInt8)).map AV.str), .i 0, .i 0, .bool false, .i 0, .i 0])]], [[(p164, .cells [.str ([] : List UInt8), .sl (.own n292) 1 (s291.c.map AV.str), .i s291.c2, .i s291.c3, .bool false, .i 0, .i 0])]], [[(n292, .spare)]]] [.str s_, .ptr p164 3, .i s291.c3, .str (sub s_ s291.c3 (s_.length : Int)), .ptr p161 1, .i l.Bulk, .tup [.i r297.1, .i r297.2.1, .i r297.2.2], .tup [.i r297.1, .i r297.2.1, .i r297.2.2], .i r297.1, .i r297.2.1, .i r297.2.2, .i r297.1, .i r297.2.1, .i r297.2.2] (by decide +kernel) Z Z ?_ ?_
    ·exact ⟨ym Z Z Z, yp Z (fa Z underlying62 Z sizeOf3 Z Z Z), stepg_plain Z (op_load1 (i := 0) Z isAgg3 (tm Z) Z Z ⟨Z, Z⟩), yp Z (pu_strSliceM Z underlying9 (tm Z) ⟨_, (tm Z)⟩ Z c296), yp Z (fa Z underlying67 Z sizeOf3 Z Z Z), stepg_plain Z (op_load1 (i := 0) Z isAgg3 (tm Z) Z Z ⟨Z, Z⟩), stepg_plain Z (op_call (vs := [.str (sub s_ s291.c3 (s_.length : Int)), .int .u8 36, .i l.Bulk, .i 6]) (H := []) Z call60 ⟨(tm Z), (AEv.int _ _), (tm Z), (AEv.int _ _), trivial⟩ (R := []) (List.Perm.refl _) (mewsref05.first.ok r297e) (by rintro _ _ ⟨rfl, rfl⟩; exact ⟨Z, Z⟩)), ym Z Z Z, yp Z (pu_extract Z (tm Z) (nb Z) Z), yp Z (pu_extract Z (tm Z) (nb Z) Z), yp Z (pu_extract Z (tm Z) (nb Z) Z), ym Z Z Z, ym Z Z Z, ym Z Z Z, trivial⟩
    refine aw_seq (xr (xm Z Z Z (xa (.bool (!decide (r297.2.2 = 0))) Z (pu_int (v := .bool (!decide (r297.2.2 = 0))) Z Z (tm Z) (AEv.int _ _) Z) (xe (aw_cond (b := (!decide (r297.2.2 = 0))) (tm Z) (fun hb316 => ?_) (fun hb316 => ?_))))))
    ·replace h := ite_f (ndec_t hb316) h
     refine xr (xm Z Z Z (xa (.ptr p164 3) Z (fa Z underlying62 Z sizeOf3 Z Z Z) (xc Z (op_load1 (i := 2) Z isAgg3 (tm Z) Z Z ?_))))
     obtain ⟨c298, h⟩ := need_of h
     refine xa (.str (sub s_ s291.c3 (s_.length : Int))) Z (pu_strSliceM Z underlying9 (tm Z) ⟨_, (tm Z)⟩ Z c298) (xa (.ptr p164 0) Z (fa Z underlying62 Z sizeOf9 Z Z Z) (ac0 Z Z (op_store (i := 2) (cs' := [.str (sub s_ s291.c3 (s_.length : Int)), .sl (.own n292) 1 (s291.c.map AV.str), .i s291.c2, .i s291.c3, .bool false, .i 0, .i 0]) Z sizeOf9 (tm Z) (v := .str (sub s_ s291.c3 (s_.length : Int))) (tm Z) Z Z Z (nb Z) Z (xe (xr (xc Z (op_loadN (i := 2) Z isAgg62 sizeOf62 (tm Z) Z (nb Z) Z (xm Z Z Z (ac0 Z Z (op_store (i := 1) (cs' := [.str (sub s_ s291.c3 (s_.length : Int)), .sl (.own n292) 1 (s291.c.map AV.str), .i s291.c2, .i s291.c3, .bool false, .i 0, .i 0]) Z sizeOf62 (tm Z) (v := .agg [.str (sub s_ s291.c3 (s_.length : Int)), .sl (.own n292) 1 (s291.c.map AV.str), .i s291.c2, .i s291.c3, .bool false, .i 0, .i 0]) (tm Z) Z Z Z (nb Z) Z (xm Z Z Z ?_)))))))))))
     refine xe (aw_ret ?_)
     obtain rfl := some_of h
     have h := congrArg some (hx293 _ rfl)
     obtain rfl := some_of h
     have h := onSum_inr h242
     obtain rfl := some_of h
     exact ⟨[.agg [.str (sub s_ s291.c3 (s_.length : Int)), .sl (.own n292) 1 (s291.c.map AV.str), .i s291.c2, .i s291.c3, .bool false, .i 0, .i 0], .i r297.2.2], .tup [.agg [.str (sub s_ s291.c3 (s_.length : Int)), .sl .no 1 (s291.c.map AV.str), .i s291.c2, .i s291.c3, .bool false, .i 0, .i 0], .i r297.2.2], [], ⟨(CellOk.agg 1 (tm Z) Z isAgg62 sizeOf62 (nb Z) Z), (tm Z), trivial⟩, (AV.Le.tup ⟨(AV.Le.agg ⟨vr, (AV.Le.forget _ _ _), vr, vr, vr, vr, vr, trivial⟩), vr, trivial⟩), Weak.mkL [] (by decide) trivial trivial, ⟨Z, Z⟩⟩
    ·replace h := ite_t (ndec_f hb316) h
     refine aw_skip (xr (xa (.ptr p164 3) Z (fa Z underlying62 Z sizeOf3 Z Z Z) (xc Z (op_load1 (i := 2) Z isAgg3 (tm Z) Z Z (xm Z Z Z (xa (.i (IntKind.wrap .i64 (s291.c3 + r297.2.1))) Z (pu_int (v := .i (IntKind.wrap .i64 (s291.c3 + r297.2.1))) Z Z (tm Z) (tm Z) Z) (xa (.ptr p164 3) Z (fa Z underlying62 Z sizeOf3 Z Z Z) (ac0 Z Z (op_store (i := 2) (cs' := [.str ([] : List UInt8), .sl (.own n292) 1 (s291.c.map AV.str), .i s291.c2, .i (IntKind.wrap .i64 (s291.c3 + r297.2.1)), .bool false, .i 0, .i 0]) Z sizeOf3 (tm Z) (v := .i (IntKind.wrap .i64 (s291.c3 + r297.2.1))) (tm Z) Z Z Z (nb Z) Z (xe ?_))))))))))
     refine xr (xm Z Z Z (xa (.ptr p164 3) Z (fa Z underlying62 Z sizeOf3 Z Z Z) (xc Z (op_load1 (i := 2) Z isAgg3 (tm Z) Z Z ?_))))
     obtain ⟨c299, h⟩ := need_of h
     refine xa (.str (sub s_ (IntKind.wrap .i64 (s291.c3 + r297.2.1)) (s_.length : Int))) Z (pu_strSliceM Z underlying9 (tm Z) ⟨_, (tm Z)⟩ Z c299) (xm Z Z Z (xe (xr (xa (.i (-1)) Z (pu_assign Z (AEv.int _ _)) (xe ?_)))))
     obtain ⟨s304, s304e, h305⟩ := bind_some h
     refine aw_meet (ν := Unit) (fun v => [(0, .str s_), (3, .ptr p161 0), (4, .ptr p162 0), (9, .ptr p164 0), (10, .i r297.1), (13, .str (sub s_ (IntKind.wrap .i64 (s291.c3 + r297.2.1)) (s_.length : Int))), (14, .i s304)]) (fun v => [(p161, .cells [.i l.Args, .i l.Bulk, .i l.Line]), (p162, .cells [.str ([] : List UInt8), .sl .full 1 (([] : List (List UInt8)).map AV.str), .i 0, .i 0, .bool false, .i 0, .i 0]), (p164, .cells [.str ([] : List UInt8), .sl (.own n292) 1 (s291.c.map AV.str), .i s291.c2, .i (IntKind.wrap .i64 (s291.c3 + r297.2.1)), .bool false, .i 0, .i 0]), (n292, .spare)]) ?_ ?_
     ·have h := s304e
      refine xr (xm Z Z Z (xa (.i ((sub s_ (IntKind.wrap .i64 (s291.c3 + r297.2.1)) (s_.length : Int)).length : Int)) Z (pu_strLen Z underlying9 (tm Z)) (xm Z Z Z (xa (.bool (decide (r297.1 ≤ ((sub s_ (IntKind.wrap .i64 (s291.c3 + r297.2.1)) (s_.length : Int)).length : Int)))) Z (pu_int (v := .bool (decide (r297.1 ≤ ((sub s_ (IntKind.wrap .i64 (s291.c3 + r297.2.1)) (s_.length : Int)).length : Int)))) Z Z (tm Z) (tm Z) Z) (xe (aw_cond (b := decide (r297.1 ≤ ((sub s_ (IntKind.wrap .i64 (s291.c3 + r297.2.1)) (s_.length : Int)).length : Int))) (tm Z) (fun hb310 => ?_) (fun hb310 => ?_)))))))
      ·replace h := ite_t (dec_t hb310) h
       refine aw_region (xm Z Z Z (xm Z Z Z ?_))
       obtain ⟨c307, h⟩ := need_of h
       obtain ⟨x308, x308e, h⟩ := letO_of h
       refine xa (.str x308) Z (APure.eq (pu_strSliceM Z underlying9 (tm Z) ⟨_, (tm Z)⟩ Z c307) (congrArg (AV.str) x308e.symm)) ?_
       obtain ⟨r309, r309e, h⟩ := bind_some h
       refine xc Z (op_call (vs := [.str x308]) (H := []) Z call61 ⟨(tm Z), trivial⟩ (List.Perm.refl _) (mewsref05.ends.ok r309e) ?_)
       rintro _ _ ⟨rfl, rfl⟩
       refine xm Z Z Z (xe ?_)
       obtain rfl := some_of h
       exact ⟨(), Weak.mkL [0, 1, 2, 3] (by decide) ⟨⟨_, Z, cr, Z⟩, ⟨_, Z, cr, Z⟩, ⟨_, Z, cr, Z⟩, ⟨_, Z, Z⟩, trivial⟩ ⟨tm Z, tm Z, tm Z, tm Z, tm Z, tm Z, tm Z, trivial⟩⟩
      ·replace h := ite_f (dec_f hb310) h
       refine aw_skip ?_
       obtain rfl := some_of h
       exact ⟨(), Weak.mkL [0, 1, 2, 3] (by decide) ⟨⟨_, Z, cr, Z⟩, ⟨_, Z, cr, Z⟩, ⟨_, Z, cr, Z⟩, ⟨_, Z, Z⟩, trivial⟩ ⟨tm Z, tm Z, tm Z, tm Z, tm Z, tm Z, tm Z, trivial⟩⟩
     ·intro _
      have h := h305
      refine aw_seq (xr (xm Z Z Z (xa (.bool (!decide (s304 = 0))) Z (pu_int (v := .bool (!decide (s304 = 0))) Z Z (tm Z) (AEv.int _ _) Z) (xe (aw_cond (b := (!decide (s304 = 0))) (tm Z) (fun hb315 => ?_) (fun hb315 => ?_))))))
      ·replace h := ite_f (ndec_t hb315) h
       refine xr (xa (.ptr p164 4) Z (fa Z underlying62 Z sizeOf4 Z Z Z) (ac0 Z Z (op_store (i := 2) (cs' := [.str ([] : List UInt8), .sl (.own n292) 1 (s291.c.map AV.str), .i s291.c2, .i (IntKind.wrap .i64 (s291.c3 + r297.2.1)), .bool true, .i 0, .i 0]) Z sizeOf4 (tm Z) (v := .bool true) (AEv.bool _) Z Z Z (nb Z) Z (xe (xr (xm Z Z Z (xa (.ptr p164 5) Z (fa Z underlying62 Z sizeOf3 Z Z Z) (ac0 Z Z (op_store (i := 2) (cs' := [.str ([] : List UInt8), .sl (.own n292) 1 (s291.c.map AV.str), .i s291.c2, .i (IntKind.wrap .i64 (s291.c3 + r297.2.1)), .bool true, .i r297.1, .i 0]) Z sizeOf3 (tm Z) (v := .i r297.1) (tm Z) Z Z Z (nb Z) Z ?_)))))))))
       refine xe (xr (xm Z Z Z (xa (.ptr p164 0) Z (fa Z underlying62 Z sizeOf9 Z Z Z) (ac0 Z Z (op_store (i := 2) (cs' := [.str (sub s_ (IntKind.wrap .i64 (s291.c3 + r297.2.1)) (s_.length : Int)), .sl (.own n292) 1 (s291.c.map AV.str), .i s291.c2, .i (IntKind.wrap .i64 (s291.c3 + r297.2.1)), .bool true, .i r297.1, .i 0]) Z sizeOf9 (tm Z) (v := .str (sub s_ (IntKind.wrap .i64 (s291.c3 + r297.2.1)) (s_.length : Int))) (tm Z) Z Z Z (nb Z) Z (xe (xr (xc Z (op_loadN (i := 2) Z isAgg62 sizeOf62 (tm Z) Z (nb Z) Z ?_)))))))))
       refine xm Z Z Z (ac0 Z Z (op_store (i := 1) (cs' := [.str (sub s_ (IntKind.wrap .i64 (s291.c3 + r297.2.1)) (s_.length : Int)), .sl (.own n292) 1 (s291.c.map AV.str), .i s291.c2, .i (IntKind.wrap .i64 (s291.c3 + r297.2.1)), .bool true, .i r297.1, .i 0]) Z sizeOf62 (tm Z) (v := .agg [.str (sub s_ (IntKind.wrap .i64 (s291.c3 + r297.2.1)) (s_.length : Int)), .sl (.own n292) 1 (s291.c.map AV.str), .i s291.c2, .i (IntKind.wrap .i64 (s291.c3 + r297.2.1)), .bool true, .i r297.1, .i 0]) (tm Z) Z Z Z (nb Z) Z (xm Z Z Z (xe (aw_ret ?_)))))
       obtain rfl := some_of h
       have h := congrArg some (hx293 _ rfl)
       obtain rfl := some_of h
       have h := onSum_inr h242
       obtain rfl := some_of h
       exact ⟨[.agg [.str (sub s_ (IntKind.wrap .i64 (s291.c3 + r297.2.1)) (s_.length : Int)), .sl (.own n292) 1 (s291.c.map AV.str), .i s291.c2, .i (IntKind.wrap .i64 (s291.c3 + r297.2.1)), .bool true, .i r297.1, .i 0], .i s304], .tup [.agg [.str (sub s_ (IntKind.wrap .i64 (s291.c3 + r297.2.1)) (s_.length : Int)), .sl .no 1 (s291.c.map AV.str), .i s291.c2, .i (IntKind.wrap .i64 (s291.c3 + r297.2.1)), .bool true, .i r297.1, .i 0], .i s304], [], ⟨(CellOk.agg 1 (tm Z) Z isAgg62 sizeOf62 (nb Z) Z), (tm Z), trivial⟩, (AV.Le.tup ⟨(AV.Le.agg ⟨vr, (AV.Le.forget _ _ _), vr, vr, vr, vr, vr, trivial⟩), vr, trivial⟩), Weak.mkL [] (by decide) trivial trivial, ⟨Z, Z⟩⟩
      ·replace h := ite_t (ndec_f hb315) h
       refine aw_skip (aw_seq ?_)
       obtain ⟨c311, h⟩ := need_of h
       obtain ⟨x312, x312e, h⟩ := letO_of h
       obtain ⟨c313, h⟩ := need_of h
       refine aw_reserve fun p314 => (aw_planR (by decide +kernel) [[], [(3, 0, false)], [], [], [], [], [(4, 0, true), (0, 0, true)], [], [(3, 0, true)]] [[6], [], [], [8], [6]] [[[(p314, .resv)], [(p314, .spare)]], [[(p161, .cells [.i l.Args, .i l.Bulk, .i l.Line])]], [[(p162, .cells [.str ([] : List UInt8), .sl .full 1 (([] : List (List UInt8)).map AV.str), .i 0, .i 0, .bool false, .i 0, .i 0])]], [[(p164, .cells [.str ([] : List UInt8), .sl (.own n292) 1 (s291.c.map AV.str), .i s291.c2, .i (IntKind.wrap .i64 (s291.c3 + r297.2.1)), .bool false, .i 0, .i 0])], [(p164, .cells [.str ([] : List UInt8), .sl (.own p314) 1 ((s291.c ++ [x312]).map AV.str), .i s291.c2, .i (IntKind.wrap .i64 (s291.c3 + r297.2.1)), .bool false, .i 0, .i 0])]], [[(n292, .spare)], []]] [.ptr p164 1, .sl (.own n292) 1 (s291.c.map AV.str), .str (sub s_ (IntKind.wrap .i64 (s291.c3 + r297.2.1)) (s_.length : Int)), .i r297.1, .str x312, .sl .full 1 ([x312].map AV.str), .sl (.own p314) 1 ((s291.c ++ [x312]).map AV.str), .ptr p164 1, .un] (by decide +kernel) Z Z ?_ ?_)
       ·exact ⟨yp Z (fa Z underlying62 Z sizeOf49 Z Z Z), stepg_plain Z (op_load1 (i := 0) Z isAgg49 (tm Z) Z Z ⟨Z, Z⟩), ym Z Z Z, ym Z Z Z, yp Z (APure.eq (pu_strSliceM Z underlying9 (tm Z) Z ⟨_, (tm Z)⟩ c311) (congrArg (AV.str) x312e.symm)), stepg_plain Z (op_buildSlice (xs := ([x312] : List (List UInt8)).map AV.str) (aparts := [(0, .str x312)]) Z underlying49 sizeOf9 zeroValue9 (by decide) (by decide) ⟨Z, (tm Z), trivial⟩ Z Z Z ⟨Z, Z⟩), stepg_plain Z (aop_settleS (op_appendOM (q := 0) Z underlying49 underlying49 (.inl Z) typeInfo9 Z Z Z (by decide) (tm Z) Z (given_sl (tm Z)) c313 fun t => ⟨t, Z, Z⟩) ⟨Z, Z⟩), yp Z (fa Z underlying62 Z sizeOf49 Z Z Z), stepg_plain Z (op_store (i := 0) (cs' := [.str ([] : List UInt8), .sl (.own p314) 1 ((s291.c ++ [x312]).map AV.str), .i s291.c2, .i (IntKind.wrap .i64 (s291.c3 + r297.2.1)), .bool false, .i 0, .i 0]) Z sizeOf49 (tm Z) (v := .sl (.own p314) 1 ((s291.c ++ [x312]).map AV.str)) (tm Z) Z Z Z (nb Z) Z ⟨Z, Z⟩), trivial⟩
       refine xr (xa (.ptr p164 2) Z (fa Z underlying62 Z sizeOf3 Z Z Z) (xc Z (op_load1 (i := 3) Z isAgg3 (tm Z) Z Z (xa (.i (IntKind.wrap .i64 (s291.c2 - 1))) Z (pu_int (v := .i (IntKind.wrap .i64 (s291.c2 - 1))) Z Z (tm Z) (AEv.int _ _) Z) (xa (.ptr p164 2) Z (fa Z underlying62 Z sizeOf3 Z Z Z) (ac0 Z Z (op_store (i := 3) (cs' := [.str ([] : List UInt8), .sl (.own p314) 1 ((s291.c ++ [x312]).map AV.str), .i (IntKind.wrap .i64 (s291.c2 - 1)), .i (IntKind.wrap .i64 (s291.c3 + r297.2.1)), .bool false, .i 0, .i 0]) Z sizeOf3 (tm Z) (v := .i (IntKind.wrap .i64 (s291.c2 - 1))) (tm Z) Z Z Z (nb Z) Z (xe (aw_region (xa (.ptr p164 3) Z (fa Z underlying62 Z sizeOf3 Z Z Z) ?_))))))))))
       refine xc Z (op_load1 (i := 3) Z isAgg3 (tm Z) Z Z (xm Z Z Z (xa (.i (IntKind.wrap .i64 (r297.1 + 2))) Z (pu_int (v := .i (IntKind.wrap .i64 (r297.1 + 2))) Z Z (tm Z) (AEv.int _ _) Z) (xa (.i (IntKind.wrap .i64 ((IntKind.wrap .i64 (s291.c3 + r297.2.1)) + (IntKind.wrap .i64 (r297.1 + 2))))) Z (pu_int (v := .i (IntKind.wrap .i64 ((IntKind.wrap .i64 (s291.c3 + r297.2.1)) + (IntKind.wrap .i64 (r297.1 + 2))))) Z Z (tm Z) (tm Z) Z) (xa (.ptr p164 3) Z (fa Z underlying62 Z sizeOf3 Z Z Z) (ac0 Z Z (op_store (i := 3) (cs' := [.str ([] : List UInt8), .sl (.own p314) 1 ((s291.c ++ [x312]).map AV.str), .i (IntKind.wrap .i64 (s291.c2 - 1)), .i (IntKind.wrap .i64 ((IntKind.wrap .i64 (s291.c3 + r297.2.1)) + (IntKind.wrap .i64 (r297.1 + 2)))), .bool false, .i 0, .i 0]) Z sizeOf3 (tm Z) (v := .i (IntKind.wrap .i64 ((IntKind.wrap .i64 (s291.c3 + r297.2.1)) + (IntKind.wrap .i64 (r297.1 + 2))))) (tm Z) Z Z Z (nb Z) Z (xe ?_))))))))
       obtain rfl := some_of h
       exact ⟨_, p314, Z, Weak.mkL [1, 2, 3, 0] (by decide) ⟨⟨_, Z, cr, Z⟩, ⟨_, Z, cr, Z⟩, ⟨_, Z, ⟨vr, vr, vr, vr, vr, vr, vr, trivial⟩, Z⟩, ⟨_, Z, Z⟩, trivial⟩ ⟨tm Z, tm Z, tm Z, tm Z, trivial⟩⟩
   ·replace h := ite_f (dec_f hb317) h
    refine aw_exit ?_
    obtain rfl := some_of h
    have h := congrArg some (hx293 _ rfl)
    exact ⟨(s291.c, s291.c2, s291.c3), n292, (some_of h).symm, Weak.mkL [1, 2, 3] (by decide) ⟨⟨_, Z, cr, Z⟩, ⟨_, Z, cr, Z⟩, ⟨_, Z, Z⟩, trivial⟩ ⟨tm Z, tm Z, trivial⟩⟩

theorem mewsref04.digit.ok {c_ : Int} {r : Int} (h : mewsref04.digit c_ = some r) : Go.Lift.Spec prog 73 [.int .u8 c_] [] (fun v H => v = .i r ∧ H = []) := by
 unfold mewsref04.digit at h
 refine Go.Lift.Spec.of_body (rs := [.tmp 2]) func73 Z Z (nb Z) Z (xr (xa (.i 0) Z (pu_assign Z (AEv.int _ _)) (xe (xr (xa (.str [48, 49, 50, 51, 52, 53, 54, 55, 56, 57, 97, 98, 99, 100, 101, 102]) Z (pu_assign Z (AEv.const Z)) (xa (.str [48, 49, 50, 51, 52, 53, 54, 55, 56, 57, 65, 66, 67, 68, 69, 70]) Z (pu_assign Z (AEv.const Z)) (xe ?_)))))))
 obtain ⟨s164, s164e, h123⟩ := bind_some h
 refine aw_join (σ := Unit) (ν := Unit) (fun u v => []) (fun u v => []) (fun u => s164 = .inl u) ?_ ?_
 ·intro s122
  intro _
  rintro rfl
  have h := onSum_inl h123
  refine xr (xa (.i 16) Z (pu_assign Z (AEv.int _ _)) (xe (aw_ret ?_)))
  obtain rfl := some_of h
  exact ⟨[.i 16], _, [], ⟨(tm Z), trivial⟩, vr, Weak.mkL [] (by decide) trivial trivial, ⟨Z, Z⟩⟩
 ·have h := s164e
  refine xr (xa (.i 0) Z (pu_assign Z (AEv.int _ _)) (xe (aw_block (aw_while (σ := mewsref04.digit.S0) (ν := Unit) (mewsref04.digit.body0 c_) (fun s149 v => [(0, .int .u8 c_), (3, .str [48, 49, 50, 51, 52, 53, 54, 55, 56, 57, 97, 98, 99, 100, 101, 102]), (4, .str [48, 49, 50, 51, 52, 53, 54, 55, 56, 57, 65, 66, 67, 68, 69, 70]), (5, .i s149.i)]) (fun s149 v => []) ⟨0⟩ () _ h (Weak.mkL [] (by decide) trivial ⟨tm Z, tm Z, tm Z, tm Z, trivial⟩) ?_))))
  rintro s149 _ x151 h hx150
  unfold mewsref04.digit.body0 at h
  refine aw_seq (xr (xm Z Z Z (xa (.bool (decide (s149.i < 16))) Z (pu_int (v := .bool (decide (s149.i < 16))) Z Z (tm Z) (AEv.int _ _) Z) (xe (aw_cond (b := decide (s149.i < 16)) (tm Z) (fun hb163 => ?_) (fun hb163 => ?_))))))
  ·replace h := ite_t (dec_t hb163) h
   refine aw_skip (aw_seq (aw_block ?_))
   obtain ⟨s156, s156e, h157⟩ := bind_some h
   refine aw_meet (ν := Unit) (fun v => [(0, .int .u8 c_), (3, .str [48, 49, 50, 51, 52, 53, 54, 55, 56, 57, 97, 98, 99, 100, 101, 102]), (4, .str [48, 49, 50, 51, 52, 53, 54, 55, 56, 57, 65, 66, 67, 68, 69, 70]), (5, .i s149.i), (21, .bool s156)]) (fun v => []) ?_ ?_
   ·have h := s156e
    refine aw_region (xm Z Z Z (xm Z Z Z ?_))
    obtain ⟨c159, h⟩ := need_of h
    refine xa (.int .u8 (bix [48, 49, 50, 51, 52, 53, 54, 55, 56, 57, 97, 98, 99, 100, 101, 102] s149.i)) Z (pu_strIdxM Z underlying9 (tm Z) (tm Z) c159) (xm Z Z Z (xa (.bool (decide ((bix [48, 49, 50, 51, 52, 53, 54, 55, 56, 57, 97, 98, 99, 100, 101, 102] s149.i) = c_))) Z (pu_int (v := .bool (decide ((bix [48, 49, 50, 51, 52, 53, 54, 55, 56, 57, 97, 98, 99, 100, 101, 102] s149.i) = c_))) Z Z (tm Z) (tm Z) Z) (xm Z Z Z ?_)))
    rcases Bool.eq_false_or_eq_true (decide ((bix [48, 49, 50, 51, 52, 53, 54, 55, 56, 57, 97, 98, 99, 100, 101, 102] s149.i) = c_)) with hb160 | hb160
    ·replace h := ite_t (dec_t hb160) h
     refine aops_known 15 Z hb160 (xn Z Z Z (xn Z Z Z (xn Z Z Z (xn Z Z Z (xn Z Z Z (xa (.bool true) Z (pu_pick (b := true) Z (tm Z) (fun _ => (AEv.bool _)) (fun h => nomatch h)) (xe ?_)))))))
     obtain rfl := some_of h
     exact ⟨(), Weak.mkL [] (by decide) trivial ⟨tm Z, tm Z, tm Z, tm Z, tm Z, trivial⟩⟩
    ·replace h := ite_f (dec_f hb160) h
     refine aops_known 15 Z hb160 (xq Z Z Z Z (xq Z Z Z Z ?_))
     obtain ⟨c161, h⟩ := need_of h
     refine xp (.int .u8 (bix [48, 49, 50, 51, 52, 53, 54, 55, 56, 57, 65, 66, 67, 68, 69, 70] s149.i)) Z Z (pu_strIdxM Z underlying9 (tm Z) (tm Z) c161) (xq Z Z Z Z (xp (.bool (decide ((bix [48, 49, 50, 51, 52, 53, 54, 55, 56, 57, 65, 66, 67, 68, 69, 70] s149.i) = c_))) Z Z (pu_int (v := .bool (decide ((bix [48, 49, 50, 51, 52, 53, 54, 55, 56, 57, 65, 66, 67, 68, 69, 70] s149.i) = c_))) Z Z (tm Z) (tm Z) Z) (xa (.bool (decide ((bix [48, 49, 50, 51, 52, 53, 54, 55, 56, 57, 65, 66, 67, 68, 69, 70] s149.i) = c_))) Z (pu_pick (b := false) Z (tm Z) (fun h => nomatch h) (fun _ => (tm Z))) (xe ?_))))
     obtain rfl := some_of h
     exact ⟨(), Weak.mkL [] (by decide) trivial ⟨tm Z, tm Z, tm Z, tm Z, (AEv.le (tm Z) vr), trivial⟩⟩
   ·intro _
    have h := h157
    refine aw_cond (b := s156) (tm Z) (fun hb162 => ?_) (fun hb162 => ?_)
    ·replace h := ite_t hb162 h
     refine xr (xm Z Z Z (xm Z Z Z (xe (aw_ret ?_))))
     obtain rfl := some_of h
     have h := congrArg some (hx150 _ rfl)
     obtain rfl := some_of h
     have h := onSum_inr h123
     obtain rfl := some_of h
     exact ⟨[.i s149.i], _, [], ⟨(tm Z), trivial⟩, vr, Weak.mkL [] (by decide) trivial trivial, ⟨Z, Z⟩⟩
    ·replace h := ite_fb hb162 h
     refine aw_skip (aw_region (xm Z Z Z (xa (.i (IntKind.wrap .i64 (s149.i + 1))) Z (pu_int (v := .i (IntKind.wrap .i64 (s149.i + 1))) Z Z (tm Z) (AEv.int _ _) Z) (xm Z Z Z (xe ?_)))))
     obtain rfl := some_of h
     exact ⟨_, (), Z, Weak.mkL [] (by decide) trivial ⟨tm Z, tm Z, tm Z, (AEv.le (tm Z) vr), trivial⟩⟩
  ·replace h := ite_f (dec_f hb163) h
   refine aw_exit ?_
   obtain rfl := some_of h
   have h := congrArg some (hx150 _ rfl)
   exact ⟨(), (), (some_of h).symm, Weak.mkL [] (by decide) trivial trivial⟩

theorem mewsref04.turned.ok {c_ : Int} {r : Int} (h : mewsref04.turned c_ = some r) : Go.Lift.Spec prog 74 [.int .u8 c_] [] (fun v H => v = .int .u8 r ∧ H = []) := by
 unfold mewsref04.turned at h
 refine Go.Lift.Spec.of_body (rs := [.tmp 2]) func74 Z Z (nb Z) Z (xr (xa (.int .u8 0) Z (pu_assign Z (AEv.int _ _)) (xe (xr (xa (.str [110, 114, 116, 98, 97]) Z (pu_assign Z (AEv.const Z)) (xa (.str [10, 13, 9, 8, 7]) Z (pu_assign Z (AEv.const Z)) (xe ?_)))))))
 obtain ⟨s80, s80e, h60⟩ := bind_some h
 refine aw_join (σ := Unit) (ν := Unit) (fun u v => [(0, .int .u8 c_)]) (fun u v => []) (fun u => s80 = .inl u) ?_ ?_
 ·intro s59
  intro _
  rintro rfl
  have h := onSum_inl h60
  refine xr (xm Z Z Z (xm Z Z Z (xe (aw_ret ?_))))
  obtain rfl := some_of h
  exact ⟨[.int .u8 c_], _, [], ⟨(tm Z), trivial⟩, vr, Weak.mkL [] (by decide) trivial trivial, ⟨Z, Z⟩⟩
 ·have h := s80e
  refine xr (xa (.i 0) Z (pu_assign Z (AEv.int _ _)) (xe (aw_block (aw_while (σ := mewsref04.turned.S0) (ν := Unit) (mewsref04.turned.body0 c_) (fun s72 v => [(0, .int .u8 c_), (3, .str [110, 114, 116, 98, 97]), (4, .str [10, 13, 9, 8, 7]), (5, .i s72.i)]) (fun s72 v => []) ⟨0⟩ () _ h (Weak.mkL [] (by decide) trivial ⟨tm Z, tm Z, tm Z, tm Z, trivial⟩) ?_))))
  rintro s72 _ x74 h hx73
  unfold mewsref04.turned.body0 at h
  refine aw_seq (xr (xm Z Z Z (xm Z Z Z (xa (.i ([110, 114, 116, 98, 97].length : Int)) Z (pu_strLen Z underlying9 (tm Z)) (xa (.bool (decide (s72.i < ([110, 114, 116, 98, 97].length : Int)))) Z (pu_int (v := .bool (decide (s72.i < ([110, 114, 116, 98, 97].length : Int)))) Z Z (tm Z) (tm Z) Z) (xe (aw_cond (b := decide (s72.i < ([110, 114, 116, 98, 97].length : Int))) (tm Z) (fun hb79 => ?_) (fun hb79 => ?_))))))))
  ·replace h := ite_t (dec_t hb79) h
   refine aw_skip (aw_seq (aw_block (xr (xm Z Z Z (xm Z Z Z ?_)))))
   obtain ⟨c76, h⟩ := need_of h
   refine xa (.int .u8 (bix [110, 114, 116, 98, 97] s72.i)) Z (pu_strIdxM Z underlying9 (tm Z) (tm Z) c76) (xm Z Z Z (xa (.bool (decide ((bix [110, 114, 116, 98, 97] s72.i) = c_))) Z (pu_int (v := .bool (decide ((bix [110, 114, 116, 98, 97] s72.i) = c_))) Z Z (tm Z) (tm Z) Z) (xe (aw_cond (b := decide ((bix [110, 114, 116, 98, 97] s72.i) = c_)) (tm Z) (fun hb78 => ?_) (fun hb78 => ?_)))))
   ·replace h := ite_t (dec_t hb78) h
    refine xr (xm Z Z Z (xm Z Z Z ?_))
    obtain ⟨c77, h⟩ := need_of h
    refine xa (.int .u8 (bix [10, 13, 9, 8, 7] s72.i)) Z (pu_strIdxM Z underlying9 (tm Z) (tm Z) c77) (xm Z Z Z (xe (aw_ret ?_)))
    obtain rfl := some_of h
    have h := congrArg some (hx73 _ rfl)
    obtain rfl := some_of h
    have h := onSum_inr h60
    obtain rfl := some_of h
    exact ⟨[.int .u8 (bix [10, 13, 9, 8, 7] s72.i)], _, [], ⟨(tm Z), trivial⟩, vr, Weak.mkL [] (by decide) trivial trivial, ⟨Z, Z⟩⟩
   ·replace h := ite_f (dec_f hb78) h
    refine aw_skip (aw_region (xm Z Z Z (xa (.i (IntKind.wrap .i64 (s72.i + 1))) Z (pu_int (v := .i (IntKind.wrap .i64 (s72.i + 1))) Z Z (tm Z) (AEv.int _ _) Z) (xm Z Z Z (xe ?_)))))
    obtain rfl := some_of h
    exact ⟨_, (), Z, Weak.mkL [] (by decide) trivial ⟨tm Z, tm Z, tm Z, (AEv.le (tm Z) vr), trivial⟩⟩
  ·replace h := ite_f (dec_f hb79) h
   refine aw_exit ?_
   obtain rfl := some_of h
   have h := congrArg some (hx73 _ rfl)
   exact ⟨(), (), (some_of h).symm, Weak.mkL [] (by decide) trivial ⟨tm Z, trivial⟩⟩

end Go.Pu
