/- Printed by lift.py: the functions come to them. -/
import Derived.Test.YtlidepjlhmaldaaLiftW
import Derived.Test.YtlidepjlhmaldaaDSK0
set_option maxRecDepth 100000
set_option maxHeartbeats 0
namespace Go.Pu
open Go.Lift Go.Proofs.Try Go.RowKit Go.Proofs

theorem slices.Equal_api_Fault.ok {s1_ : List api.Fault} {s2_ : List api.Fault} {r : Bool} (h : slices.Equal_api_Fault s1_ s2_ = some r) : Go.Lift.Spec prog 33 [.sl .no 3 (s1_.map api.Fault.av), .sl .no 3 (s2_.map api.Fault.av)] [] (fun v H => v = .bool r ∧ H = []) := by
 unfold slices.Equal_api_Fault at h
 refine Go.Lift.Spec.of_body (rs := [.tmp 4]) func33 Z Z (nb Z) Z (xr (xa (.bool false) Z (pu_assign Z (AEv.bool _)) (xe (aw_seq (xr (xm Z Z Z (xa (.i (s1_.length : Int)) Z (pu_lenM Z underlying23 (tm Z)) ?_)))))))
 refine xm Z Z Z (xa (.i (s2_.length : Int)) Z (pu_lenM Z underlying23 (tm Z)) (xa (.bool (!decide ((s1_.length : Int) = (s2_.length : Int)))) Z (pu_int (v := .bool (!decide ((s1_.length : Int) = (s2_.length : Int)))) Z Z (tm Z) (tm Z) Z) (xe (aw_cond (b := (!decide ((s1_.length : Int) = (s2_.length : Int)))) (tm Z) (fun hb82 => ?_) (fun hb82 => ?_)))))
 ·replace h := ite_f (ndec_t hb82) h
  refine xr (xa (.bool false) Z (pu_assign Z (AEv.bool _)) (xe (aw_ret ?_)))
  obtain rfl := some_of h
  exact ⟨[.bool false], _, [], ⟨(tm Z), trivial⟩, vr, Weak.mkL [] (by decide) trivial trivial, ⟨Z, Z⟩⟩
 ·replace h := ite_t (ndec_f hb82) h
  refine aw_skip ?_
  obtain ⟨s81, s81e, h61⟩ := bind_some h
  refine aw_join (σ := Unit) (ν := Unit) (fun u v => []) (fun u v => []) (fun u => s81 = .inl u) ?_ ?_
  ·intro s60
   intro _
   rintro rfl
   have h := onSum_inl h61
   refine xr (xa (.bool true) Z (pu_assign Z (AEv.bool _)) (xe (aw_ret ?_)))
   obtain rfl := some_of h
   exact ⟨[.bool true], _, [], ⟨(tm Z), trivial⟩, vr, Weak.mkL [] (by decide) trivial trivial, ⟨Z, Z⟩⟩
  ·have h := s81e
   refine xr (xm Z Z Z (xa (.i (s1_.length : Int)) Z (pu_lenM Z underlying23 (tm Z)) (xa (.i 0) Z (pu_move Z (AEv.int _ _)) (xe (aw_block (aw_while (σ := slices.Equal_api_Fault.S0) (ν := Unit) (slices.Equal_api_Fault.body0 s1_ s2_) (fun s73 v => [(0, .sl .no 3 (s1_.map api.Fault.av)), (1, .sl .no 3 (s2_.map api.Fault.av)), (12, .i (s1_.length : Int)), (13, .i s73.t13)]) (fun s73 v => []) ⟨0⟩ () _ h (Weak.mkL [] (by decide) trivial ⟨tm Z, tm Z, tm Z, tm Z, trivial⟩) ?_))))))
   rintro s73 _ x75 h hx74
   unfold slices.Equal_api_Fault.body0 at h
   refine xr (xa (.bool (decide (s73.t13 < (s1_.length : Int)))) Z (pu_int (v := .bool (decide (s73.t13 < (s1_.length : Int)))) Z Z (tm Z) (tm Z) Z) (xe (aw_seq (aw_cond (b := decide (s73.t13 < (s1_.length : Int))) (tm Z) (fun hb80 => ?_) (fun hb80 => ?_)))))
   ·replace h := ite_t (dec_t hb80) h
    refine aw_skip (aw_seq (aw_block (xr (xm Z Z Z (xm Z Z Z (xe (aw_seq ?_)))))))
    obtain ⟨c77, h⟩ := need_of h
    obtain ⟨c78, h⟩ := need_of h
    refine aw_planR (by decide +kernel) [[], [], [], [], [], [], [], [], []] [] [] [.sl .no 3 (s1_.map api.Fault.av), .i s73.t13, .vptr [.str (ix s1_ s73.t13).Name, .i (ix s1_ s73.t13).Kind, .i (ix s1_ s73.t13).Short], .agg [.str (ix s1_ s73.t13).Name, .i (ix s1_ s73.t13).Kind, .i (ix s1_ s73.t13).Short], .sl .no 3 (s2_.map api.Fault.av), .i s73.t13, .vptr [.str (ix s2_ s73.t13).Name, .i (ix s2_ s73.t13).Kind, .i (ix s2_ s73.t13).Short], .agg [.str (ix s2_ s73.t13).Name, .i (ix s2_ s73.t13).Kind, .i (ix s2_ s73.t13).Short], .bool (!decide ((ix s1_ s73.t13) = (ix s2_ s73.t13)))] (by decide +kernel) Z Z ?_ ?_
    ·exact ⟨ym Z Z Z, ym Z Z Z, yp Z (pu_indexAddrM Z underlying23 sizeOf70 (tm Z) (tm Z) c77 Z), stepg_plain Z (op_loadVN Z isAgg70 sizeOf70 (tm Z) (nb Z) Z ⟨Z, Z⟩), ym Z Z Z, ym Z Z Z, yp Z (pu_indexAddrM Z underlying23 sizeOf70 (tm Z) (tm Z) c78 Z), stepg_plain Z (op_loadVN Z isAgg70 sizeOf70 (tm Z) (nb Z) Z ⟨Z, Z⟩), yp Z (APure.eq (pu_structNe (b := (decide ((ix s1_ s73.t13).Name = (ix s2_ s73.t13).Name) && (decide ((ix s1_ s73.t13).Kind = (ix s2_ s73.t13).Kind) && (decide ((ix s1_ s73.t13).Short = (ix s2_ s73.t13).Short) && true)))) Z underlying70 (by kernel_rfl) (by kernel_rfl) (tm Z) (tm Z) ⟨_, _, _, _, ⟨by decide, isAgg9, Z, Z, CEq.str underlying9⟩, ⟨_, _, _, _, ⟨by decide, isAgg3, Z, Z, CEq.int underlying3⟩, ⟨_, _, _, _, ⟨by decide, isAgg3, Z, Z, CEq.int underlying3⟩, Z, Z⟩, Z⟩, Z⟩) (congrArg (fun b => AV.bool (!b)) (api.Fault.eq_iff (ix s1_ s73.t13) (ix s2_ s73.t13)).symm)), trivial⟩
    refine aw_cond (b := (!decide ((ix s1_ s73.t13) = (ix s2_ s73.t13)))) (tm Z) (fun hb79 => ?_) (fun hb79 => ?_)
    ·replace h := ite_f (ndec_t hb79) h
     refine xr (xa (.bool false) Z (pu_assign Z (AEv.bool _)) (xe (aw_ret ?_)))
     obtain rfl := some_of h
     have h := congrArg some (hx74 _ rfl)
     obtain rfl := some_of h
     have h := onSum_inr h61
     obtain rfl := some_of h
     exact ⟨[.bool false], _, [], ⟨(tm Z), trivial⟩, vr, Weak.mkL [] (by decide) trivial trivial, ⟨Z, Z⟩⟩
    ·replace h := ite_t (ndec_f hb79) h
     refine aw_skip (aw_region (xa (.i (IntKind.wrap .i64 (s73.t13 + 1))) Z (pu_int (v := .i (IntKind.wrap .i64 (s73.t13 + 1))) Z Z (tm Z) (AEv.int _ _) Z) (xm Z Z Z (xe ?_))))
     obtain rfl := some_of h
     exact ⟨_, (), Z, Weak.mkL [] (by decide) trivial ⟨tm Z, tm Z, tm Z, (AEv.le (tm Z) vr), trivial⟩⟩
   ·replace h := ite_f (dec_f hb80) h
    refine aw_exit ?_
    obtain rfl := some_of h
    have h := congrArg some (hx74 _ rfl)
    exact ⟨(), (), (some_of h).symm, Weak.mkL [] (by decide) trivial trivial⟩

theorem disk.Same.ok {a : api.Disk} {b : api.Disk} {r : Bool} (h : disk.Same a b = some r) : Go.Lift.Spec prog 14 [.agg [.sl .no 3 (a.Files.map api.File.av), .sl .no 3 (a.Faults.map api.Fault.av)], .agg [.sl .no 3 (b.Files.map api.File.av), .sl .no 3 (b.Faults.map api.Fault.av)]] [] (fun v H => v = .bool r ∧ H = []) := by
 unfold disk.Same at h
 refine Go.Lift.Spec.of_body (rs := [.tmp 4]) func14 Z Z (nb Z) Z (xr (xc Z (op_box (cs := [.sl .no 3 (a.Files.map api.File.av), .sl .no 3 (a.Faults.map api.Fault.av)]) (v := .agg [.sl .no 3 (a.Files.map api.File.av), .sl .no 3 (a.Faults.map api.Fault.av)]) Z (tm Z) Z Z ?_)))
 intro p16
 refine xc Z (op_box (cs := [.sl .no 3 (b.Files.map api.File.av), .sl .no 3 (b.Faults.map api.Fault.av)]) (v := .agg [.sl .no 3 (b.Files.map api.File.av), .sl .no 3 (b.Faults.map api.Fault.av)]) Z (tm Z) Z Z ?_)
 intro p17
 refine xa (.bool false) Z (pu_assign Z (AEv.bool _)) (xe ?_)
 obtain ⟨s23, s23e, h24⟩ := bind_some h
 refine aw_meet (ν := Unit) (fun v => [(4, .bool s23)]) (fun v => []) ?_ ?_
 ·have h := s23e
  obtain ⟨r26, r26e, h⟩ := bind_some h
  obtain ⟨r27, r27e, h⟩ := bind_some h
  obtain ⟨r28, r28e, h⟩ := bind_some h
  rcases Bool.eq_false_or_eq_true r28 with hb29 | hb29
  ·replace h := ite_t hb29 h
   obtain ⟨r30, r30e, h⟩ := bind_some h
   refine aw_planR (by decide +kernel) [[(1, 0, false)], [], [(0, 0, false)], [], [], [], [], [(1, 0, false)], [], [(0, 0, false)], [], [], []] [[], []] [[[(p17, .cells [.sl .no 3 (b.Files.map api.File.av), .sl .no 3 (b.Faults.map api.Fault.av)])]], [[(p16, .cells [.sl .no 3 (a.Files.map api.File.av), .sl .no 3 (a.Faults.map api.Fault.av)])]]] [.agg [.sl .no 3 (a.Files.map api.File.av), .sl .no 3 (a.Faults.map api.Fault.av)], .sl .no 3 (r26.map api.File.av), .agg [.sl .no 3 (b.Files.map api.File.av), .sl .no 3 (b.Faults.map api.Fault.av)], .sl .no 3 (r27.map api.File.av), .bool r28, .bool true, .ptr p16 1, .sl .no 3 (a.Faults.map api.Fault.av), .ptr p17 1, .sl .no 3 (b.Faults.map api.Fault.av), .bool r30, .bool r30, .bool r30] (by decide +kernel) Z Z ?_ ?_
   ·exact ⟨stepg_plain Z (op_loadN (i := 0) Z isAgg25 sizeOf25 (tm Z) Z (nb Z) Z ⟨Z, Z⟩), stepg_plain Z (op_call (vs := [.agg [.sl .no 3 (a.Files.map api.File.av), .sl .no 3 (a.Faults.map api.Fault.av)]]) (H := []) Z call32 ⟨(tm Z), trivial⟩ (R := []) (List.Perm.refl _) (disk.counting.ok r26e) (by rintro _ _ ⟨rfl, rfl⟩; exact ⟨Z, Z⟩)), stepg_plain Z (op_loadN (i := 0) Z isAgg25 sizeOf25 (tm Z) Z (nb Z) Z ⟨Z, Z⟩), stepg_plain Z (op_call (vs := [.agg [.sl .no 3 (b.Files.map api.File.av), .sl .no 3 (b.Faults.map api.Fault.av)]]) (H := []) Z call32 ⟨(tm Z), trivial⟩ (R := []) (List.Perm.refl _) (disk.counting.ok r27e) (by rintro _ _ ⟨rfl, rfl⟩; exact ⟨Z, Z⟩)), stepg_plain Z (op_call (vs := [.sl .no 3 (r26.map api.File.av), .sl .no 3 (r27.map api.File.av)]) (H := []) Z call31 ⟨(tm Z), (tm Z), trivial⟩ (R := []) (List.Perm.refl _) (slices.Equal_api_File.ok r28e) (by rintro _ _ ⟨rfl, rfl⟩; exact ⟨Z, Z⟩)), AStepG.cast (ym Z Z Z) (congrArg AV.bool hb29), yq Z Z (fa Z underlying25 Z sizeOf23 Z Z Z), yg Z Z (op_load1 (i := 0) Z isAgg23 (tm Z) Z Z ⟨Z, Z⟩), yq Z Z (fa Z underlying25 Z sizeOf23 Z Z Z), yg Z Z (op_load1 (i := 0) Z isAgg23 (tm Z) Z Z ⟨Z, Z⟩), yg Z Z (op_call (vs := [.sl .no 3 (a.Faults.map api.Fault.av), .sl .no 3 (b.Faults.map api.Fault.av)]) (H := []) Z call33 ⟨(tm Z), (tm Z), trivial⟩ (R := []) (List.Perm.refl _) (slices.Equal_api_Fault.ok r30e) (by rintro _ _ ⟨rfl, rfl⟩; exact ⟨Z, Z⟩)), yp Z (pu_pick (b := true) Z (tm Z) (fun _ => (tm Z)) (fun h => nomatch h)), ym Z Z Z, trivial⟩
   obtain rfl := some_of h
   exact ⟨(), Weak.mkL [] (by decide) trivial ⟨tm Z, trivial⟩⟩
  ·replace h := ite_fb hb29 h
   refine aw_planR (by decide +kernel) [[(1, 0, false)], [], [(0, 0, false)], [], [], [], [], [], [], [], [], [], []] [[], []] [[[(p17, .cells [.sl .no 3 (b.Files.map api.File.av), .sl .no 3 (b.Faults.map api.Fault.av)])]], [[(p16, .cells [.sl .no 3 (a.Files.map api.File.av), .sl .no 3 (a.Faults.map api.Fault.av)])]]] [.agg [.sl .no 3 (a.Files.map api.File.av), .sl .no 3 (a.Faults.map api.Fault.av)], .sl .no 3 (r26.map api.File.av), .agg [.sl .no 3 (b.Files.map api.File.av), .sl .no 3 (b.Faults.map api.Fault.av)], .sl .no 3 (r27.map api.File.av), .bool r28, .bool false, .lit undef, .lit undef, .lit undef, .lit undef, .lit undef, .bool false, .bool false] (by decide +kernel) Z Z ?_ ?_
   ·exact ⟨stepg_plain Z (op_loadN (i := 0) Z isAgg25 sizeOf25 (tm Z) Z (nb Z) Z ⟨Z, Z⟩), stepg_plain Z (op_call (vs := [.agg [.sl .no 3 (a.Files.map api.File.av), .sl .no 3 (a.Faults.map api.Fault.av)]]) (H := []) Z call32 ⟨(tm Z), trivial⟩ (R := []) (List.Perm.refl _) (disk.counting.ok r26e) (by rintro _ _ ⟨rfl, rfl⟩; exact ⟨Z, Z⟩)), stepg_plain Z (op_loadN (i := 0) Z isAgg25 sizeOf25 (tm Z) Z (nb Z) Z ⟨Z, Z⟩), stepg_plain Z (op_call (vs := [.agg [.sl .no 3 (b.Files.map api.File.av), .sl .no 3 (b.Faults.map api.Fault.av)]]) (H := []) Z call32 ⟨(tm Z), trivial⟩ (R := []) (List.Perm.refl _) (disk.counting.ok r27e) (by rintro _ _ ⟨rfl, rfl⟩; exact ⟨Z, Z⟩)), stepg_plain Z (op_call (vs := [.sl .no 3 (r26.map api.File.av), .sl .no 3 (r27.map api.File.av)]) (H := []) Z call31 ⟨(tm Z), (tm Z), trivial⟩ (R := []) (List.Perm.refl _) (slices.Equal_api_File.ok r28e) (by rintro _ _ ⟨rfl, rfl⟩; exact ⟨Z, Z⟩)), AStepG.cast (ym Z Z Z) (congrArg AV.bool hb29), yx Z Z Z, yx Z Z Z, yx Z Z Z, yx Z Z Z, yx Z Z Z, yp Z (pu_pick (b := false) Z (tm Z) (fun h => nomatch h) (fun _ => (AEv.bool _))), ym Z Z Z, trivial⟩
   obtain rfl := some_of h
   exact ⟨(), Weak.mkL [] (by decide) trivial ⟨tm Z, trivial⟩⟩
 ·intro _
  have h := h24
  refine aw_ret ?_
  obtain rfl := some_of h
  exact ⟨[.bool s23], _, [], ⟨(tm Z), trivial⟩, vr, Weak.mkL [] (by decide) trivial trivial, ⟨Z, Z⟩⟩

theorem mewslaw16.DiskSafe.ok {d : api.Disk} {keeps : List api.Keep} {r : Bool} (h : mewslaw16.DiskSafe d keeps = some r) : Go.Lift.Spec prog 4 [.agg [.sl .no 3 (d.Files.map api.File.av), .sl .no 3 (d.Faults.map api.Fault.av)], .sl .no 2 (keeps.map api.Keep.av)] [] (fun v H => v = .bool r ∧ H = []) := by
 unfold mewslaw16.DiskSafe at h
 refine Go.Lift.Spec.of_body (rs := [.tmp 4]) func4 Z Z (nb Z) Z (xr (xc Z (op_box (cs := [.sl .no 3 (d.Files.map api.File.av), .sl .no 3 (d.Faults.map api.Fault.av)]) (v := .agg [.sl .no 3 (d.Files.map api.File.av), .sl .no 3 (d.Faults.map api.Fault.av)]) Z (tm Z) Z Z ?_)))
 intro p201
 refine xa (.bool false) Z (pu_assign Z (AEv.bool _)) (xe (aw_seq ?_))
 obtain ⟨s204, s204e, h205⟩ := bind_some h
 refine aw_meet (ν := Unit) (fun v => [(1, .sl .no 2 (keeps.map api.Keep.av)), (2, .ptr p201 0), (19, .bool s204)]) (fun v => [(p201, .cells [.sl .no 3 (d.Files.map api.File.av), .sl .no 3 (d.Faults.map api.Fault.av)])]) ?_ ?_
 ·have h := s204e
  refine aw_region (xc Z (op_loadN (i := 0) Z isAgg25 sizeOf25 (tm Z) Z (nb Z) Z ?_))
  obtain ⟨r207, r207e, h⟩ := bind_some h
  refine xc Z (op_call (vs := [.agg [.sl .no 3 (d.Files.map api.File.av), .sl .no 3 (d.Faults.map api.Fault.av)], .sl .no 4 (([] : List mewslaw16.Op).map mewslaw16.Op.av)]) (H := []) Z call6 ⟨(tm Z), (AEv.le (AEv.nil 4 (by decide)) (AV.Le.forget _ _ _)), trivial⟩ (List.Perm.refl _) (mewslaw16.Far.ok r207e) ?_)
  rintro _ _ ⟨rfl, rfl⟩
  refine xm Z Z Z ?_
  rcases Bool.eq_false_or_eq_true r207 with hb208 | hb208
  ·replace h := ite_t hb208 h
   refine aops_known 15 Z hb208 (xn Z Z Z (xn Z Z Z (xn Z Z Z (xa (.bool true) Z (pu_pick (b := true) Z (tm Z) (fun _ => (AEv.bool _)) (fun h => nomatch h)) (xe ?_)))))
   obtain rfl := some_of h
   exact ⟨(), Weak.mkL [0] (by decide) ⟨⟨_, Z, cr, Z⟩, trivial⟩ ⟨tm Z, tm Z, tm Z, trivial⟩⟩
  ·replace h := ite_fb hb208 h
   refine aops_known 15 Z hb208 (xq Z Z Z Z (xp (.i (keeps.length : Int)) Z Z (pu_lenM Z underlying38 (tm Z)) (xp (.bool (decide (100 < (keeps.length : Int)))) Z Z (pu_int (v := .bool (decide (100 < (keeps.length : Int)))) Z Z (tm Z) (AEv.int _ _) Z) (xa (.bool (decide (100 < (keeps.length : Int)))) Z (pu_pick (b := false) Z (tm Z) (fun h => nomatch h) (fun _ => (tm Z))) (xe ?_)))))
   obtain rfl := some_of h
   exact ⟨(), Weak.mkL [0] (by decide) ⟨⟨_, Z, cr, Z⟩, trivial⟩ ⟨tm Z, tm Z, (AEv.le (tm Z) vr), trivial⟩⟩
 ·intro _
  have h := h205
  refine aw_cond (b := s204) (tm Z) (fun hb400 => ?_) (fun hb400 => ?_)
  ·replace h := ite_t hb400 h
   refine aw_seq (aw_region ?_)
   obtain ⟨r209, r209e, h⟩ := bind_some h
   refine xc Z (op_call (vs := []) (H := []) Z call7 trivial (List.Perm.refl _) (mewslaw16.alive.ok r209e) ?_)
   rintro _ _ ⟨rfl, rfl⟩
   refine xm Z Z Z (xe (aw_ret ?_))
   obtain rfl := some_of h
   exact ⟨[.bool r209], _, [], ⟨(tm Z), trivial⟩, vr, Weak.mkL [] (by decide) trivial trivial, ⟨Z, Z⟩⟩
  ·replace h := ite_fb hb400 h
   refine aw_skip (xr (xc Z (op_loadN (i := 0) Z isAgg25 sizeOf25 (tm Z) Z (nb Z) Z (xm Z Z Z ?_))))
   obtain ⟨r210, r210e, h⟩ := bind_some h
   refine xc Z (op_call (vs := [.agg [.sl .no 3 (d.Files.map api.File.av), .sl .no 3 (d.Faults.map api.Fault.av)], .sl .no 2 (keeps.map api.Keep.av)]) (H := []) Z call11 ⟨(tm Z), (tm Z), trivial⟩ (List.Perm.refl _) (disk.Crash.ok r210e) ?_)
   rintro _ _ ⟨t211, rfl, rfl⟩
   refine xc Z (op_alloc (cs := [.sl .full 3 (([] : List api.File).map api.File.av), .sl .full 3 (([] : List api.Fault).map api.Fault.av)]) (v := .agg [.sl .full 3 (([] : List api.File).map api.File.av), .sl .full 3 (([] : List api.Fault).map api.Fault.av)]) Z zeroValue25 Z Z Z ?_)
   intro p212
   refine ac0 Z Z (op_store (i := 0) (cs' := [.sl (.own t211) 3 (r210.Files.map api.File.av), .sl .full 3 (r210.Faults.map api.Fault.av)]) Z sizeOf25 (tm Z) (v := .agg [.sl (.own t211) 3 (r210.Files.map api.File.av), .sl .full 3 (r210.Faults.map api.Fault.av)]) (tm Z) Z Z Z (nb Z) Z (xe (aw_seq ?_)))
   obtain ⟨s220, s220e, h221⟩ := bind_some h
   refine aw_meet (ν := Unit) (fun v => [(2, .ptr p201 0), (5, .ptr p212 0), (42, .bool s220)]) (fun v => [(p201, .cells [.sl .no 3 (d.Files.map api.File.av), .sl .no 3 (d.Faults.map api.Fault.av)]), (p212, .cells [.sl (.own t211) 3 (r210.Files.map api.File.av), .sl .full 3 (r210.Faults.map api.Fault.av)]), (t211, .spare)]) ?_ ?_
   ·have h := s220e
    obtain ⟨r223, r223e, h⟩ := bind_some h
    obtain ⟨r224, r224e, h⟩ := bind_some h
    obtain ⟨r225, r225e, h⟩ := bind_some h
    rcases Bool.eq_false_or_eq_true (!r225) with hb226 | hb226
    ·replace h := ite_t hb226 h
     refine aw_planR (by decide +kernel) [[(0, 0, false)], [], [(2, 0, false)], [], [], [], [], [], [], [], [], [], [], [], [], [], [], [], []] [[], [], []] [[[(p212, .cells [.sl (.own t211) 3 (r210.Files.map api.File.av), .sl .full 3 (r210.Faults.map api.Fault.av)])]], [[(t211, .spare)]], [[(p201, .cells [.sl .no 3 (d.Files.map api.File.av), .sl .no 3 (d.Faults.map api.Fault.av)])]]] [.agg [.sl (.own t211) 3 (r210.Files.map api.File.av), .sl .full 3 (r210.Faults.map api.Fault.av)], .sl .no 1 (r223.map AV.str), .agg [.sl .no 3 (d.Files.map api.File.av), .sl .no 3 (d.Faults.map api.Fault.av)], .sl .no 1 (r224.map AV.str), .bool r225, .bool (!r225), .bool true, .lit undef, .lit undef, .lit undef, .lit undef, .bool true, .bool true, .lit undef, .lit undef, .lit undef, .lit undef, .lit undef, .bool true] (by decide +kernel) Z Z ?_ ?_
     ·exact ⟨stepg_plain Z (op_loadN (i := 0) Z isAgg25 sizeOf25 (tm Z) Z (nb Z) Z ⟨Z, Z⟩), stepg_plain Z (op_call (vs := [.agg [.sl .no 3 (r210.Files.map api.File.av), .sl .no 3 (r210.Faults.map api.Fault.av)]]) (H := []) Z call13 ⟨(AEv.le (tm Z) (AV.Le.agg ⟨(AV.Le.forget _ _ _), (AV.Le.forget _ _ _), trivial⟩)), trivial⟩ (R := []) (List.Perm.refl _) (disk.Names.ok r223e) (by rintro _ _ ⟨rfl, rfl⟩; exact ⟨Z, Z⟩)), stepg_plain Z (op_loadN (i := 0) Z isAgg25 sizeOf25 (tm Z) Z (nb Z) Z ⟨Z, Z⟩), stepg_plain Z (op_call (vs := [.agg [.sl .no 3 (d.Files.map api.File.av), .sl .no 3 (d.Faults.map api.Fault.av)]]) (H := []) Z call13 ⟨(tm Z), trivial⟩ (R := []) (List.Perm.refl _) (disk.Names.ok r224e) (by rintro _ _ ⟨rfl, rfl⟩; exact ⟨Z, Z⟩)), stepg_plain Z (op_call (vs := [.sl .no 1 (r223.map AV.str), .sl .no 1 (r224.map AV.str)]) (H := []) Z call12 ⟨(tm Z), (tm Z), trivial⟩ (R := []) (List.Perm.refl _) (mewsref02.Same.ok r225e) (by rintro _ _ ⟨rfl, rfl⟩; exact ⟨Z, Z⟩)), yp Z (pu_not Z (tm Z)), AStepG.cast (ym Z Z Z) (congrArg AV.bool hb226), yx Z Z Z, yx Z Z Z, yx Z Z Z, yx Z Z Z, yp Z (pu_pick (b := true) Z (tm Z) (fun _ => (AEv.bool _)) (fun h => nomatch h)), ym Z Z Z, yx Z Z Z, yx Z Z Z, yx Z Z Z, yx Z Z Z, yx Z Z Z, yp Z (pu_pick (b := true) Z (tm Z) (fun _ => (AEv.bool _)) (fun h => nomatch h)), trivial⟩
     obtain rfl := some_of h
     exact ⟨(), Weak.mkL [2, 0, 1] (by decide) ⟨⟨_, Z, cr, Z⟩, ⟨_, Z, cr, Z⟩, ⟨_, Z, Z⟩, trivial⟩ ⟨tm Z, tm Z, tm Z, trivial⟩⟩
    ·replace h := ite_fb hb226 h
     rcases Bool.eq_false_or_eq_true (decide (0 < (r210.Faults.length : Int))) with hb227 | hb227
     ·replace h := ite_t (dec_t hb227) h
      refine aw_planR (by decide +kernel) [[(0, 0, false)], [], [(2, 0, false)], [], [], [], [], [], [(0, 0, false)], [], [], [], [], [], [], [], [], [], []] [[], [], []] [[[(p212, .cells [.sl (.own t211) 3 (r210.Files.map api.File.av), .sl .full 3 (r210.Faults.map api.Fault.av)])]], [[(t211, .spare)]], [[(p201, .cells [.sl .no 3 (d.Files.map api.File.av), .sl .no 3 (d.Faults.map api.Fault.av)])]]] [.agg [.sl (.own t211) 3 (r210.Files.map api.File.av), .sl .full 3 (r210.Faults.map api.Fault.av)], .sl .no 1 (r223.map AV.str), .agg [.sl .no 3 (d.Files.map api.File.av), .sl .no 3 (d.Faults.map api.Fault.av)], .sl .no 1 (r224.map AV.str), .bool r225, .bool (!r225), .bool false, .ptr p212 1, .sl .full 3 (r210.Faults.map api.Fault.av), .i (r210.Faults.length : Int), .bool (decide (0 < (r210.Faults.length : Int))), .bool (decide (0 < (r210.Faults.length : Int))), .bool true, .lit undef, .lit undef, .lit undef, .lit undef, .lit undef, .bool true] (by decide +kernel) Z Z ?_ ?_
      ·exact ⟨stepg_plain Z (op_loadN (i := 0) Z isAgg25 sizeOf25 (tm Z) Z (nb Z) Z ⟨Z, Z⟩), stepg_plain Z (op_call (vs := [.agg [.sl .no 3 (r210.Files.map api.File.av), .sl .no 3 (r210.Faults.map api.Fault.av)]]) (H := []) Z call13 ⟨(AEv.le (tm Z) (AV.Le.agg ⟨(AV.Le.forget _ _ _), (AV.Le.forget _ _ _), trivial⟩)), trivial⟩ (R := []) (List.Perm.refl _) (disk.Names.ok r223e) (by rintro _ _ ⟨rfl, rfl⟩; exact ⟨Z, Z⟩)), stepg_plain Z (op_loadN (i := 0) Z isAgg25 sizeOf25 (tm Z) Z (nb Z) Z ⟨Z, Z⟩), stepg_plain Z (op_call (vs := [.agg [.sl .no 3 (d.Files.map api.File.av), .sl .no 3 (d.Faults.map api.Fault.av)]]) (H := []) Z call13 ⟨(tm Z), trivial⟩ (R := []) (List.Perm.refl _) (disk.Names.ok r224e) (by rintro _ _ ⟨rfl, rfl⟩; exact ⟨Z, Z⟩)), stepg_plain Z (op_call (vs := [.sl .no 1 (r223.map AV.str), .sl .no 1 (r224.map AV.str)]) (H := []) Z call12 ⟨(tm Z), (tm Z), trivial⟩ (R := []) (List.Perm.refl _) (mewsref02.Same.ok r225e) (by rintro _ _ ⟨rfl, rfl⟩; exact ⟨Z, Z⟩)), yp Z (pu_not Z (tm Z)), AStepG.cast (ym Z Z Z) (congrArg AV.bool hb226), yq Z Z (fa Z underlying25 Z sizeOf23 Z Z Z), yg Z Z (op_load1 (i := 0) Z isAgg23 (tm Z) Z Z ⟨Z, Z⟩), yq Z Z (pu_lenM Z underlying23 (tm Z)), yq Z Z (pu_int (v := .bool (decide (0 < (r210.Faults.length : Int)))) Z Z (tm Z) (AEv.int _ _) Z), yp Z (pu_pick (b := false) Z (tm Z) (fun h => nomatch h) (fun _ => (tm Z))), AStepG.cast (ym Z Z Z) (congrArg AV.bool hb227), yx Z Z Z, yx Z Z Z, yx Z Z Z, yx Z Z Z, yx Z Z Z, yp Z (pu_pick (b := true) Z (tm Z) (fun _ => (AEv.bool _)) (fun h => nomatch h)), trivial⟩
      obtain rfl := some_of h
      exact ⟨(), Weak.mkL [2, 0, 1] (by decide) ⟨⟨_, Z, cr, Z⟩, ⟨_, Z, cr, Z⟩, ⟨_, Z, Z⟩, trivial⟩ ⟨tm Z, tm Z, tm Z, trivial⟩⟩
     ·replace h := ite_f (dec_f hb227) h
      obtain ⟨r228, r228e, h⟩ := bind_some h
      obtain ⟨r229, r229e, h⟩ := bind_some h
      refine aw_planR (by decide +kernel) [[(0, 0, false)], [], [(2, 0, false)], [], [], [], [], [], [(0, 0, false)], [], [], [], [], [(0, 0, false)], [], [(0, 0, false)], [], [], []] [[], [], []] [[[(p212, .cells [.sl (.own t211) 3 (r210.Files.map api.File.av), .sl .full 3 (r210.Faults.map api.Fault.av)])]], [[(t211, .spare)]], [[(p201, .cells [.sl .no 3 (d.Files.map api.File.av), .sl .no 3 (d.Faults.map api.Fault.av)])]]] [.agg [.sl (.own t211) 3 (r210.Files.map api.File.av), .sl .full 3 (r210.Faults.map api.Fault.av)], .sl .no 1 (r223.map AV.str), .agg [.sl .no 3 (d.Files.map api.File.av), .sl .no 3 (d.Faults.map api.Fault.av)], .sl .no 1 (r224.map AV.str), .bool r225, .bool (!r225), .bool false, .ptr p212 1, .sl .full 3 (r210.Faults.map api.Fault.av), .i (r210.Faults.length : Int), .bool (decide (0 < (r210.Faults.length : Int))), .bool (decide (0 < (r210.Faults.length : Int))), .bool false, .agg [.sl (.own t211) 3 (r210.Files.map api.File.av), .sl .full 3 (r210.Faults.map api.Fault.av)], .agg [.sl .no 3 (r228.Files.map api.File.av), .sl .no 3 (r228.Faults.map api.Fault.av)], .agg [.sl (.own t211) 3 (r210.Files.map api.File.av), .sl .full 3 (r210.Faults.map api.Fault.av)], .bool r229, .bool (!r229), .bool (!r229)] (by decide +kernel) Z Z ?_ ?_
      ·exact ⟨stepg_plain Z (op_loadN (i := 0) Z isAgg25 sizeOf25 (tm Z) Z (nb Z) Z ⟨Z, Z⟩), stepg_plain Z (op_call (vs := [.agg [.sl .no 3 (r210.Files.map api.File.av), .sl .no 3 (r210.Faults.map api.Fault.av)]]) (H := []) Z call13 ⟨(AEv.le (tm Z) (AV.Le.agg ⟨(AV.Le.forget _ _ _), (AV.Le.forget _ _ _), trivial⟩)), trivial⟩ (R := []) (List.Perm.refl _) (disk.Names.ok r223e) (by rintro _ _ ⟨rfl, rfl⟩; exact ⟨Z, Z⟩)), stepg_plain Z (op_loadN (i := 0) Z isAgg25 sizeOf25 (tm Z) Z (nb Z) Z ⟨Z, Z⟩), stepg_plain Z (op_call (vs := [.agg [.sl .no 3 (d.Files.map api.File.av), .sl .no 3 (d.Faults.map api.Fault.av)]]) (H := []) Z call13 ⟨(tm Z), trivial⟩ (R := []) (List.Perm.refl _) (disk.Names.ok r224e) (by rintro _ _ ⟨rfl, rfl⟩; exact ⟨Z, Z⟩)), stepg_plain Z (op_call (vs := [.sl .no 1 (r223.map AV.str), .sl .no 1 (r224.map AV.str)]) (H := []) Z call12 ⟨(tm Z), (tm Z), trivial⟩ (R := []) (List.Perm.refl _) (mewsref02.Same.ok r225e) (by rintro _ _ ⟨rfl, rfl⟩; exact ⟨Z, Z⟩)), yp Z (pu_not Z (tm Z)), AStepG.cast (ym Z Z Z) (congrArg AV.bool hb226), yq Z Z (fa Z underlying25 Z sizeOf23 Z Z Z), yg Z Z (op_load1 (i := 0) Z isAgg23 (tm Z) Z Z ⟨Z, Z⟩), yq Z Z (pu_lenM Z underlying23 (tm Z)), yq Z Z (pu_int (v := .bool (decide (0 < (r210.Faults.length : Int)))) Z Z (tm Z) (AEv.int _ _) Z), yp Z (pu_pick (b := false) Z (tm Z) (fun h => nomatch h) (fun _ => (tm Z))), AStepG.cast (ym Z Z Z) (congrArg AV.bool hb227), yg Z Z (op_loadN (i := 0) Z isAgg25 sizeOf25 (tm Z) Z (nb Z) Z ⟨Z, Z⟩), yg Z Z (aop_forget (.agg [.sl .no 3 (r228.Files.map api.File.av), .sl .no 3 (r228.Faults.map api.Fault.av)]) [] (op_call (vs := [.agg [.sl .no 3 (r210.Files.map api.File.av), .sl .no 3 (r210.Faults.map api.Fault.av)], .sl .no 2 (([] : List api.Keep).map api.Keep.av)]) (H := []) Z call11 ⟨(AEv.le (tm Z) (AV.Le.agg ⟨(AV.Le.forget _ _ _), (AV.Le.forget _ _ _), trivial⟩)), (AEv.le (AEv.nil 2 (by decide)) (AV.Le.forget _ _ _)), trivial⟩ (R := []) (List.Perm.refl _) (disk.Crash.ok r228e) (by rintro _ _ ⟨_, rfl, rfl⟩; exact ⟨([] : List Nat), _, Z, Z, (AV.Le.agg ⟨(AV.Le.forget _ _ _), (AV.Le.forget _ _ _), trivial⟩), List.nodup_nil, Z⟩)) ⟨Z, Z⟩), yg Z Z (op_loadN (i := 0) Z isAgg25 sizeOf25 (tm Z) Z (nb Z) Z ⟨Z, Z⟩), yg Z Z (op_call (vs := [.agg [.sl .no 3 (r228.Files.map api.File.av), .sl .no 3 (r228.Faults.map api.Fault.av)], .agg [.sl .no 3 (r210.Files.map api.File.av), .sl .no 3 (r210.Faults.map api.Fault.av)]]) (H := []) Z call14 ⟨(tm Z), (AEv.le (tm Z) (AV.Le.agg ⟨(AV.Le.forget _ _ _), (AV.Le.forget _ _ _), trivial⟩)), trivial⟩ (R := []) (List.Perm.refl _) (disk.Same.ok r229e) (by rintro _ _ ⟨rfl, rfl⟩; exact ⟨Z, Z⟩)), yq Z Z (pu_not Z (tm Z)), yp Z (pu_pick (b := false) Z (tm Z) (fun h => nomatch h) (fun _ => (tm Z))), trivial⟩
      obtain rfl := some_of h
      exact ⟨(), Weak.mkL [2, 0, 1] (by decide) ⟨⟨_, Z, cr, Z⟩, ⟨_, Z, cr, Z⟩, ⟨_, Z, Z⟩, trivial⟩ ⟨tm Z, tm Z, tm Z, trivial⟩⟩
   ·intro _
    have h := h221
    refine aw_cond (b := s220) (tm Z) (fun hb399 => ?_) (fun hb399 => ?_)
    ·replace h := ite_t hb399 h
     refine xr (xa (.bool false) Z (pu_assign Z (AEv.bool _)) (xe (aw_ret ?_)))
     obtain rfl := some_of h
     exact ⟨[.bool false], _, [], ⟨(tm Z), trivial⟩, vr, Weak.mkL [] (by decide) trivial trivial, ⟨Z, Z⟩⟩
    ·replace h := ite_fb hb399 h
     refine aw_skip ?_
     obtain ⟨s398, s398e, h313⟩ := bind_some h
     refine aw_join (σ := Unit) (ν := Unit) (fun u v => []) (fun u v => []) (fun u => s398 = .inl u) ?_ ?_
     ·intro s312
      intro _
      rintro rfl
      have h := onSum_inl h313
      refine aw_seq (aw_region ?_)
      obtain ⟨r397, r397e, h⟩ := bind_some h
      refine xc Z (op_call (vs := []) (H := []) Z call7 trivial (List.Perm.refl _) (mewslaw16.alive.ok r397e) ?_)
      rintro _ _ ⟨rfl, rfl⟩
      refine xm Z Z Z (xe (aw_ret ?_))
      obtain rfl := some_of h
      exact ⟨[.bool r397], _, [], ⟨(tm Z), trivial⟩, vr, Weak.mkL [] (by decide) trivial trivial, ⟨Z, Z⟩⟩
     ·have h := s398e
      refine xr (xc Z (op_loadN (i := 0) Z isAgg25 sizeOf25 (tm Z) Z (nb Z) Z ?_))
      obtain ⟨r315, r315e, h⟩ := bind_some h
      refine xc Z (op_call (vs := [.agg [.sl .no 3 (d.Files.map api.File.av), .sl .no 3 (d.Faults.map api.Fault.av)]]) (H := []) Z call13 ⟨(tm Z), trivial⟩ (List.Perm.refl _) (disk.Names.ok r315e) ?_)
      rintro _ _ ⟨rfl, rfl⟩
      refine xa (.i (r315.length : Int)) Z (pu_lenM Z underlying41 (tm Z)) (xa (.i 0) Z (pu_move Z (AEv.int _ _)) (xe (aw_block (aw_while (σ := mewslaw16.DiskSafe.S0) (ν := Unit) (mewslaw16.DiskSafe.body0 r315 d r210) (fun s368 v => [(2, .ptr p201 0), (5, .ptr p212 0), (44, .sl .no 1 (r315.map AV.str)), (45, .i (r315.length : Int)), (46, .i s368.t46)]) (fun s368 v => [(p201, .cells [.sl .no 3 (d.Files.map api.File.av), .sl .no 3 (d.Faults.map api.Fault.av)]), (p212, .cells [.sl (.own t211) 3 (r210.Files.map api.File.av), .sl .full 3 (r210.Faults.map api.Fault.av)]), (t211, .spare)]) ⟨0⟩ () _ h (Weak.mkL [0, 1, 2] (by decide) ⟨⟨_, Z, cr, Z⟩, ⟨_, Z, cr, Z⟩, ⟨_, Z, Z⟩, trivial⟩ ⟨tm Z, tm Z, tm Z, tm Z, tm Z, trivial⟩) ?_))))
      rintro s368 _ x370 h hx369
      unfold mewslaw16.DiskSafe.body0 at h
      refine xr (xa (.bool (decide (s368.t46 < (r315.length : Int)))) Z (pu_int (v := .bool (decide (s368.t46 < (r315.length : Int)))) Z Z (tm Z) (tm Z) Z) (xe (aw_seq (aw_cond (b := decide (s368.t46 < (r315.length : Int))) (tm Z) (fun hb396 => ?_) (fun hb396 => ?_)))))
      ·replace h := ite_t (dec_t hb396) h
       refine aw_skip (aw_seq (aw_block (aw_seq (aw_region ?_))))
       obtain ⟨c372, h⟩ := need_of h
       refine xa (.vptr [.str (ix r315 s368.t46)]) Z (pu_indexAddrM Z underlying41 sizeOf9 (tm Z) (tm Z) c372 Z) (xc Z (op_loadV1 Z isAgg9 (tm Z) Z (xm Z Z Z (xe (xr (xc Z (op_loadN (i := 0) Z isAgg25 sizeOf25 (tm Z) Z (nb Z) Z (xm Z Z Z ?_))))))))
       obtain ⟨r373, r373e, h⟩ := bind_some h
       refine xc Z (op_call (vs := [.agg [.sl .no 3 (d.Files.map api.File.av), .sl .no 3 (d.Faults.map api.Fault.av)], .str (ix r315 s368.t46)]) (H := []) Z call9 ⟨(tm Z), (tm Z), trivial⟩ (List.Perm.refl _) (disk.Read.ok r373e) ?_)
       rintro _ _ ⟨rfl, rfl⟩
       refine xm Z Z Z (xa (.str r373.1) Z (pu_extract Z (tm Z) (nb Z) Z) (xa (.i r373.2) Z (pu_extract Z (tm Z) (nb Z) Z) (xm Z Z Z (xm Z Z Z (xe (xr (xc Z (op_loadN (i := 1) Z isAgg25 sizeOf25 (tm Z) Z (nb Z) Z (xm Z Z Z ?_)))))))))
       obtain ⟨r374, r374e, h⟩ := bind_some h
       refine xc Z (op_call (vs := [.agg [.sl .no 3 (r210.Files.map api.File.av), .sl .no 3 (r210.Faults.map api.Fault.av)], .str (ix r315 s368.t46)]) (H := []) Z call9 ⟨(AEv.le (tm Z) (AV.Le.agg ⟨(AV.Le.forget _ _ _), (AV.Le.forget _ _ _), trivial⟩)), (tm Z), trivial⟩ (List.Perm.refl _) (disk.Read.ok r374e) ?_)
       rintro _ _ ⟨rfl, rfl⟩
       refine xm Z Z Z (xa (.str r374.1) Z (pu_extract Z (tm Z) (nb Z) Z) (xa (.i r374.2) Z (pu_extract Z (tm Z) (nb Z) Z) (xm Z Z Z (xm Z Z Z (xe (xr (xc Z (op_loadN (i := 0) Z isAgg25 sizeOf25 (tm Z) Z (nb Z) Z (xm Z Z Z ?_)))))))))
       obtain ⟨r375, r375e, h⟩ := bind_some h
       refine xc Z (op_call (vs := [.agg [.sl .no 3 (d.Files.map api.File.av), .sl .no 3 (d.Faults.map api.Fault.av)], .str (ix r315 s368.t46)]) (H := []) Z call10 ⟨(tm Z), (tm Z), trivial⟩ (List.Perm.refl _) (disk.Safe.ok r375e) ?_)
       rintro _ _ ⟨rfl, rfl⟩
       refine xm Z Z Z (xe ?_)
       obtain ⟨s384, s384e, h385⟩ := bind_some h
       refine aw_meet (ν := Unit) (fun v => [(2, .ptr p201 0), (5, .ptr p212 0), (44, .sl .no 1 (r315.map AV.str)), (45, .i (r315.length : Int)), (46, .i s368.t46), (103, .bool s384)]) (fun v => [(p201, .cells [.sl .no 3 (d.Files.map api.File.av), .sl .no 3 (d.Faults.map api.Fault.av)]), (p212, .cells [.sl (.own t211) 3 (r210.Files.map api.File.av), .sl .full 3 (r210.Faults.map api.Fault.av)]), (t211, .spare)]) ?_ ?_
       ·have h := s384e
        refine aw_region (xm Z Z Z (xa (.bool (!decide (r374.2 = 0))) Z (pu_int (v := .bool (!decide (r374.2 = 0))) Z Z (tm Z) (AEv.int _ _) Z) (xm Z Z Z ?_)))
        rcases Bool.eq_false_or_eq_true (!decide (r374.2 = 0)) with hb387 | hb387
        ·replace h := ite_f (ndec_t hb387) h
         refine aops_known 67 Z hb387 (xn Z Z Z (xn Z Z Z (xn Z Z Z (xn Z Z Z (xn Z Z Z (xa (.bool true) Z (pu_pick (b := true) Z (tm Z) (fun _ => (AEv.bool _)) (fun h => nomatch h)) (xm Z Z Z (xn Z Z Z (xn Z Z Z ?_)))))))))
         refine xn Z Z Z (xn Z Z Z (xn Z Z Z (xn Z Z Z (xa (.bool true) Z (pu_pick (b := true) Z (tm Z) (fun _ => (AEv.bool _)) (fun h => nomatch h)) (xm Z Z Z (xn Z Z Z (xn Z Z Z (xn Z Z Z (xn Z Z Z ?_)))))))))
         refine xn Z Z Z (xa (.bool true) Z (pu_pick (b := true) Z (tm Z) (fun _ => (AEv.bool _)) (fun h => nomatch h)) (xm Z Z Z (xn Z Z Z (xn Z Z Z (xn Z Z Z (xn Z Z Z (xn Z Z Z (xn Z Z Z (xa (.bool true) Z (pu_pick (b := true) Z (tm Z) (fun _ => (AEv.bool _)) (fun h => nomatch h)) ?_)))))))))
         refine xm Z Z Z (xn Z Z Z (xn Z Z Z (xn Z Z Z (xn Z Z Z (xn Z Z Z (xa (.bool true) Z (pu_pick (b := true) Z (tm Z) (fun _ => (AEv.bool _)) (fun h => nomatch h)) (xe ?_)))))))
         obtain rfl := some_of h
         exact ⟨(), Weak.mkL [0, 1, 2] (by decide) ⟨⟨_, Z, cr, Z⟩, ⟨_, Z, cr, Z⟩, ⟨_, Z, Z⟩, trivial⟩ ⟨tm Z, tm Z, tm Z, tm Z, tm Z, tm Z, trivial⟩⟩
        ·replace h := ite_t (ndec_f hb387) h
         refine aops_known 67 Z hb387 (xq Z Z Z Z (xp (.i (r374.1.length : Int)) Z Z (pu_strLen Z underlying9 (tm Z)) (xq Z Z Z Z (xp (.i (r373.1.length : Int)) Z Z (pu_strLen Z underlying9 (tm Z)) (xp (.bool (decide ((r373.1.length : Int) < (r374.1.length : Int)))) Z Z (pu_int (v := .bool (decide ((r373.1.length : Int) < (r374.1.length : Int)))) Z Z (tm Z) (tm Z) Z) (xa (.bool (decide ((r373.1.length : Int) < (r374.1.length : Int)))) Z (pu_pick (b := false) Z (tm Z) (fun h => nomatch h) (fun _ => (tm Z))) (xm Z Z Z ?_)))))))
         rcases Bool.eq_false_or_eq_true (decide ((r373.1.length : Int) < (r374.1.length : Int))) with hb388 | hb388
         ·replace h := ite_t (dec_t hb388) h
          refine aops_known 74 Z hb388 (xn Z Z Z (xn Z Z Z (xn Z Z Z (xn Z Z Z (xn Z Z Z (xn Z Z Z (xa (.bool true) Z (pu_pick (b := true) Z (tm Z) (fun _ => (AEv.bool _)) (fun h => nomatch h)) (xm Z Z Z (xn Z Z Z ?_)))))))))
          refine xn Z Z Z (xn Z Z Z (xn Z Z Z (xn Z Z Z (xa (.bool true) Z (pu_pick (b := true) Z (tm Z) (fun _ => (AEv.bool _)) (fun h => nomatch h)) (xm Z Z Z (xn Z Z Z (xn Z Z Z (xn Z Z Z (xn Z Z Z ?_)))))))))
          refine xn Z Z Z (xn Z Z Z (xa (.bool true) Z (pu_pick (b := true) Z (tm Z) (fun _ => (AEv.bool _)) (fun h => nomatch h)) (xm Z Z Z (xn Z Z Z (xn Z Z Z (xn Z Z Z (xn Z Z Z (xn Z Z Z (xa (.bool true) Z (pu_pick (b := true) Z (tm Z) (fun _ => (AEv.bool _)) (fun h => nomatch h)) ?_)))))))))
          refine xe ?_
          obtain rfl := some_of h
          exact ⟨(), Weak.mkL [0, 1, 2] (by decide) ⟨⟨_, Z, cr, Z⟩, ⟨_, Z, cr, Z⟩, ⟨_, Z, Z⟩, trivial⟩ ⟨tm Z, tm Z, tm Z, tm Z, tm Z, tm Z, trivial⟩⟩
         ·replace h := ite_f (dec_f hb388) h
          refine aops_known 74 Z hb388 (xq Z Z Z Z (xq Z Z Z Z (xp (.i (r374.1.length : Int)) Z Z (pu_strLen Z underlying9 (tm Z)) ?_)))
          obtain ⟨c389, h⟩ := need_of h
          refine xp (.str (sub r373.1 0 (r374.1.length : Int))) Z Z (pu_strSliceM Z underlying9 (tm Z) Z ⟨_, (tm Z)⟩ c389) (xq Z Z Z Z (xp (.bool (!decide ((sub r373.1 0 (r374.1.length : Int)) = r374.1))) Z Z (pu_str (v := .bool (!decide ((sub r373.1 0 (r374.1.length : Int)) = r374.1))) Z Z (tm Z) (tm Z) Z) (xa (.bool (!decide ((sub r373.1 0 (r374.1.length : Int)) = r374.1))) Z (pu_pick (b := false) Z (tm Z) (fun h => nomatch h) (fun _ => (tm Z))) (xm Z Z Z ?_))))
          rcases Bool.eq_false_or_eq_true (!decide ((sub r373.1 0 (r374.1.length : Int)) = r374.1)) with hb390 | hb390
          ·replace h := ite_f (ndec_t hb390) h
           refine aops_known 82 Z hb390 (xn Z Z Z (xn Z Z Z (xn Z Z Z (xn Z Z Z (xn Z Z Z (xa (.bool true) Z (pu_pick (b := true) Z (tm Z) (fun _ => (AEv.bool _)) (fun h => nomatch h)) (xm Z Z Z (xn Z Z Z (xn Z Z Z ?_)))))))))
           refine xn Z Z Z (xn Z Z Z (xn Z Z Z (xn Z Z Z (xa (.bool true) Z (pu_pick (b := true) Z (tm Z) (fun _ => (AEv.bool _)) (fun h => nomatch h)) (xm Z Z Z (xn Z Z Z (xn Z Z Z (xn Z Z Z (xn Z Z Z ?_)))))))))
           refine xn Z Z Z (xa (.bool true) Z (pu_pick (b := true) Z (tm Z) (fun _ => (AEv.bool _)) (fun h => nomatch h)) (xe ?_))
           obtain rfl := some_of h
           exact ⟨(), Weak.mkL [0, 1, 2] (by decide) ⟨⟨_, Z, cr, Z⟩, ⟨_, Z, cr, Z⟩, ⟨_, Z, Z⟩, trivial⟩ ⟨tm Z, tm Z, tm Z, tm Z, tm Z, tm Z, trivial⟩⟩
          ·replace h := ite_t (ndec_f hb390) h
           refine aops_known 82 Z hb390 (xq Z Z Z Z (xp (.i (r375.length : Int)) Z Z (pu_strLen Z underlying9 (tm Z)) (xq Z Z Z Z (xp (.i (r374.1.length : Int)) Z Z (pu_strLen Z underlying9 (tm Z)) (xp (.bool (decide ((r374.1.length : Int) < (r375.length : Int)))) Z Z (pu_int (v := .bool (decide ((r374.1.length : Int) < (r375.length : Int)))) Z Z (tm Z) (tm Z) Z) (xa (.bool (decide ((r374.1.length : Int) < (r375.length : Int)))) Z (pu_pick (b := false) Z (tm Z) (fun h => nomatch h) (fun _ => (tm Z))) (xm Z Z Z ?_)))))))
           rcases Bool.eq_false_or_eq_true (decide ((r374.1.length : Int) < (r375.length : Int))) with hb391 | hb391
           ·replace h := ite_t (dec_t hb391) h
            refine aops_known 89 Z hb391 (xn Z Z Z (xn Z Z Z (xn Z Z Z (xn Z Z Z (xn Z Z Z (xn Z Z Z (xa (.bool true) Z (pu_pick (b := true) Z (tm Z) (fun _ => (AEv.bool _)) (fun h => nomatch h)) (xm Z Z Z (xn Z Z Z ?_)))))))))
            refine xn Z Z Z (xn Z Z Z (xn Z Z Z (xn Z Z Z (xa (.bool true) Z (pu_pick (b := true) Z (tm Z) (fun _ => (AEv.bool _)) (fun h => nomatch h)) (xe ?_)))))
            obtain rfl := some_of h
            exact ⟨(), Weak.mkL [0, 1, 2] (by decide) ⟨⟨_, Z, cr, Z⟩, ⟨_, Z, cr, Z⟩, ⟨_, Z, Z⟩, trivial⟩ ⟨tm Z, tm Z, tm Z, tm Z, tm Z, tm Z, trivial⟩⟩
           ·replace h := ite_f (dec_f hb391) h
            refine aops_known 89 Z hb391 (xq Z Z Z Z (xq Z Z Z Z (xp (.i (r375.length : Int)) Z Z (pu_strLen Z underlying9 (tm Z)) ?_)))
            obtain ⟨c392, h⟩ := need_of h
            refine xp (.str (sub r374.1 0 (r375.length : Int))) Z Z (pu_strSliceM Z underlying9 (tm Z) Z ⟨_, (tm Z)⟩ c392) (xq Z Z Z Z (xp (.bool (!decide ((sub r374.1 0 (r375.length : Int)) = r375))) Z Z (pu_str (v := .bool (!decide ((sub r374.1 0 (r375.length : Int)) = r375))) Z Z (tm Z) (tm Z) Z) (xa (.bool (!decide ((sub r374.1 0 (r375.length : Int)) = r375))) Z (pu_pick (b := false) Z (tm Z) (fun h => nomatch h) (fun _ => (tm Z))) (xm Z Z Z ?_))))
            rcases Bool.eq_false_or_eq_true (!decide ((sub r374.1 0 (r375.length : Int)) = r375)) with hb393 | hb393
            ·replace h := ite_f (ndec_t hb393) h
             refine aops_known 97 Z hb393 (xn Z Z Z (xn Z Z Z (xn Z Z Z (xn Z Z Z (xn Z Z Z (xa (.bool true) Z (pu_pick (b := true) Z (tm Z) (fun _ => (AEv.bool _)) (fun h => nomatch h)) (xe ?_)))))))
             obtain rfl := some_of h
             exact ⟨(), Weak.mkL [0, 1, 2] (by decide) ⟨⟨_, Z, cr, Z⟩, ⟨_, Z, cr, Z⟩, ⟨_, Z, Z⟩, trivial⟩ ⟨tm Z, tm Z, tm Z, tm Z, tm Z, tm Z, trivial⟩⟩
            ·replace h := ite_t (ndec_f hb393) h
             refine aops_known 97 Z hb393 (xg Z Z (op_loadN (i := 1) Z isAgg25 sizeOf25 (tm Z) Z (nb Z) Z (xq Z Z Z Z ?_)))
             obtain ⟨r394, r394e, h⟩ := bind_some h
             refine xg Z Z (op_call (vs := [.agg [.sl .no 3 (r210.Files.map api.File.av), .sl .no 3 (r210.Faults.map api.Fault.av)], .str (ix r315 s368.t46)]) (H := []) Z call10 ⟨(AEv.le (tm Z) (AV.Le.agg ⟨(AV.Le.forget _ _ _), (AV.Le.forget _ _ _), trivial⟩)), (tm Z), trivial⟩ (List.Perm.refl _) (disk.Safe.ok r394e) ?_)
             rintro _ _ ⟨rfl, rfl⟩
             refine xq Z Z Z Z (xp (.bool (!decide (r394 = r374.1))) Z Z (pu_str (v := .bool (!decide (r394 = r374.1))) Z Z (tm Z) (tm Z) Z) (xa (.bool (!decide (r394 = r374.1))) Z (pu_pick (b := false) Z (tm Z) (fun h => nomatch h) (fun _ => (tm Z))) (xe ?_)))
             obtain rfl := some_of h
             exact ⟨(), Weak.mkL [0, 1, 2] (by decide) ⟨⟨_, Z, cr, Z⟩, ⟨_, Z, cr, Z⟩, ⟨_, Z, Z⟩, trivial⟩ ⟨tm Z, tm Z, tm Z, tm Z, tm Z, tm Z, trivial⟩⟩
       ·intro _
        have h := h385
        refine aw_cond (b := s384) (tm Z) (fun hb395 => ?_) (fun hb395 => ?_)
        ·replace h := ite_t hb395 h
         refine xr (xa (.bool false) Z (pu_assign Z (AEv.bool _)) (xe (aw_ret ?_)))
         obtain rfl := some_of h
         have h := congrArg some (hx369 _ rfl)
         obtain rfl := some_of h
         have h := onSum_inr h313
         obtain rfl := some_of h
         exact ⟨[.bool false], _, [], ⟨(tm Z), trivial⟩, vr, Weak.mkL [] (by decide) trivial trivial, ⟨Z, Z⟩⟩
        ·replace h := ite_fb hb395 h
         refine aw_skip (aw_region (xa (.i (IntKind.wrap .i64 (s368.t46 + 1))) Z (pu_int (v := .i (IntKind.wrap .i64 (s368.t46 + 1))) Z Z (tm Z) (AEv.int _ _) Z) (xm Z Z Z (xe ?_))))
         obtain rfl := some_of h
         exact ⟨_, (), Z, Weak.mkL [0, 1, 2] (by decide) ⟨⟨_, Z, cr, Z⟩, ⟨_, Z, cr, Z⟩, ⟨_, Z, Z⟩, trivial⟩ ⟨tm Z, tm Z, tm Z, tm Z, (AEv.le (tm Z) vr), trivial⟩⟩
      ·replace h := ite_f (dec_f hb396) h
       refine aw_exit ?_
       obtain rfl := some_of h
       have h := congrArg some (hx369 _ rfl)
       exact ⟨(), (), (some_of h).symm, Weak.mkL [] (by decide) trivial trivial⟩

end Go.Pu
