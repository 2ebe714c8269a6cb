/- Printed by lift.py: the functions come to them. -/
import Derived.Test.YtmognhokagemiaaGreatLiftW
import Derived.Test.YtmognhokagemiaaGreatRTK3
set_option maxRecDepth 100000
set_option maxHeartbeats 0
namespace Go.Pu
open Go.Lift Go.Proofs.Tryz Go.RowKit Go.Proofs

theorem mewslaw18.RestoreTwice.ok {d : api.Disk} {name : List UInt8} {r : Bool} (h : mewslaw18.RestoreTwice d name = some r) : Go.Lift.Spec prog 4 [.agg [.sl .no 3 (d.Files.map api.File.av), .sl .no 3 (d.Faults.map api.Fault.av)], .str name] [] (fun v H => v = .bool r ∧ H = []) := by
 unfold mewslaw18.RestoreTwice at h
 refine Go.Lift.Spec.of_body (rs := [.tmp 4]) func4 Z Z (nb Z) Z (xr (xc Z (op_box (cs := [.sl .no 3 (d.Files.map api.File.av), .sl .no 3 (d.Faults.map api.Fault.av)]) (v := .agg [.sl .no 3 (d.Files.map api.File.av), .sl .no 3 (d.Faults.map api.Fault.av)]) Z (tm Z) Z Z ?_)))
 intro p47
 refine xa (.bool false) Z (pu_assign Z (AEv.bool _)) (xe (aw_seq ?_))
 obtain ⟨s50, s50e, h51⟩ := bind_some h
 refine aw_meet (ν := Unit) (fun v => [(1, .str name), (2, .ptr p47 0), (19, .bool s50)]) (fun v => [(p47, .cells [.sl .no 3 (d.Files.map api.File.av), .sl .no 3 (d.Faults.map api.Fault.av)])]) ?_ ?_
 ·have h := s50e
  refine aw_region (xc Z (op_loadN (i := 0) Z isAgg25 sizeOf25 (tm Z) Z (nb Z) Z ?_))
  obtain ⟨r53, r53e, h⟩ := bind_some h
  refine xc Z (op_call (vs := [.agg [.sl .no 3 (d.Files.map api.File.av), .sl .no 3 (d.Faults.map api.Fault.av)], .sl .no 4 (([] : List mewslaw16.Op).map mewslaw16.Op.av)]) (H := []) Z call6 ⟨(tm Z), (AEv.le (AEv.nil 4 (by decide)) (AV.Le.forget _ _ _)), trivial⟩ (List.Perm.refl _) (mewslaw16.Far.ok r53e) ?_)
  rintro _ _ ⟨rfl, rfl⟩
  refine xm Z Z Z ?_
  rcases Bool.eq_false_or_eq_true r53 with hb54 | hb54
  ·replace h := ite_t hb54 h
   refine aops_known 15 Z hb54 (xn Z Z Z (xn Z Z Z (xn Z Z Z (xa (.bool true) Z (pu_pick (b := true) Z (tm Z) (fun _ => (AEv.bool _)) (fun h => nomatch h)) (xe ?_)))))
   obtain rfl := some_of h
   exact ⟨(), Weak.mkL [0] (by decide) ⟨⟨_, Z, cr, Z⟩, trivial⟩ ⟨tm Z, tm Z, tm Z, trivial⟩⟩
  ·replace h := ite_fb hb54 h
   refine aops_known 15 Z hb54 (xq Z Z Z Z (xp (.i (name.length : Int)) Z Z (pu_strLen Z underlying9 (tm Z)) (xp (.bool (decide (200 < (name.length : Int)))) Z Z (pu_int (v := .bool (decide (200 < (name.length : Int)))) Z Z (tm Z) (AEv.int _ _) Z) (xa (.bool (decide (200 < (name.length : Int)))) Z (pu_pick (b := false) Z (tm Z) (fun h => nomatch h) (fun _ => (tm Z))) (xe ?_)))))
   obtain rfl := some_of h
   exact ⟨(), Weak.mkL [0] (by decide) ⟨⟨_, Z, cr, Z⟩, trivial⟩ ⟨tm Z, tm Z, (AEv.le (tm Z) vr), trivial⟩⟩
 ·intro _
  have h := h51
  refine aw_cond (b := s50) (tm Z) (fun hb92 => ?_) (fun hb92 => ?_)
  ·replace h := ite_t hb92 h
   refine aw_seq (aw_region ?_)
   obtain ⟨r55, r55e, h⟩ := bind_some h
   refine xc Z (op_call (vs := []) (H := []) Z call7 trivial (List.Perm.refl _) (mewslaw18.alive.ok r55e) ?_)
   rintro _ _ ⟨rfl, rfl⟩
   refine xm Z Z Z (xe (aw_ret ?_))
   obtain rfl := some_of h
   exact ⟨[.bool r55], _, [], ⟨(tm Z), trivial⟩, vr, Weak.mkL [] (by decide) trivial trivial, ⟨Z, Z⟩⟩
  ·replace h := ite_fb hb92 h
   refine aw_skip (xr (xc Z (op_loadN (i := 0) Z isAgg25 sizeOf25 (tm Z) Z (nb Z) Z (xm Z Z Z ?_))))
   obtain ⟨r56, r56e, h⟩ := bind_some h
   refine xc Z (op_call (vs := [.agg [.sl .no 3 (d.Files.map api.File.av), .sl .no 3 (d.Faults.map api.Fault.av)], .str name]) (H := []) Z call8 ⟨(tm Z), (tm Z), trivial⟩ (List.Perm.refl _) (restore.Load.ok r56e) ?_)
   rintro _ _ ⟨t57, rfl, rfl⟩
   refine xm Z Z Z (xa (.agg [.sl .no 3 (r56.1.Files.map api.File.av), .sl .no 3 (r56.1.Faults.map api.Fault.av)]) Z (pu_extract Z (tm Z) (nb Z) Z) (xa (.sl (.own t57) 1 (r56.2.1.map api.Unit.av)) Z (pu_extract Z (tm Z) (nb Z) Z) (xa (.i r56.2.2) Z (pu_extract Z (tm Z) (nb Z) Z) (xc Z (op_alloc (cs := [.sl .full 3 (([] : List api.File).map api.File.av), .sl .full 3 (([] : List api.Fault).map api.Fault.av)]) (v := .agg [.sl .full 3 (([] : List api.File).map api.File.av), .sl .full 3 (([] : List api.Fault).map api.Fault.av)]) Z zeroValue25 Z Z Z ?_)))))
   intro p58
   refine ac0 Z Z (op_store (i := 0) (cs' := [.sl .no 3 (r56.1.Files.map api.File.av), .sl .no 3 (r56.1.Faults.map api.Fault.av)]) Z sizeOf25 (tm Z) (v := .agg [.sl .no 3 (r56.1.Files.map api.File.av), .sl .no 3 (r56.1.Faults.map api.Fault.av)]) (tm Z) Z Z Z (nb Z) Z (xm Z Z Z (xm Z Z Z (xe (aw_seq (xr (xm Z Z Z (xa (.bool (!decide (r56.2.2 = 0))) Z (pu_int (v := .bool (!decide (r56.2.2 = 0))) Z Z (tm Z) (AEv.int _ _) Z) (xe ?_)))))))))
   refine aw_cond (b := (!decide (r56.2.2 = 0))) (tm Z) (fun hb91 => ?_) (fun hb91 => ?_)
   ·replace h := ite_f (ndec_t hb91) h
    obtain ⟨s61, s61e, h62⟩ := bind_some h
    refine aw_meet (ν := Unit) (fun v => [(4, .bool s61)]) (fun v => []) ?_ ?_
    ·have h := s61e
     refine aw_region (xm Z Z Z (xa (.i (r56.2.1.length : Int)) Z (pu_lenM Z underlying28 (tm Z)) (xa (.bool (decide ((r56.2.1.length : Int) = 0))) Z (pu_int (v := .bool (decide ((r56.2.1.length : Int) = 0))) Z Z (tm Z) (AEv.int _ _) Z) (xm Z Z Z ?_))))
     rcases Bool.eq_false_or_eq_true (decide ((r56.2.1.length : Int) = 0)) with hb64 | hb64
     ·replace h := ite_t (dec_t hb64) h
      refine aops_known 33 Z hb64 ?_
      obtain ⟨r65, r65e, h⟩ := bind_some h
      refine xg Z Z (op_call (vs := []) (H := []) Z call7 trivial (List.Perm.refl _) (mewslaw18.alive.ok r65e) ?_)
      rintro _ _ ⟨rfl, rfl⟩
      refine xa (.bool r65) Z (pu_pick (b := true) Z (tm Z) (fun _ => (tm Z)) (fun h => nomatch h)) (xm Z Z Z (xe ?_))
      obtain rfl := some_of h
      exact ⟨(), Weak.mkL [] (by decide) trivial ⟨tm Z, trivial⟩⟩
     ·replace h := ite_f (dec_f hb64) h
      refine aops_known 33 Z hb64 (xn Z Z Z (xa (.bool false) Z (pu_pick (b := false) Z (tm Z) (fun h => nomatch h) (fun _ => (AEv.bool _))) (xm Z Z Z (xe ?_))))
      obtain rfl := some_of h
      exact ⟨(), Weak.mkL [] (by decide) trivial ⟨tm Z, trivial⟩⟩
    ·intro _
     have h := h62
     refine aw_ret ?_
     obtain rfl := some_of h
     exact ⟨[.bool s61], _, [], ⟨(tm Z), trivial⟩, vr, Weak.mkL [] (by decide) trivial trivial, ⟨Z, Z⟩⟩
   ·replace h := ite_t (ndec_f hb91) h
    refine aw_skip (xr (xc Z (op_loadN (i := 0) Z isAgg25 sizeOf25 (tm Z) Z (nb Z) Z (xm Z Z Z ?_))))
    obtain ⟨r66, r66e, h⟩ := bind_some h
    refine xc Z (op_call (vs := [.agg [.sl .no 3 (r56.1.Files.map api.File.av), .sl .no 3 (r56.1.Faults.map api.Fault.av)], .str name]) (H := []) Z call8 ⟨(tm Z), (tm Z), trivial⟩ (List.Perm.refl _) (restore.Load.ok r66e) ?_)
    rintro _ _ ⟨t67, rfl, rfl⟩
    refine xm Z Z Z (xa (.agg [.sl .no 3 (r66.1.Files.map api.File.av), .sl .no 3 (r66.1.Faults.map api.Fault.av)]) Z (pu_extract Z (tm Z) (nb Z) Z) (xa (.sl (.own t67) 1 (r66.2.1.map api.Unit.av)) Z (pu_extract Z (tm Z) (nb Z) Z) (xa (.i r66.2.2) Z (pu_extract Z (tm Z) (nb Z) Z) (xc Z (op_alloc (cs := [.sl .full 3 (([] : List api.File).map api.File.av), .sl .full 3 (([] : List api.Fault).map api.Fault.av)]) (v := .agg [.sl .full 3 (([] : List api.File).map api.File.av), .sl .full 3 (([] : List api.Fault).map api.Fault.av)]) Z zeroValue25 Z Z Z ?_)))))
    intro p68
    refine ac0 Z Z (op_store (i := 0) (cs' := [.sl .no 3 (r66.1.Files.map api.File.av), .sl .no 3 (r66.1.Faults.map api.Fault.av)]) Z sizeOf25 (tm Z) (v := .agg [.sl .no 3 (r66.1.Files.map api.File.av), .sl .no 3 (r66.1.Faults.map api.Fault.av)]) (tm Z) Z Z Z (nb Z) Z (xm Z Z Z (xm Z Z Z (xe (xr (xm Z Z Z ?_))))))
    obtain ⟨r69, r69e, h⟩ := bind_some h
    refine xc Z (op_call (vs := [.sl .no 1 (r56.2.1.map api.Unit.av)]) (H := []) Z call13 ⟨(AEv.le (tm Z) (AV.Le.forget _ _ _)), trivial⟩ (List.Perm.refl _) (mewsref18.Bytes.ok r69e) ?_)
    rintro _ _ ⟨rfl, rfl⟩
    refine xm Z Z Z (xa (.str r69.1) Z (pu_extract Z (tm Z) (nb Z) Z) (xa (.i r69.2) Z (pu_extract Z (tm Z) (nb Z) Z) (xm Z Z Z (xm Z Z Z (xe ?_)))))
    obtain ⟨s79, s79e, h80⟩ := bind_some h
    refine aw_meet (ν := Unit) (fun v => [(4, .bool s79)]) (fun v => []) ?_ ?_
    ·have h := s79e
     refine aw_region (xm Z Z Z (xa (.bool (decide (r66.2.2 = 0))) Z (pu_int (v := .bool (decide (r66.2.2 = 0))) Z Z (tm Z) (AEv.int _ _) Z) (xm Z Z Z ?_)))
     rcases Bool.eq_false_or_eq_true (decide (r66.2.2 = 0)) with hb82 | hb82
     ·replace h := ite_t (dec_t hb82) h
      refine aops_known 50 Z hb82 (xq Z Z Z Z (xq Z Z Z Z ?_))
      obtain ⟨r83, r83e, h⟩ := bind_some h
      refine xg Z Z (op_call (vs := [.sl .no 1 (r56.2.1.map api.Unit.av), .sl .no 1 (r66.2.1.map api.Unit.av)]) (H := []) Z call11 ⟨(AEv.le (tm Z) (AV.Le.forget _ _ _)), (AEv.le (tm Z) (AV.Le.forget _ _ _)), trivial⟩ (List.Perm.refl _) (mewsref15.SameAll.ok r83e) ?_)
      rintro _ _ ⟨rfl, rfl⟩
      refine xa (.bool r83) Z (pu_pick (b := true) Z (tm Z) (fun _ => (tm Z)) (fun h => nomatch h)) (xm Z Z Z ?_)
      rcases Bool.eq_false_or_eq_true r83 with hb84 | hb84
      ·replace h := ite_t hb84 h
       refine aops_known 55 Z hb84 (xg Z Z (op_loadN (i := 2) Z isAgg25 sizeOf25 (tm Z) Z (nb Z) Z (xg Z Z (op_loadN (i := 0) Z isAgg25 sizeOf25 (tm Z) Z (nb Z) Z ?_))))
       obtain ⟨r85, r85e, h⟩ := bind_some h
       refine xg Z Z (op_call (vs := [.agg [.sl .no 3 (r56.1.Files.map api.File.av), .sl .no 3 (r56.1.Faults.map api.Fault.av)], .agg [.sl .no 3 (r66.1.Files.map api.File.av), .sl .no 3 (r66.1.Faults.map api.Fault.av)]]) (H := []) Z call14 ⟨(tm Z), (tm Z), trivial⟩ (List.Perm.refl _) (disk.Same.ok r85e) ?_)
       rintro _ _ ⟨rfl, rfl⟩
       refine xa (.bool r85) Z (pu_pick (b := true) Z (tm Z) (fun _ => (tm Z)) (fun h => nomatch h)) (xm Z Z Z ?_)
       rcases Bool.eq_false_or_eq_true r85 with hb86 | hb86
       ·replace h := ite_t hb86 h
        refine aops_known 60 Z hb86 (xq Z Z Z Z (xp (.bool (decide (r69.2 = 0))) Z Z (pu_int (v := .bool (decide (r69.2 = 0))) Z Z (tm Z) (AEv.int _ _) Z) (xa (.bool (decide (r69.2 = 0))) Z (pu_pick (b := true) Z (tm Z) (fun _ => (tm Z)) (fun h => nomatch h)) (xm Z Z Z ?_))))
        rcases Bool.eq_false_or_eq_true (decide (r69.2 = 0)) with hb87 | hb87
        ·replace h := ite_t (dec_t hb87) h
         refine aops_known 64 Z hb87 (xg Z Z (op_loadN (i := 2) Z isAgg25 sizeOf25 (tm Z) Z (nb Z) Z (xq Z Z Z Z ?_)))
         obtain ⟨r88, r88e, h⟩ := bind_some h
         refine xg Z Z (op_call (vs := [.agg [.sl .no 3 (r56.1.Files.map api.File.av), .sl .no 3 (r56.1.Faults.map api.Fault.av)], .str name]) (H := []) Z call15 ⟨(tm Z), (tm Z), trivial⟩ (List.Perm.refl _) (disk.Safe.ok r88e) ?_)
         rintro _ _ ⟨rfl, rfl⟩
         refine xq Z Z Z Z (xp (.bool (decide (r88 = r69.1))) Z Z (pu_str (v := .bool (decide (r88 = r69.1))) Z Z (tm Z) (tm Z) Z) (xa (.bool (decide (r88 = r69.1))) Z (pu_pick (b := true) Z (tm Z) (fun _ => (tm Z)) (fun h => nomatch h)) (xm Z Z Z ?_)))
         rcases Bool.eq_false_or_eq_true (decide (r88 = r69.1)) with hb89 | hb89
         ·replace h := ite_t (dec_t hb89) h
          refine aops_known 71 Z hb89 ?_
          obtain ⟨r90, r90e, h⟩ := bind_some h
          refine xg Z Z (op_call (vs := []) (H := []) Z call7 trivial (List.Perm.refl _) (mewslaw18.alive.ok r90e) ?_)
          rintro _ _ ⟨rfl, rfl⟩
          refine xa (.bool r90) Z (pu_pick (b := true) Z (tm Z) (fun _ => (tm Z)) (fun h => nomatch h)) (xm Z Z Z (xe ?_))
          obtain rfl := some_of h
          exact ⟨(), Weak.mkL [] (by decide) trivial ⟨tm Z, trivial⟩⟩
         ·replace h := ite_f (dec_f hb89) h
          refine aops_known 71 Z hb89 (xn Z Z Z (xa (.bool false) Z (pu_pick (b := false) Z (tm Z) (fun h => nomatch h) (fun _ => (AEv.bool _))) (xm Z Z Z (xe ?_))))
          obtain rfl := some_of h
          exact ⟨(), Weak.mkL [] (by decide) trivial ⟨tm Z, trivial⟩⟩
        ·replace h := ite_f (dec_f hb87) h
         refine aops_known 64 Z hb87 (xn Z Z Z (xn Z Z Z (xn Z Z Z (xn Z Z Z (xn Z Z Z (xa (.bool false) Z (pu_pick (b := false) Z (tm Z) (fun h => nomatch h) (fun _ => (AEv.bool _))) (xm Z Z Z (xn Z Z Z (xa (.bool false) Z (pu_pick (b := false) Z (tm Z) (fun h => nomatch h) (fun _ => (AEv.bool _))) ?_)))))))))
         refine xm Z Z Z (xe ?_)
         obtain rfl := some_of h
         exact ⟨(), Weak.mkL [] (by decide) trivial ⟨tm Z, trivial⟩⟩
       ·replace h := ite_fb hb86 h
        refine aops_known 60 Z hb86 (xn Z Z Z (xn Z Z Z (xa (.bool false) Z (pu_pick (b := false) Z (tm Z) (fun h => nomatch h) (fun _ => (AEv.bool _))) (xm Z Z Z (xn Z Z Z (xn Z Z Z (xn Z Z Z (xn Z Z Z (xn Z Z Z ?_)))))))))
        refine xa (.bool false) Z (pu_pick (b := false) Z (tm Z) (fun h => nomatch h) (fun _ => (AEv.bool _))) (xm Z Z Z (xn Z Z Z (xa (.bool false) Z (pu_pick (b := false) Z (tm Z) (fun h => nomatch h) (fun _ => (AEv.bool _))) (xm Z Z Z (xe ?_)))))
        obtain rfl := some_of h
        exact ⟨(), Weak.mkL [] (by decide) trivial ⟨tm Z, trivial⟩⟩
      ·replace h := ite_fb hb84 h
       refine aops_known 55 Z hb84 (xn Z Z Z (xn Z Z Z (xn Z Z Z (xa (.bool false) Z (pu_pick (b := false) Z (tm Z) (fun h => nomatch h) (fun _ => (AEv.bool _))) (xm Z Z Z (xn Z Z Z (xn Z Z Z (xa (.bool false) Z (pu_pick (b := false) Z (tm Z) (fun h => nomatch h) (fun _ => (AEv.bool _))) (xm Z Z Z ?_)))))))))
       refine xn Z Z Z (xn Z Z Z (xn Z Z Z (xn Z Z Z (xn Z Z Z (xa (.bool false) Z (pu_pick (b := false) Z (tm Z) (fun h => nomatch h) (fun _ => (AEv.bool _))) (xm Z Z Z (xn Z Z Z (xa (.bool false) Z (pu_pick (b := false) Z (tm Z) (fun h => nomatch h) (fun _ => (AEv.bool _))) (xm Z Z Z ?_)))))))))
       refine xe ?_
       obtain rfl := some_of h
       exact ⟨(), Weak.mkL [] (by decide) trivial ⟨tm Z, trivial⟩⟩
     ·replace h := ite_f (dec_f hb82) h
      refine aops_known 50 Z hb82 (xn Z Z Z (xn Z Z Z (xn Z Z Z (xa (.bool false) Z (pu_pick (b := false) Z (tm Z) (fun h => nomatch h) (fun _ => (AEv.bool _))) (xm Z Z Z (xn Z Z Z (xn Z Z Z (xn Z Z Z (xa (.bool false) Z (pu_pick (b := false) Z (tm Z) (fun h => nomatch h) (fun _ => (AEv.bool _))) ?_)))))))))
      refine xm Z Z Z (xn Z Z Z (xn Z Z Z (xa (.bool false) Z (pu_pick (b := false) Z (tm Z) (fun h => nomatch h) (fun _ => (AEv.bool _))) (xm Z Z Z (xn Z Z Z (xn Z Z Z (xn Z Z Z (xn Z Z Z (xn Z Z Z ?_)))))))))
      refine xa (.bool false) Z (pu_pick (b := false) Z (tm Z) (fun h => nomatch h) (fun _ => (AEv.bool _))) (xm Z Z Z (xn Z Z Z (xa (.bool false) Z (pu_pick (b := false) Z (tm Z) (fun h => nomatch h) (fun _ => (AEv.bool _))) (xm Z Z Z (xe ?_)))))
      obtain rfl := some_of h
      exact ⟨(), Weak.mkL [] (by decide) trivial ⟨tm Z, trivial⟩⟩
    ·intro _
     have h := h80
     refine aw_ret ?_
     obtain rfl := some_of h
     exact ⟨[.bool s79], _, [], ⟨(tm Z), trivial⟩, vr, Weak.mkL [] (by decide) trivial trivial, ⟨Z, Z⟩⟩

end Go.Pu
