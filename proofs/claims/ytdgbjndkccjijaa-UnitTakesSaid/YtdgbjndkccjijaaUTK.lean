/- Printed by lift.py: the functions come to them. -/
import Derived.Test.YtdgbjndkccjijaaLiftW
import Derived.Test.YtdgbjndkccjijaaUTK4
set_option maxRecDepth 100000
set_option maxHeartbeats 0
namespace Go.Pu
open Go.Lift Go.Proofs.Try Go.RowKit Go.Proofs

theorem mewsref15.SameAll.ok {a : List api.Unit} {b : List api.Unit} {r : Bool} (h : mewsref15.SameAll a b = some r) : Go.Lift.Spec prog 18 [.sl .no 1 (a.map api.Unit.av), .sl .no 1 (b.map api.Unit.av)] [] (fun v H => v = .bool r ∧ H = []) := by
 unfold mewsref15.SameAll at h
 refine Go.Lift.Spec.of_body (rs := [.tmp 4]) func18 Z Z (nb Z) Z (xr (xa (.bool false) Z (pu_assign Z (AEv.bool _)) (xe (aw_seq (xr (xm Z Z Z (xa (.i (a.length : Int)) Z (pu_lenM Z underlying37 (tm Z)) ?_)))))))
 refine xm Z Z Z (xa (.i (b.length : Int)) Z (pu_lenM Z underlying37 (tm Z)) (xa (.bool (!decide ((a.length : Int) = (b.length : Int)))) Z (pu_int (v := .bool (!decide ((a.length : Int) = (b.length : Int)))) Z Z (tm Z) (tm Z) Z) (xe (aw_cond (b := (!decide ((a.length : Int) = (b.length : Int)))) (tm Z) (fun hb94 => ?_) (fun hb94 => ?_)))))
 ·replace h := ite_f (ndec_t hb94) h
  refine xr (xa (.bool false) Z (pu_assign Z (AEv.bool _)) (xe (aw_ret ?_)))
  obtain rfl := some_of h
  exact ⟨[.bool false], _, [], ⟨(tm Z), trivial⟩, vr, Weak.mkL [] (by decide) trivial trivial, ⟨Z, Z⟩⟩
 ·replace h := ite_t (ndec_f hb94) h
  refine aw_skip ?_
  obtain ⟨s93, s93e, h70⟩ := bind_some h
  refine aw_join (σ := Unit) (ν := Unit) (fun u v => []) (fun u v => []) (fun u => s93 = .inl u) ?_ ?_
  ·intro s69
   intro _
   rintro rfl
   have h := onSum_inl h70
   refine xr (xa (.bool true) Z (pu_assign Z (AEv.bool _)) (xe (aw_ret ?_)))
   obtain rfl := some_of h
   exact ⟨[.bool true], _, [], ⟨(tm Z), trivial⟩, vr, Weak.mkL [] (by decide) trivial trivial, ⟨Z, Z⟩⟩
  ·have h := s93e
   refine xr (xa (.i 0) Z (pu_assign Z (AEv.int _ _)) (xe (aw_block (aw_while (σ := mewsref15.SameAll.S0) (ν := Unit) (mewsref15.SameAll.body0 a b) (fun s84 v => [(0, .sl .no 1 (a.map api.Unit.av)), (1, .sl .no 1 (b.map api.Unit.av)), (5, .i s84.i)]) (fun s84 v => []) ⟨0⟩ () _ h (Weak.mkL [] (by decide) trivial ⟨tm Z, tm Z, tm Z, trivial⟩) ?_))))
   rintro s84 _ x86 h hx85
   unfold mewsref15.SameAll.body0 at h
   refine aw_seq (xr (xm Z Z Z (xm Z Z Z (xa (.i (a.length : Int)) Z (pu_lenM Z underlying37 (tm Z)) (xa (.bool (decide (s84.i < (a.length : Int)))) Z (pu_int (v := .bool (decide (s84.i < (a.length : Int)))) Z Z (tm Z) (tm Z) Z) (xe (aw_cond (b := decide (s84.i < (a.length : Int))) (tm Z) (fun hb92 => ?_) (fun hb92 => ?_))))))))
   ·replace h := ite_t (dec_t hb92) h
    refine aw_skip (aw_seq (aw_block (aw_seq ?_)))
    obtain ⟨c88, h⟩ := need_of h
    obtain ⟨c89, h⟩ := need_of h
    obtain ⟨r90, r90e, h⟩ := bind_some h
    refine aw_planR (by decide +kernel) [[], [], [], [], [], [], [], [], [], []] [] [] [.sl .no 1 (a.map api.Unit.av), .i s84.i, .vptr [.sl .no 1 ((ix a s84.i).Cmds.map av_List_List_UInt8)], .agg [.sl .no 1 ((ix a s84.i).Cmds.map av_List_List_UInt8)], .sl .no 1 (b.map api.Unit.av), .i s84.i, .vptr [.sl .no 1 ((ix b s84.i).Cmds.map av_List_List_UInt8)], .agg [.sl .no 1 ((ix b s84.i).Cmds.map av_List_List_UInt8)], .bool r90, .bool (!r90)] (by decide +kernel) Z Z ?_ ?_
    ·exact ⟨ym Z Z Z, ym Z Z Z, yp Z (pu_indexAddrM Z underlying37 sizeOf24 (tm Z) (tm Z) c88 Z), stepg_plain Z (op_loadVN Z isAgg24 sizeOf24 (tm Z) (nb Z) Z ⟨Z, Z⟩), ym Z Z Z, ym Z Z Z, yp Z (pu_indexAddrM Z underlying37 sizeOf24 (tm Z) (tm Z) c89 Z), stepg_plain Z (op_loadVN Z isAgg24 sizeOf24 (tm Z) (nb Z) Z ⟨Z, Z⟩), stepg_plain Z (op_call (vs := [.agg [.sl .no 1 ((ix a s84.i).Cmds.map av_List_List_UInt8)], .agg [.sl .no 1 ((ix b s84.i).Cmds.map av_List_List_UInt8)]]) (H := []) Z call13 ⟨(tm Z), (tm Z), trivial⟩ (R := []) (List.Perm.refl _) (mewsref15.Same.ok r90e) (by rintro _ _ ⟨rfl, rfl⟩; exact ⟨Z, Z⟩)), yp Z (pu_not Z (tm Z)), trivial⟩
    refine aw_cond (b := (!r90)) (tm Z) (fun hb91 => ?_) (fun hb91 => ?_)
    ·replace h := ite_t hb91 h
     refine xr (xa (.bool false) Z (pu_assign Z (AEv.bool _)) (xe (aw_ret ?_)))
     obtain rfl := some_of h
     have h := congrArg some (hx85 _ rfl)
     obtain rfl := some_of h
     have h := onSum_inr h70
     obtain rfl := some_of h
     exact ⟨[.bool false], _, [], ⟨(tm Z), trivial⟩, vr, Weak.mkL [] (by decide) trivial trivial, ⟨Z, Z⟩⟩
    ·replace h := ite_fb hb91 h
     refine aw_skip (aw_region (xm Z Z Z (xa (.i (IntKind.wrap .i64 (s84.i + 1))) Z (pu_int (v := .i (IntKind.wrap .i64 (s84.i + 1))) Z Z (tm Z) (AEv.int _ _) Z) (xm Z Z Z (xe ?_)))))
     obtain rfl := some_of h
     exact ⟨_, (), Z, Weak.mkL [] (by decide) trivial ⟨tm Z, tm Z, (AEv.le (tm Z) vr), trivial⟩⟩
   ·replace h := ite_f (dec_f hb92) h
    refine aw_exit ?_
    obtain rfl := some_of h
    have h := congrArg some (hx85 _ rfl)
    exact ⟨(), (), (some_of h).symm, Weak.mkL [] (by decide) trivial trivial⟩

theorem mewslaw15.UnitTakes.ok {s_ : List UInt8} {r : Bool} (h : mewslaw15.UnitTakes s_ = some r) : Go.Lift.Spec prog 4 [.str s_] [] (fun v H => v = .bool r ∧ H = []) := by
 unfold mewslaw15.UnitTakes at h
 refine Go.Lift.Spec.of_body (rs := [.tmp 2]) func4 Z Z (nb Z) Z (xr (xa (.bool false) Z (pu_assign Z (AEv.bool _)) (xe (aw_seq (xr (xm Z Z Z (xa (.i (s_.length : Int)) Z (pu_strLen Z underlying9 (tm Z)) ?_)))))))
 refine xa (.bool (decide (5000 < (s_.length : Int)))) Z (pu_int (v := .bool (decide (5000 < (s_.length : Int)))) Z Z (tm Z) (AEv.int _ _) Z) (xe (aw_cond (b := decide (5000 < (s_.length : Int))) (tm Z) (fun hb58 => ?_) (fun hb58 => ?_)))
 ·replace h := ite_t (dec_t hb58) h
  refine aw_seq (aw_region ?_)
  obtain ⟨r30, r30e, h⟩ := bind_some h
  refine xc Z (op_call (vs := []) (H := []) Z call9 trivial (List.Perm.refl _) (mewslaw15.alive.ok r30e) ?_)
  rintro _ _ ⟨rfl, rfl⟩
  refine xm Z Z Z (xe (aw_ret ?_))
  obtain rfl := some_of h
  exact ⟨[.bool r30], _, [], ⟨(tm Z), trivial⟩, vr, Weak.mkL [] (by decide) trivial trivial, ⟨Z, Z⟩⟩
 ·replace h := ite_f (dec_f hb58) h
  refine aw_skip (xr (xm Z Z Z ?_))
  obtain ⟨r31, r31e, h⟩ := bind_some h
  refine xc Z (op_call (vs := [.str s_]) (H := []) Z call14 ⟨(tm Z), trivial⟩ (List.Perm.refl _) (unit.Take.ok r31e) ?_)
  rintro _ _ ⟨rfl, rfl⟩
  refine xm Z Z Z (xa (.agg [.sl .no 1 (r31.1.Cmds.map av_List_List_UInt8)]) Z (pu_extract Z (tm Z) (nb Z) Z) (xa (.i r31.2.1) Z (pu_extract Z (tm Z) (nb Z) Z) (xa (.i r31.2.2) Z (pu_extract Z (tm Z) (nb Z) Z) (xc Z (op_alloc (cs := [.sl .full 1 (([] : List (List (List UInt8))).map av_List_List_UInt8)]) (v := .agg [.sl .full 1 (([] : List (List (List UInt8))).map av_List_List_UInt8)]) Z zeroValue24 Z Z Z ?_)))))
  intro p32
  refine ac0 Z Z (op_store (i := 0) (cs' := [.sl .no 1 (r31.1.Cmds.map av_List_List_UInt8)]) Z sizeOf24 (tm Z) (v := .agg [.sl .no 1 (r31.1.Cmds.map av_List_List_UInt8)]) (tm Z) Z Z Z (nb Z) Z (xm Z Z Z (xm Z Z Z (xe (xr (xm Z Z Z ?_))))))
  obtain ⟨r33, r33e, h⟩ := bind_some h
  refine xc Z (op_call (vs := [.str s_]) (H := []) Z call15 ⟨(tm Z), trivial⟩ (List.Perm.refl _) (mewsref15.Take.ok r33e) ?_)
  rintro _ _ ⟨rfl, rfl⟩
  refine xm Z Z Z (xa (.agg [.sl .no 1 (r33.1.Cmds.map av_List_List_UInt8)]) Z (pu_extract Z (tm Z) (nb Z) Z) (xa (.i r33.2.1) Z (pu_extract Z (tm Z) (nb Z) Z) (xa (.i r33.2.2) Z (pu_extract Z (tm Z) (nb Z) Z) (xc Z (op_alloc (cs := [.sl .full 1 (([] : List (List (List UInt8))).map av_List_List_UInt8)]) (v := .agg [.sl .full 1 (([] : List (List (List UInt8))).map av_List_List_UInt8)]) Z zeroValue24 Z Z Z ?_)))))
  intro p34
  refine ac0 Z Z (op_store (i := 0) (cs' := [.sl .no 1 (r33.1.Cmds.map av_List_List_UInt8)]) Z sizeOf24 (tm Z) (v := .agg [.sl .no 1 (r33.1.Cmds.map av_List_List_UInt8)]) (tm Z) Z Z Z (nb Z) Z (xm Z Z Z (xm Z Z Z (xe (xr (xm Z Z Z ?_))))))
  obtain ⟨r35, r35e, h⟩ := bind_some h
  refine xc Z (op_call (vs := [.str s_]) (H := []) Z call16 ⟨(tm Z), trivial⟩ (List.Perm.refl _) (unit.All.ok r35e) ?_)
  rintro _ _ ⟨t36, rfl, rfl⟩
  refine xm Z Z Z (xa (.sl (.own t36) 1 (r35.1.map api.Unit.av)) Z (pu_extract Z (tm Z) (nb Z) Z) (xa (.i r35.2) Z (pu_extract Z (tm Z) (nb Z) Z) (xm Z Z Z (xm Z Z Z (xe (xr (xm Z Z Z ?_)))))))
  obtain ⟨r37, r37e, h⟩ := bind_some h
  refine xc Z (op_call (vs := [.str s_]) (H := []) Z call17 ⟨(tm Z), trivial⟩ (List.Perm.refl _) (mewsref15.All.ok r37e) ?_)
  rintro _ _ ⟨t38, rfl, rfl⟩
  refine xm Z Z Z (xa (.sl (.own t38) 1 (r37.1.map api.Unit.av)) Z (pu_extract Z (tm Z) (nb Z) Z) (xa (.i r37.2) Z (pu_extract Z (tm Z) (nb Z) Z) (xm Z Z Z (xm Z Z Z (xe ?_)))))
  obtain ⟨s47, s47e, h48⟩ := bind_some h
  refine aw_meet (ν := Unit) (fun v => [(2, .bool s47)]) (fun v => []) ?_ ?_
  ·have h := s47e
   refine aw_region (xc Z (op_loadN (i := 3) Z isAgg24 sizeOf24 (tm Z) Z (nb Z) Z (xc Z (op_loadN (i := 2) Z isAgg24 sizeOf24 (tm Z) Z (nb Z) Z ?_))))
   obtain ⟨r50, r50e, h⟩ := bind_some h
   refine xc Z (op_call (vs := [.agg [.sl .no 1 (r31.1.Cmds.map av_List_List_UInt8)], .agg [.sl .no 1 (r33.1.Cmds.map av_List_List_UInt8)]]) (H := []) Z call13 ⟨(tm Z), (tm Z), trivial⟩ (List.Perm.refl _) (mewsref15.Same.ok r50e) ?_)
   rintro _ _ ⟨rfl, rfl⟩
   refine xm Z Z Z ?_
   rcases Bool.eq_false_or_eq_true r50 with hb51 | hb51
   ·replace h := ite_t hb51 h
    refine aops_known 42 Z hb51 (xq Z Z Z Z (xq Z Z Z Z (xp (.bool (decide (r31.2.1 = r33.2.1))) Z Z (pu_int (v := .bool (decide (r31.2.1 = r33.2.1))) Z Z (tm Z) (tm Z) Z) (xa (.bool (decide (r31.2.1 = r33.2.1))) Z (pu_pick (b := true) Z (tm Z) (fun _ => (tm Z)) (fun h => nomatch h)) (xm Z Z Z ?_)))))
    rcases Bool.eq_false_or_eq_true (decide (r31.2.1 = r33.2.1)) with hb52 | hb52
    ·replace h := ite_t (dec_t hb52) h
     refine aops_known 47 Z hb52 (xq Z Z Z Z (xq Z Z Z Z (xp (.bool (decide (r31.2.2 = r33.2.2))) Z Z (pu_int (v := .bool (decide (r31.2.2 = r33.2.2))) Z Z (tm Z) (tm Z) Z) (xa (.bool (decide (r31.2.2 = r33.2.2))) Z (pu_pick (b := true) Z (tm Z) (fun _ => (tm Z)) (fun h => nomatch h)) (xm Z Z Z ?_)))))
     rcases Bool.eq_false_or_eq_true (decide (r31.2.2 = r33.2.2)) with hb53 | hb53
     ·replace h := ite_t (dec_t hb53) h
      refine aops_known 52 Z hb53 (xq Z Z Z Z (xq Z Z Z Z ?_))
      obtain ⟨r54, r54e, h⟩ := bind_some h
      refine xg Z Z (op_call (vs := [.sl .no 1 (r35.1.map api.Unit.av), .sl .no 1 (r37.1.map api.Unit.av)]) (H := []) Z call18 ⟨(AEv.le (tm Z) (AV.Le.forget _ _ _)), (AEv.le (tm Z) (AV.Le.forget _ _ _)), trivial⟩ (List.Perm.refl _) (mewsref15.SameAll.ok r54e) ?_)
      rintro _ _ ⟨rfl, rfl⟩
      refine xa (.bool r54) Z (pu_pick (b := true) Z (tm Z) (fun _ => (tm Z)) (fun h => nomatch h)) (xm Z Z Z ?_)
      rcases Bool.eq_false_or_eq_true r54 with hb55 | hb55
      ·replace h := ite_t hb55 h
       refine aops_known 57 Z hb55 (xq Z Z Z Z (xq Z Z Z Z (xp (.bool (decide (r35.2 = r37.2))) Z Z (pu_int (v := .bool (decide (r35.2 = r37.2))) Z Z (tm Z) (tm Z) Z) (xa (.bool (decide (r35.2 = r37.2))) Z (pu_pick (b := true) Z (tm Z) (fun _ => (tm Z)) (fun h => nomatch h)) (xm Z Z Z ?_)))))
       rcases Bool.eq_false_or_eq_true (decide (r35.2 = r37.2)) with hb56 | hb56
       ·replace h := ite_t (dec_t hb56) h
        refine aops_known 62 Z hb56 ?_
        obtain ⟨r57, r57e, h⟩ := bind_some h
        refine xg Z Z (op_call (vs := []) (H := []) Z call9 trivial (List.Perm.refl _) (mewslaw15.alive.ok r57e) ?_)
        rintro _ _ ⟨rfl, rfl⟩
        refine xa (.bool r57) Z (pu_pick (b := true) Z (tm Z) (fun _ => (tm Z)) (fun h => nomatch h)) (xm Z Z Z (xe ?_))
        obtain rfl := some_of h
        exact ⟨(), Weak.mkL [] (by decide) trivial ⟨tm Z, trivial⟩⟩
       ·replace h := ite_f (dec_f hb56) h
        refine aops_known 62 Z hb56 (xn Z Z Z (xa (.bool false) Z (pu_pick (b := false) Z (tm Z) (fun h => nomatch h) (fun _ => (AEv.bool _))) (xm Z Z Z (xe ?_))))
        obtain rfl := some_of h
        exact ⟨(), Weak.mkL [] (by decide) trivial ⟨tm Z, trivial⟩⟩
      ·replace h := ite_fb hb55 h
       refine aops_known 57 Z hb55 (xn Z Z Z (xn Z Z Z (xn Z Z Z (xa (.bool false) Z (pu_pick (b := false) Z (tm Z) (fun h => nomatch h) (fun _ => (AEv.bool _))) (xm Z Z Z (xn Z Z Z (xa (.bool false) Z (pu_pick (b := false) Z (tm Z) (fun h => nomatch h) (fun _ => (AEv.bool _))) (xm Z Z Z (xe ?_)))))))))
       obtain rfl := some_of h
       exact ⟨(), Weak.mkL [] (by decide) trivial ⟨tm Z, trivial⟩⟩
     ·replace h := ite_f (dec_f hb53) h
      refine aops_known 52 Z hb53 (xn Z Z Z (xn Z Z Z (xn Z Z Z (xa (.bool false) Z (pu_pick (b := false) Z (tm Z) (fun h => nomatch h) (fun _ => (AEv.bool _))) (xm Z Z Z (xn Z Z Z (xn Z Z Z (xn Z Z Z (xa (.bool false) Z (pu_pick (b := false) Z (tm Z) (fun h => nomatch h) (fun _ => (AEv.bool _))) ?_)))))))))
      refine xm Z Z Z (xn Z Z Z (xa (.bool false) Z (pu_pick (b := false) Z (tm Z) (fun h => nomatch h) (fun _ => (AEv.bool _))) (xm Z Z Z (xe ?_))))
      obtain rfl := some_of h
      exact ⟨(), Weak.mkL [] (by decide) trivial ⟨tm Z, trivial⟩⟩
    ·replace h := ite_f (dec_f hb52) h
     refine aops_known 47 Z hb52 (xn Z Z Z (xn Z Z Z (xn Z Z Z (xa (.bool false) Z (pu_pick (b := false) Z (tm Z) (fun h => nomatch h) (fun _ => (AEv.bool _))) (xm Z Z Z (xn Z Z Z (xn Z Z Z (xn Z Z Z (xa (.bool false) Z (pu_pick (b := false) Z (tm Z) (fun h => nomatch h) (fun _ => (AEv.bool _))) ?_)))))))))
     refine xm Z Z Z (xn Z Z Z (xn Z Z Z (xn Z Z Z (xa (.bool false) Z (pu_pick (b := false) Z (tm Z) (fun h => nomatch h) (fun _ => (AEv.bool _))) (xm Z Z Z (xn Z Z Z (xa (.bool false) Z (pu_pick (b := false) Z (tm Z) (fun h => nomatch h) (fun _ => (AEv.bool _))) (xm Z Z Z (xe ?_)))))))))
     obtain rfl := some_of h
     exact ⟨(), Weak.mkL [] (by decide) trivial ⟨tm Z, trivial⟩⟩
   ·replace h := ite_fb hb51 h
    refine aops_known 42 Z hb51 (xn Z Z Z (xn Z Z Z (xn Z Z Z (xa (.bool false) Z (pu_pick (b := false) Z (tm Z) (fun h => nomatch h) (fun _ => (AEv.bool _))) (xm Z Z Z (xn Z Z Z (xn Z Z Z (xn Z Z Z (xa (.bool false) Z (pu_pick (b := false) Z (tm Z) (fun h => nomatch h) (fun _ => (AEv.bool _))) ?_)))))))))
    refine xm Z Z Z (xn Z Z Z (xn Z Z Z (xn Z Z Z (xa (.bool false) Z (pu_pick (b := false) Z (tm Z) (fun h => nomatch h) (fun _ => (AEv.bool _))) (xm Z Z Z (xn Z Z Z (xn Z Z Z (xn Z Z Z (xa (.bool false) Z (pu_pick (b := false) Z (tm Z) (fun h => nomatch h) (fun _ => (AEv.bool _))) ?_)))))))))
    refine xm Z Z Z (xn Z Z Z (xa (.bool false) Z (pu_pick (b := false) Z (tm Z) (fun h => nomatch h) (fun _ => (AEv.bool _))) (xm Z Z Z (xe ?_))))
    obtain rfl := some_of h
    exact ⟨(), Weak.mkL [] (by decide) trivial ⟨tm Z, trivial⟩⟩
  ·intro _
   have h := h48
   refine aw_ret ?_
   obtain rfl := some_of h
   exact ⟨[.bool s47], _, [], ⟨(tm Z), trivial⟩, vr, Weak.mkL [] (by decide) trivial trivial, ⟨Z, Z⟩⟩

end Go.Pu
