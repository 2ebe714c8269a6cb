/- Printed by lift.py: the functions come to them. -/
import Derived.Test.YtdgbjndkccjijaaLiftW
import Derived.Test.YtdgbjndkccjijaaUBK2
set_option maxRecDepth 100000
set_option maxHeartbeats 0
namespace Go.Pu
open Go.Lift Go.Proofs.Try Go.RowKit Go.Proofs

theorem mewslaw15.UnitRows.ok {l : List api.Unit} {tail : List UInt8} {r : Bool} (h : mewslaw15.UnitRows l tail = some r) : Go.Lift.Spec prog 7 [.sl .no 1 (l.map api.Unit.av), .str tail] [] (fun v H => v = .bool r ∧ H = []) := by
 unfold mewslaw15.UnitRows at h
 refine Go.Lift.Spec.of_body (rs := [.tmp 4]) func7 Z Z (nb Z) Z (xr (xa (.bool false) Z (pu_assign Z (AEv.bool _)) (xe (aw_seq ?_))))
 obtain ⟨s230, s230e, h231⟩ := bind_some h
 refine aw_meet (ν := Unit) (fun v => [(0, .sl .no 1 (l.map api.Unit.av)), (1, .str tail), (24, .bool s230)]) (fun v => []) ?_ ?_
 ·have h := s230e
  refine aw_region (xm Z Z Z ?_)
  obtain ⟨r233, r233e, h⟩ := bind_some h
  refine xc Z (op_call (vs := [.sl .no 1 (l.map api.Unit.av)]) (H := []) Z call8 ⟨(tm Z), trivial⟩ (List.Perm.refl _) (mewslaw15.Far.ok r233e) ?_)
  rintro _ _ ⟨rfl, rfl⟩
  refine xm Z Z Z ?_
  rcases Bool.eq_false_or_eq_true r233 with hb234 | hb234
  ·replace h := ite_t hb234 h
   refine aops_known 20 Z hb234 (xn Z Z Z (xn Z Z Z (xn Z Z Z (xa (.bool true) Z (pu_pick (b := true) Z (tm Z) (fun _ => (AEv.bool _)) (fun h => nomatch h)) (xe ?_)))))
   obtain rfl := some_of h
   exact ⟨(), Weak.mkL [] (by decide) trivial ⟨tm Z, tm Z, tm Z, trivial⟩⟩
  ·replace h := ite_fb hb234 h
   refine aops_known 20 Z hb234 (xq Z Z Z Z (xp (.i (tail.length : Int)) Z Z (pu_strLen Z underlying9 (tm Z)) (xp (.bool (decide (1000 < (tail.length : Int)))) Z Z (pu_int (v := .bool (decide (1000 < (tail.length : Int)))) Z Z (tm Z) (AEv.int _ _) Z) (xa (.bool (decide (1000 < (tail.length : Int)))) Z (pu_pick (b := false) Z (tm Z) (fun h => nomatch h) (fun _ => (tm Z))) (xe ?_)))))
   obtain rfl := some_of h
   exact ⟨(), Weak.mkL [] (by decide) trivial ⟨tm Z, tm Z, (AEv.le (tm Z) vr), trivial⟩⟩
 ·intro _
  have h := h231
  refine aw_cond (b := s230) (tm Z) (fun hb454 => ?_) (fun hb454 => ?_)
  ·replace h := ite_t hb454 h
   refine aw_seq (aw_region ?_)
   obtain ⟨r235, r235e, h⟩ := bind_some h
   refine xc Z (op_call (vs := []) (H := []) Z call9 trivial (List.Perm.refl _) (mewslaw15.alive.ok r235e) ?_)
   rintro _ _ ⟨rfl, rfl⟩
   refine xm Z Z Z (xe (aw_ret ?_))
   obtain rfl := some_of h
   exact ⟨[.bool r235], _, [], ⟨(tm Z), trivial⟩, vr, Weak.mkL [] (by decide) trivial trivial, ⟨Z, Z⟩⟩
  ·replace h := ite_fb hb454 h
   refine aw_skip (xr (xa (.str ([] : List UInt8)) Z (pu_assign Z (AEv.const Z)) (xe (xr (xa (.sl .full 1 (([] : List api.Unit).map api.Unit.av)) Z (pu_assign Z (AEv.nil 1 (by decide))) (xe ?_))))))
   obtain ⟨s303, s303e, h305⟩ := bind_some h
   refine aw_meet (ν := Nat) (fun v => [(1, .str tail), (5, .str s303.1), (6, .sl (.own v) 1 (s303.2.map api.Unit.av))]) (fun v => [(v, .spare)]) ?_ ?_
   ·have h := s303e
    refine xr (xm Z Z Z (xa (.i (l.length : Int)) Z (pu_lenM Z underlying37 (tm Z)) (xa (.i 0) Z (pu_move Z (AEv.int _ _)) (xe (aw_block (aw_claim 6 (tm Z) fun t373 => (aw_while (σ := mewslaw15.UnitRows.S0) (ν := Nat) (mewslaw15.UnitRows.body0 l) (fun s349 v => [(1, .str tail), (5, .str s349.s), (6, .sl (.own v) 1 (s349.put.map api.Unit.av)), (26, .sl .no 1 (l.map api.Unit.av)), (27, .i (l.length : Int)), (28, .i s349.t28)]) (fun s349 v => [(v, .spare)]) ⟨([] : List UInt8), ([] : List api.Unit), 0⟩ t373 _ h (Weak.mkL [0] (by decide) ⟨⟨_, Z, Z⟩, trivial⟩ ⟨tm Z, tm Z, tm Z, tm Z, tm Z, tm Z, trivial⟩) ?_)))))))
    rintro s349 n350 x352 h hx351
    unfold mewslaw15.UnitRows.body0 at h
    refine xr (xa (.bool (decide (s349.t28 < (l.length : Int)))) Z (pu_int (v := .bool (decide (s349.t28 < (l.length : Int)))) Z Z (tm Z) (tm Z) Z) (xe (aw_seq (aw_cond (b := decide (s349.t28 < (l.length : Int))) (tm Z) (fun hb372 => ?_) (fun hb372 => ?_)))))
    ·replace h := ite_t (dec_t hb372) h
     refine aw_skip ?_
     obtain ⟨s361, s361e, h363⟩ := bind_some h
     refine aw_meet (ν := Nat) (fun v => [(1, .str tail), (5, .str s361.1), (6, .sl (.own v) 1 (s361.2.map api.Unit.av)), (26, .sl .no 1 (l.map api.Unit.av)), (27, .i (l.length : Int)), (28, .i s349.t28)]) (fun v => [(v, .spare)]) ?_ ?_
     ·have h := s361e
      refine aw_block (aw_seq (aw_region ?_))
      obtain ⟨c365, h⟩ := need_of h
      refine xa (.vptr [.sl .no 1 ((ix l s349.t28).Cmds.map av_List_List_UInt8)]) Z (pu_indexAddrM Z underlying37 sizeOf24 (tm Z) (tm Z) c365 Z) (xc Z (op_loadVN Z isAgg24 sizeOf24 (tm Z) (nb Z) Z (xc Z (op_alloc (cs := [.sl .full 1 (([] : List (List (List UInt8))).map av_List_List_UInt8)]) (v := .agg [.sl .full 1 (([] : List (List (List UInt8))).map av_List_List_UInt8)]) Z zeroValue24 Z Z Z ?_))))
      intro p366
      refine ac0 Z Z (op_store (i := 0) (cs' := [.sl .no 1 ((ix l s349.t28).Cmds.map av_List_List_UInt8)]) Z sizeOf24 (tm Z) (v := .agg [.sl .no 1 ((ix l s349.t28).Cmds.map av_List_List_UInt8)]) (tm Z) Z Z Z (nb Z) Z (xe (xr (xc Z (op_loadN (i := 0) Z isAgg24 sizeOf24 (tm Z) Z (nb Z) Z ?_)))))
      obtain ⟨r367, r367e, h⟩ := bind_some h
      refine xc Z (op_call (vs := [.agg [.sl .no 1 ((ix l s349.t28).Cmds.map av_List_List_UInt8)]]) (H := []) Z call10 ⟨(tm Z), trivial⟩ (List.Perm.refl _) (unit.Put.ok r367e) ?_)
      rintro _ _ ⟨rfl, rfl⟩
      refine xm Z Z Z (xa (.str r367.1) Z (pu_extract Z (tm Z) (nb Z) Z) (xa (.i r367.2) Z (pu_extract Z (tm Z) (nb Z) Z) (xm Z Z Z (xm Z Z Z (xe (xr (xm Z Z Z (xa (.bool (decide (r367.2 = 0))) Z (pu_int (v := .bool (decide (r367.2 = 0))) Z Z (tm Z) (AEv.int _ _) Z) ?_))))))))
      refine xe (aw_cond (b := decide (r367.2 = 0)) (tm Z) (fun hb371 => ?_) (fun hb371 => ?_))
      ·replace h := ite_t (dec_t hb371) h
       refine xr (xm Z Z Z (xm Z Z Z ?_))
       obtain ⟨c368, h⟩ := need_of h
       refine xa (.str (s349.s ++ r367.1)) Z (pu_strAdd Z (tm Z) (tm Z) c368) (xm Z Z Z (xe (aw_region (xm Z Z Z (xc Z (op_loadN (i := 0) Z isAgg24 sizeOf24 (tm Z) Z (nb Z) Z (xc Z (op_buildSlice (xs := ([(ix l s349.t28)] : List api.Unit).map api.Unit.av) (aparts := [(0, .agg [.sl .no 1 ((ix l s349.t28).Cmds.map av_List_List_UInt8)])]) Z underlying37 sizeOf24 zeroValue24 (by decide) (by decide) ⟨Z, (tm Z), trivial⟩ Z Z Z ?_))))))))
       obtain ⟨c369, h⟩ := need_of h
       refine xc Z (op_appendOM (q := 1) Z underlying37 underlying37 (.inl Z) typeInfo24 Z Z Z (by decide) (tm Z) Z (given_sl (tm Z)) c369 ?_)
       intro t370
       refine xm Z Z Z (xe ?_)
       obtain rfl := some_of h
       exact ⟨t370, Weak.mkL [1] (by decide) ⟨⟨_, Z, Z⟩, trivial⟩ ⟨tm Z, (AEv.le (tm Z) vr), (AEv.le (tm Z) vr), tm Z, tm Z, tm Z, trivial⟩⟩
      ·replace h := ite_f (dec_f hb371) h
       refine aw_skip ?_
       obtain rfl := some_of h
       exact ⟨n350, Weak.mkL [1] (by decide) ⟨⟨_, Z, Z⟩, trivial⟩ ⟨tm Z, tm Z, tm Z, tm Z, tm Z, tm Z, trivial⟩⟩
     ·intro n362
      have h := h363
      refine aw_region (xa (.i (IntKind.wrap .i64 (s349.t28 + 1))) Z (pu_int (v := .i (IntKind.wrap .i64 (s349.t28 + 1))) Z Z (tm Z) (AEv.int _ _) Z) (xm Z Z Z (xe ?_)))
      obtain rfl := some_of h
      exact ⟨_, n362, Z, Weak.mkL [0] (by decide) ⟨⟨_, Z, Z⟩, trivial⟩ ⟨tm Z, tm Z, tm Z, tm Z, tm Z, (AEv.le (tm Z) vr), trivial⟩⟩
    ·replace h := ite_f (dec_f hb372) h
     refine aw_exit ?_
     obtain rfl := some_of h
     have h := congrArg some (hx351 _ rfl)
     obtain rfl := some_of h
     exact ⟨n350, Weak.mkL [0] (by decide) ⟨⟨_, Z, Z⟩, trivial⟩ ⟨tm Z, tm Z, tm Z, trivial⟩⟩
   ·intro n304
    have h := h305
    refine xr (xm Z Z Z (xm Z Z Z ?_))
    obtain ⟨c374, h⟩ := need_of h
    refine xa (.str (s303.1 ++ tail)) Z (pu_strAdd Z (tm Z) (tm Z) c374) ?_
    obtain ⟨r375, r375e, h⟩ := bind_some h
    refine xc Z (op_call (vs := [.str (s303.1 ++ tail)]) (H := []) Z call16 ⟨(tm Z), trivial⟩ (List.Perm.refl _) (unit.All.ok r375e) ?_)
    rintro _ _ ⟨t376, rfl, rfl⟩
    refine xm Z Z Z (xa (.sl (.own t376) 1 (r375.1.map api.Unit.av)) Z (pu_extract Z (tm Z) (nb Z) Z) (xa (.i r375.2) Z (pu_extract Z (tm Z) (nb Z) Z) (xm Z Z Z (xm Z Z Z (xe (aw_seq ?_))))))
    obtain ⟨s382, s382e, h383⟩ := bind_some h
    refine aw_meet (ν := Unit) (fun v => [(1, .str tail), (5, .str s303.1), (11, .sl (.own t376) 1 (r375.1.map api.Unit.av)), (12, .i r375.2), (82, .bool s382)]) (fun v => [(t376, .spare)]) ?_ ?_
    ·have h := s382e
     refine aw_region (xm Z Z Z (xa (.i (r375.1.length : Int)) Z (pu_lenM Z underlying37 (tm Z)) (xm Z Z Z (xa (.i (s303.2.length : Int)) Z (pu_lenM Z underlying37 (tm Z)) (xa (.bool (decide ((r375.1.length : Int) < (s303.2.length : Int)))) Z (pu_int (v := .bool (decide ((r375.1.length : Int) < (s303.2.length : Int)))) Z Z (tm Z) (tm Z) Z) (xm Z Z Z ?_))))))
     rcases Bool.eq_false_or_eq_true (decide ((r375.1.length : Int) < (s303.2.length : Int))) with hb385 | hb385
     ·replace h := ite_t (dec_t hb385) h
      refine aops_known 59 Z hb385 (xn Z Z Z (xn Z Z Z (xn Z Z Z (xn Z Z Z (xn Z Z Z (xn Z Z Z (xn Z Z Z (xa (.bool true) Z (pu_pick (b := true) Z (tm Z) (fun _ => (AEv.bool _)) (fun h => nomatch h)) (xm Z Z Z ?_)))))))))
      refine xn Z Z Z (xn Z Z Z (xn Z Z Z (xn Z Z Z (xa (.bool true) Z (pu_pick (b := true) Z (tm Z) (fun _ => (AEv.bool _)) (fun h => nomatch h)) (xm Z Z Z (xn Z Z Z (xn Z Z Z (xn Z Z Z (xn Z Z Z ?_)))))))))
      refine xn Z Z Z (xn Z Z Z (xn Z Z Z (xa (.bool true) Z (pu_pick (b := true) Z (tm Z) (fun _ => (AEv.bool _)) (fun h => nomatch h)) (xe ?_))))
      obtain rfl := some_of h
      exact ⟨(), Weak.mkL [0] (by decide) ⟨⟨_, Z, Z⟩, trivial⟩ ⟨tm Z, tm Z, tm Z, tm Z, tm Z, trivial⟩⟩
     ·replace h := ite_f (dec_f hb385) h
      refine aops_known 59 Z hb385 (xq Z Z Z Z (xq Z Z Z Z (xp (.i (s303.2.length : Int)) Z Z (pu_lenM Z underlying37 (tm Z)) ?_)))
      obtain ⟨c386, h⟩ := need_of h
      refine xp (.sl .no 1 ((sub r375.1 0 (s303.2.length : Int)).map api.Unit.av)) Z Z (pu_sliceM Z underlying37 sizeOf24 (tm Z) Z ⟨_, (tm Z)⟩ c386) (xq Z Z Z Z ?_)
      obtain ⟨r387, r387e, h⟩ := bind_some h
      refine xg Z Z (op_call (vs := [.sl .no 1 ((sub r375.1 0 (s303.2.length : Int)).map api.Unit.av), .sl .no 1 (s303.2.map api.Unit.av)]) (H := []) Z call18 ⟨(tm Z), (AEv.le (tm Z) (AV.Le.forget _ _ _)), trivial⟩ (List.Perm.refl _) (mewsref15.SameAll.ok r387e) ?_)
      rintro _ _ ⟨rfl, rfl⟩
      refine xp (.bool (!r387)) Z Z (pu_not Z (tm Z)) (xa (.bool (!r387)) Z (pu_pick (b := false) Z (tm Z) (fun h => nomatch h) (fun _ => (tm Z))) (xm Z Z Z ?_))
      rcases Bool.eq_false_or_eq_true (!r387) with hb388 | hb388
      ·replace h := ite_t hb388 h
       refine aops_known 68 Z hb388 (xn Z Z Z (xn Z Z Z (xn Z Z Z (xn Z Z Z (xa (.bool true) Z (pu_pick (b := true) Z (tm Z) (fun _ => (AEv.bool _)) (fun h => nomatch h)) (xm Z Z Z (xn Z Z Z (xn Z Z Z (xn Z Z Z ?_)))))))))
       refine xn Z Z Z (xn Z Z Z (xn Z Z Z (xn Z Z Z (xa (.bool true) Z (pu_pick (b := true) Z (tm Z) (fun _ => (AEv.bool _)) (fun h => nomatch h)) (xe ?_)))))
       obtain rfl := some_of h
       exact ⟨(), Weak.mkL [0] (by decide) ⟨⟨_, Z, Z⟩, trivial⟩ ⟨tm Z, tm Z, tm Z, tm Z, tm Z, trivial⟩⟩
      ·replace h := ite_fb hb388 h
       refine aops_known 68 Z hb388 (xq Z Z Z Z (xq Z Z Z Z (xp (.i (s303.1.length : Int)) Z Z (pu_strLen Z underlying9 (tm Z)) (xp (.bool (decide (r375.2 < (s303.1.length : Int)))) Z Z (pu_int (v := .bool (decide (r375.2 < (s303.1.length : Int)))) Z Z (tm Z) (tm Z) Z) (xa (.bool (decide (r375.2 < (s303.1.length : Int)))) Z (pu_pick (b := false) Z (tm Z) (fun h => nomatch h) (fun _ => (tm Z))) (xm Z Z Z ?_))))))
       rcases Bool.eq_false_or_eq_true (decide (r375.2 < (s303.1.length : Int))) with hb389 | hb389
       ·replace h := ite_t (dec_t hb389) h
        refine aops_known 74 Z hb389 (xn Z Z Z (xn Z Z Z (xn Z Z Z (xn Z Z Z (xn Z Z Z (xn Z Z Z (xn Z Z Z (xa (.bool true) Z (pu_pick (b := true) Z (tm Z) (fun _ => (AEv.bool _)) (fun h => nomatch h)) (xe ?_)))))))))
        obtain rfl := some_of h
        exact ⟨(), Weak.mkL [0] (by decide) ⟨⟨_, Z, Z⟩, trivial⟩ ⟨tm Z, tm Z, tm Z, tm Z, tm Z, trivial⟩⟩
       ·replace h := ite_f (dec_f hb389) h
        refine aops_known 74 Z hb389 (xq Z Z Z Z (xq Z Z Z Z (xp (.i (s303.1.length : Int)) Z Z (pu_strLen Z underlying9 (tm Z)) (xq Z Z Z Z (xp (.i (tail.length : Int)) Z Z (pu_strLen Z underlying9 (tm Z)) (xp (.i (IntKind.wrap .i64 ((s303.1.length : Int) + (tail.length : Int)))) Z Z (pu_int (v := .i (IntKind.wrap .i64 ((s303.1.length : Int) + (tail.length : Int)))) Z Z (tm Z) (tm Z) Z) (xp (.bool (decide ((IntKind.wrap .i64 ((s303.1.length : Int) + (tail.length : Int))) < r375.2))) Z Z (pu_int (v := .bool (decide ((IntKind.wrap .i64 ((s303.1.length : Int) + (tail.length : Int))) < r375.2))) Z Z (tm Z) (tm Z) Z) (xa (.bool (decide ((IntKind.wrap .i64 ((s303.1.length : Int) + (tail.length : Int))) < r375.2))) Z (pu_pick (b := false) Z (tm Z) (fun h => nomatch h) (fun _ => (tm Z))) (xe ?_)))))))))
        obtain rfl := some_of h
        exact ⟨(), Weak.mkL [0] (by decide) ⟨⟨_, Z, Z⟩, trivial⟩ ⟨tm Z, tm Z, tm Z, tm Z, (AEv.le (tm Z) vr), trivial⟩⟩
    ·intro _
     have h := h383
     refine aw_cond (b := s382) (tm Z) (fun hb453 => ?_) (fun hb453 => ?_)
     ·replace h := ite_t hb453 h
      refine xr (xa (.bool false) Z (pu_assign Z (AEv.bool _)) (xe (aw_ret ?_)))
      obtain rfl := some_of h
      exact ⟨[.bool false], _, [], ⟨(tm Z), trivial⟩, vr, Weak.mkL [] (by decide) trivial trivial, ⟨Z, Z⟩⟩
     ·replace h := ite_fb hb453 h
      refine aw_skip (xr (xa (.str ([] : List UInt8)) Z (pu_assign Z (AEv.const Z)) (xe ?_)))
      obtain ⟨s452, s452e, h415⟩ := bind_some h
      refine aw_join (σ := List UInt8) (ν := Unit) (fun u v => [(1, .str tail), (5, .str s303.1), (12, .i r375.2), (13, .str u)]) (fun u v => []) (fun u => s452 = .inl u) ?_ ?_
      ·intro s414
       intro _
       rintro rfl
       have h := onSum_inl h415
       obtain ⟨s445, s445e, h446⟩ := bind_some h
       refine aw_meet (ν := Unit) (fun v => [(4, .bool s445)]) (fun v => []) ?_ ?_
       ·have h := s445e
        refine aw_region (xm Z Z Z (xm Z Z Z (xm Z Z Z ?_)))
        obtain ⟨c448, h⟩ := need_of h
        refine xa (.str (s303.1 ++ tail)) Z (pu_strAdd Z (tm Z) (tm Z) c448) (xm Z Z Z ?_)
        obtain ⟨c449, h⟩ := need_of h
        refine xa (.str (sub (s303.1 ++ tail) 0 r375.2)) Z (pu_strSliceM Z underlying9 (tm Z) Z ⟨_, (tm Z)⟩ c449) (xa (.bool (decide (s414 = (sub (s303.1 ++ tail) 0 r375.2)))) Z (pu_str (v := .bool (decide (s414 = (sub (s303.1 ++ tail) 0 r375.2)))) Z Z (tm Z) (tm Z) Z) (xm Z Z Z ?_))
        rcases Bool.eq_false_or_eq_true (decide (s414 = (sub (s303.1 ++ tail) 0 r375.2))) with hb450 | hb450
        ·replace h := ite_t (dec_t hb450) h
         refine aops_known 107 Z hb450 ?_
         obtain ⟨r451, r451e, h⟩ := bind_some h
         refine xg Z Z (op_call (vs := []) (H := []) Z call9 trivial (List.Perm.refl _) (mewslaw15.alive.ok r451e) ?_)
         rintro _ _ ⟨rfl, rfl⟩
         refine xa (.bool r451) Z (pu_pick (b := true) Z (tm Z) (fun _ => (tm Z)) (fun h => nomatch h)) (xm Z Z Z (xe ?_))
         obtain rfl := some_of h
         exact ⟨(), Weak.mkL [] (by decide) trivial ⟨tm Z, trivial⟩⟩
        ·replace h := ite_f (dec_f hb450) h
         refine aops_known 107 Z hb450 (xn Z Z Z (xa (.bool false) Z (pu_pick (b := false) Z (tm Z) (fun h => nomatch h) (fun _ => (AEv.bool _))) (xm Z Z Z (xe ?_))))
         obtain rfl := some_of h
         exact ⟨(), Weak.mkL [] (by decide) trivial ⟨tm Z, trivial⟩⟩
       ·intro _
        have h := h446
        refine aw_ret ?_
        obtain rfl := some_of h
        exact ⟨[.bool s445], _, [], ⟨(tm Z), trivial⟩, vr, Weak.mkL [] (by decide) trivial trivial, ⟨Z, Z⟩⟩
      ·have h := s452e
       refine xr (xm Z Z Z (xa (.i (r375.1.length : Int)) Z (pu_lenM Z underlying37 (tm Z)) (xa (.i 0) Z (pu_move Z (AEv.int _ _)) (xe (aw_block (aw_while (σ := mewslaw15.UnitRows.S2) (ν := Unit) (mewslaw15.UnitRows.body2 r375) (fun s431 v => [(1, .str tail), (5, .str s303.1), (12, .i r375.2), (13, .str s431.again), (83, .sl (.own t376) 1 (r375.1.map api.Unit.av)), (84, .i (r375.1.length : Int)), (85, .i s431.t85)]) (fun s431 v => [(t376, .spare)]) ⟨([] : List UInt8), 0⟩ () _ h (Weak.mkL [0] (by decide) ⟨⟨_, Z, Z⟩, trivial⟩ ⟨tm Z, tm Z, tm Z, tm Z, tm Z, tm Z, tm Z, trivial⟩) ?_))))))
       rintro s431 _ x433 h hx432
       unfold mewslaw15.UnitRows.body2 at h
       refine xr (xa (.bool (decide (s431.t85 < (r375.1.length : Int)))) Z (pu_int (v := .bool (decide (s431.t85 < (r375.1.length : Int)))) Z Z (tm Z) (tm Z) Z) (xe (aw_seq (aw_cond (b := decide (s431.t85 < (r375.1.length : Int))) (tm Z) (fun hb440 => ?_) (fun hb440 => ?_)))))
       ·replace h := ite_t (dec_t hb440) h
        refine aw_skip (aw_seq (aw_block (aw_seq (aw_region ?_))))
        obtain ⟨c435, h⟩ := need_of h
        refine xa (.vptr [.sl .no 1 ((ix r375.1 s431.t85).Cmds.map av_List_List_UInt8)]) Z (pu_indexAddrM Z underlying37 sizeOf24 (tm Z) (tm Z) c435 Z) (xc Z (op_loadVN Z isAgg24 sizeOf24 (tm Z) (nb Z) Z (xc Z (op_alloc (cs := [.sl .full 1 (([] : List (List (List UInt8))).map av_List_List_UInt8)]) (v := .agg [.sl .full 1 (([] : List (List (List UInt8))).map av_List_List_UInt8)]) Z zeroValue24 Z Z Z ?_))))
        intro p436
        refine ac0 Z Z (op_store (i := 0) (cs' := [.sl .no 1 ((ix r375.1 s431.t85).Cmds.map av_List_List_UInt8)]) Z sizeOf24 (tm Z) (v := .agg [.sl .no 1 ((ix r375.1 s431.t85).Cmds.map av_List_List_UInt8)]) (tm Z) Z Z Z (nb Z) Z (xe (xr (xc Z (op_loadN (i := 0) Z isAgg24 sizeOf24 (tm Z) Z (nb Z) Z ?_)))))
        obtain ⟨r437, r437e, h⟩ := bind_some h
        refine xc Z (op_call (vs := [.agg [.sl .no 1 ((ix r375.1 s431.t85).Cmds.map av_List_List_UInt8)]]) (H := []) Z call10 ⟨(tm Z), trivial⟩ (List.Perm.refl _) (unit.Put.ok r437e) ?_)
        rintro _ _ ⟨rfl, rfl⟩
        refine xm Z Z Z (xa (.str r437.1) Z (pu_extract Z (tm Z) (nb Z) Z) (xa (.i r437.2) Z (pu_extract Z (tm Z) (nb Z) Z) (xm Z Z Z (xm Z Z Z (xe (aw_seq (xr (xm Z Z Z ?_))))))))
        refine xa (.bool (!decide (r437.2 = 0))) Z (pu_int (v := .bool (!decide (r437.2 = 0))) Z Z (tm Z) (AEv.int _ _) Z) (xe (aw_cond (b := (!decide (r437.2 = 0))) (tm Z) (fun hb439 => ?_) (fun hb439 => ?_)))
        ·replace h := ite_f (ndec_t hb439) h
         refine xr (xa (.bool false) Z (pu_assign Z (AEv.bool _)) (xe (aw_ret ?_)))
         obtain rfl := some_of h
         have h := congrArg some (hx432 _ rfl)
         obtain rfl := some_of h
         have h := onSum_inr h415
         obtain rfl := some_of h
         exact ⟨[.bool false], _, [], ⟨(tm Z), trivial⟩, vr, Weak.mkL [] (by decide) trivial trivial, ⟨Z, Z⟩⟩
        ·replace h := ite_t (ndec_f hb439) h
         refine aw_skip (aw_region (xm Z Z Z (xm Z Z Z ?_)))
         obtain ⟨c438, h⟩ := need_of h
         refine xa (.str (s431.again ++ r437.1)) Z (pu_strAdd Z (tm Z) (tm Z) c438) (xm Z Z Z (xe (aw_region (xa (.i (IntKind.wrap .i64 (s431.t85 + 1))) Z (pu_int (v := .i (IntKind.wrap .i64 (s431.t85 + 1))) Z Z (tm Z) (AEv.int _ _) Z) (xm Z Z Z (xe ?_))))))
         obtain rfl := some_of h
         exact ⟨_, (), Z, Weak.mkL [1] (by decide) ⟨⟨_, Z, Z⟩, trivial⟩ ⟨tm Z, tm Z, tm Z, (AEv.le (tm Z) vr), tm Z, tm Z, (AEv.le (tm Z) vr), trivial⟩⟩
       ·replace h := ite_f (dec_f hb440) h
        refine aw_exit ?_
        obtain rfl := some_of h
        have h := congrArg some (hx432 _ rfl)
        exact ⟨s431.again, (), (some_of h).symm, Weak.mkL [] (by decide) trivial ⟨tm Z, tm Z, tm Z, tm Z, trivial⟩⟩

end Go.Pu
