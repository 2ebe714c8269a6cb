/- Printed by lift.py: the functions come to them. -/
import Derived.Test.YtfapgollkabopaaLiftW
import Derived.Test.YtfapgollkabopaaPBK0
set_option maxRecDepth 100000
set_option maxHeartbeats 0
namespace Go.Pu
open Go.Lift Go.Proofs.Try Go.RowKit Go.Proofs

theorem line.Split.ok {s_ : List UInt8} {r : (List (List UInt8)) × Bool} (h : line.Split s_ = some r) : Go.Lift.Spec prog 88 [.str s_] [] (fun v H => ∃ n0, v = .tup [.sl (.own n0) 1 (r.1.map AV.str), .bool r.2] ∧ H = [(n0, .spare)]) := by
 unfold line.Split at h
 refine Go.Lift.Spec.of_body (rs := [.tmp 2, .tmp 3]) func88 Z Z (nb Z) Z (xr (xa (.sl .full 1 (([] : List (List UInt8)).map AV.str)) Z (pu_assign Z (AEv.nil 1 (by decide))) (xa (.bool false) Z (pu_assign Z (AEv.bool _)) (xe (xr (xa (.sl .full 1 (([] : List (List UInt8)).map AV.str)) Z (pu_assign Z (AEv.nil 1 (by decide))) (xe ?_)))))))
 refine xr (xa (.i 0) Z (pu_assign Z (AEv.int _ _)) (xe (aw_block (aw_claim 4 (tm Z) fun t1705 => (aw_while (σ := line.Split.S0) (ν := Nat) (line.Split.body0 s_) (fun s1418 v => [(0, .str s_), (4, .sl (.own v) 1 (s1418.out.map AV.str)), (5, .i s1418.at_)]) (fun s1418 v => [(v, .spare)]) ⟨([] : List (List UInt8)), 0⟩ t1705 _ h (Weak.mkL [0] (by decide) ⟨⟨_, Z, Z⟩, trivial⟩ ⟨tm Z, tm Z, tm Z, trivial⟩) ?_)))))
 rintro s1418 n1419 x1421 h hx1420
 unfold line.Split.body0 at h
 refine aw_block ?_
 obtain ⟨s1459, s1459e, h1460⟩ := bind_some h
 refine aw_meet (ν := Unit) (fun v => [(0, .str s_), (4, .sl (.own n1419) 1 (s1418.out.map AV.str)), (5, .i s1459)]) (fun v => [(n1419, .spare)]) ?_ ?_
 ·have h := s1459e
  refine aw_block (aw_while (σ := line.Split.S2) (ν := Unit) (line.Split.body2 s_) (fun s1484 v => [(0, .str s_), (4, .sl (.own n1419) 1 (s1418.out.map AV.str)), (5, .i s1484.at_)]) (fun s1484 v => [(n1419, .spare)]) ⟨s1418.at_⟩ () _ h (Weak.mkL [0] (by decide) ⟨⟨_, Z, Z⟩, trivial⟩ ⟨tm Z, tm Z, tm Z, trivial⟩) ?_)
  rintro s1484 _ x1486 h hx1485
  unfold line.Split.body2 at h
  refine aw_seq ?_
  obtain ⟨s1491, s1491e, h1492⟩ := bind_some h
  refine aw_meet (ν := Unit) (fun v => [(0, .str s_), (4, .sl (.own n1419) 1 (s1418.out.map AV.str)), (5, .i s1484.at_), (19, .bool s1491)]) (fun v => [(n1419, .spare)]) ?_ ?_
  ·have h := s1491e
   refine aw_region (xm Z Z Z (xm Z Z Z (xa (.i (s_.length : Int)) Z (pu_strLen Z underlying9 (tm Z)) (xa (.bool (decide (s1484.at_ < (s_.length : Int)))) Z (pu_int (v := .bool (decide (s1484.at_ < (s_.length : Int)))) Z Z (tm Z) (tm Z) Z) (xm Z Z Z ?_)))))
   rcases Bool.eq_false_or_eq_true (decide (s1484.at_ < (s_.length : Int))) with hb1494 | hb1494
   ·replace h := ite_t (dec_t hb1494) h
    refine aops_known 14 Z hb1494 (xq Z Z Z Z (xq Z Z Z Z ?_))
    obtain ⟨c1495, h⟩ := need_of h
    refine xp (.int .u8 (bix s_ s1484.at_)) Z Z (pu_strIdxM Z underlying9 (tm Z) (tm Z) c1495) ?_
    obtain ⟨r1496, r1496e, h⟩ := bind_some h
    refine xg Z Z (op_call (vs := [.int .u8 (bix s_ s1484.at_)]) (H := []) Z call97 ⟨(tm Z), trivial⟩ (List.Perm.refl _) (line.blank.ok r1496e) ?_)
    rintro _ _ ⟨rfl, rfl⟩
    refine xa (.bool r1496) Z (pu_pick (b := true) Z (tm Z) (fun _ => (tm Z)) (fun h => nomatch h)) (xe ?_)
    obtain rfl := some_of h
    exact ⟨(), Weak.mkL [0] (by decide) ⟨⟨_, Z, Z⟩, trivial⟩ ⟨tm Z, tm Z, tm Z, tm Z, trivial⟩⟩
   ·replace h := ite_f (dec_f hb1494) h
    refine aops_known 14 Z hb1494 (xn Z Z Z (xn Z Z Z (xn Z Z Z (xn Z Z Z (xa (.bool false) Z (pu_pick (b := false) Z (tm Z) (fun h => nomatch h) (fun _ => (AEv.bool _))) (xe ?_))))))
    obtain rfl := some_of h
    exact ⟨(), Weak.mkL [0] (by decide) ⟨⟨_, Z, Z⟩, trivial⟩ ⟨tm Z, tm Z, tm Z, tm Z, trivial⟩⟩
  ·intro _
   have h := h1492
   refine aw_cond (b := s1491) (tm Z) (fun hb1497 => ?_) (fun hb1497 => ?_)
   ·replace h := ite_t hb1497 h
    refine aw_skip (aw_block (aw_region (xm Z Z Z (xa (.i (IntKind.wrap .i64 (s1484.at_ + 1))) Z (pu_int (v := .i (IntKind.wrap .i64 (s1484.at_ + 1))) Z Z (tm Z) (AEv.int _ _) Z) (xm Z Z Z (xe ?_))))))
    obtain rfl := some_of h
    exact ⟨_, (), Z, Weak.mkL [0] (by decide) ⟨⟨_, Z, Z⟩, trivial⟩ ⟨tm Z, tm Z, (AEv.le (tm Z) vr), trivial⟩⟩
   ·replace h := ite_fb hb1497 h
    refine aw_exit ?_
    obtain rfl := some_of h
    have h := congrArg some (hx1485 _ rfl)
    obtain rfl := some_of h
    exact ⟨(), Weak.mkL [0] (by decide) ⟨⟨_, Z, Z⟩, trivial⟩ ⟨tm Z, tm Z, tm Z, trivial⟩⟩
 ·intro _
  have h := h1460
  refine aw_seq (xr (xm Z Z Z (xm Z Z Z (xa (.i (s_.length : Int)) Z (pu_strLen Z underlying9 (tm Z)) (xa (.bool (decide (s1459 = (s_.length : Int)))) Z (pu_int (v := .bool (decide (s1459 = (s_.length : Int)))) Z Z (tm Z) (tm Z) Z) (xe (aw_cond (b := decide (s1459 = (s_.length : Int))) (tm Z) (fun hb1704 => ?_) (fun hb1704 => ?_))))))))
  ·replace h := ite_t (dec_t hb1704) h
   refine xr (xm Z Z Z (xm Z Z Z (xa (.bool true) Z (pu_assign Z (AEv.bool _)) (xe (aw_ret ?_)))))
   obtain rfl := some_of h
   have h := congrArg some (hx1420 _ rfl)
   obtain rfl := some_of h
   exact ⟨[.sl (.own n1419) 1 (s1418.out.map AV.str), .bool true], _, [(n1419, .spare)], ⟨(tm Z), (tm Z), trivial⟩, vr, Weak.mkL [0] (by decide) ⟨⟨_, Z, Z⟩, trivial⟩ trivial, ⟨n1419, Z, Z⟩⟩
  ·replace h := ite_f (dec_f hb1704) h
   refine aw_skip (xr (xa (.sl .full 1 (([] : List UInt8).map byteAV)) Z (pu_assign Z (AEv.nil 1 (by decide))) (xe ?_)))
   obtain ⟨s1703, s1703e, h1599⟩ := bind_some h
   refine aw_join (σ := Int × (List UInt8)) (ν := Nat) (fun u v => [(0, .str s_), (4, .sl (.own n1419) 1 (s1418.out.map AV.str)), (5, .i u.1), (6, .sl (.own v) 1 (u.2.map byteAV))]) (fun u v => [(n1419, .spare), (v, .spare)]) (fun u => s1703 = .inl u) ?_ ?_
   ·intro s1597
    intro n1598
    rintro rfl
    have h := onSum_inl h1599
    refine aw_region (xm Z Z Z (xm Z Z Z (xc Z (op_bytesStr Z underlying102 underlying5 underlying9 (tm Z) (xc Z (op_buildSlice (xs := ([s1597.2] : List (List UInt8)).map AV.str) (aparts := [(0, .str s1597.2)]) Z underlying26 sizeOf9 zeroValue9 (by decide) (by decide) ⟨Z, (tm Z), trivial⟩ Z Z Z ?_))))))
    obtain ⟨c1701, h⟩ := need_of h
    refine xc Z (op_appendOM (q := 0) Z underlying26 underlying26 (.inl Z) typeInfo9 Z Z Z (by decide) (tm Z) Z (given_sl (tm Z)) c1701 ?_)
    intro t1702
    refine xm Z Z Z (xe ?_)
    obtain rfl := some_of h
    exact ⟨_, t1702, Z, Weak.mkL [0] (by decide) ⟨⟨_, Z, Z⟩, trivial⟩ ⟨tm Z, (AEv.le (tm Z) vr), tm Z, trivial⟩⟩
   ·have h := s1703e
    refine aw_block (aw_claim 6 (tm Z) fun t1700 => (aw_while (σ := line.Split.S4) (ν := Nat) (line.Split.body4 s_) (fun s1664 v => [(0, .str s_), (4, .sl (.own n1419) 1 (s1418.out.map AV.str)), (5, .i s1664.at_), (6, .sl (.own v) 1 (s1664.b.map byteAV))]) (fun s1664 v => [(n1419, .spare), (v, .spare)]) ⟨s1459, ([] : List UInt8)⟩ t1700 _ h (Weak.mkL [1, 0] (by decide) ⟨⟨_, Z, Z⟩, ⟨_, Z, Z⟩, trivial⟩ ⟨tm Z, tm Z, tm Z, tm Z, trivial⟩) ?_))
    rintro s1664 n1665 x1667 h hx1666
    unfold line.Split.body4 at h
    refine aw_seq ?_
    obtain ⟨s1672, s1672e, h1673⟩ := bind_some h
    refine aw_meet (ν := Unit) (fun v => [(0, .str s_), (4, .sl (.own n1419) 1 (s1418.out.map AV.str)), (5, .i s1664.at_), (6, .sl (.own n1665) 1 (s1664.b.map byteAV)), (37, .bool s1672)]) (fun v => [(n1419, .spare), (n1665, .spare)]) ?_ ?_
    ·have h := s1672e
     refine aw_region (xm Z Z Z (xm Z Z Z (xa (.i (s_.length : Int)) Z (pu_strLen Z underlying9 (tm Z)) (xa (.bool (decide (s1664.at_ < (s_.length : Int)))) Z (pu_int (v := .bool (decide (s1664.at_ < (s_.length : Int)))) Z Z (tm Z) (tm Z) Z) (xm Z Z Z ?_)))))
     rcases Bool.eq_false_or_eq_true (decide (s1664.at_ < (s_.length : Int))) with hb1675 | hb1675
     ·replace h := ite_t (dec_t hb1675) h
      refine aops_known 31 Z hb1675 (xq Z Z Z Z (xq Z Z Z Z ?_))
      obtain ⟨c1676, h⟩ := need_of h
      refine xp (.int .u8 (bix s_ s1664.at_)) Z Z (pu_strIdxM Z underlying9 (tm Z) (tm Z) c1676) ?_
      obtain ⟨r1677, r1677e, h⟩ := bind_some h
      refine xg Z Z (op_call (vs := [.int .u8 (bix s_ s1664.at_)]) (H := []) Z call97 ⟨(tm Z), trivial⟩ (List.Perm.refl _) (line.blank.ok r1677e) ?_)
      rintro _ _ ⟨rfl, rfl⟩
      refine xp (.bool (!r1677)) Z Z (pu_not Z (tm Z)) (xa (.bool (!r1677)) Z (pu_pick (b := true) Z (tm Z) (fun _ => (tm Z)) (fun h => nomatch h)) (xe ?_))
      obtain rfl := some_of h
      exact ⟨(), Weak.mkL [0, 1] (by decide) ⟨⟨_, Z, Z⟩, ⟨_, Z, Z⟩, trivial⟩ ⟨tm Z, tm Z, tm Z, tm Z, tm Z, trivial⟩⟩
     ·replace h := ite_f (dec_f hb1675) h
      refine aops_known 31 Z hb1675 (xn Z Z Z (xn Z Z Z (xn Z Z Z (xn Z Z Z (xn Z Z Z (xa (.bool false) Z (pu_pick (b := false) Z (tm Z) (fun h => nomatch h) (fun _ => (AEv.bool _))) (xe ?_)))))))
      obtain rfl := some_of h
      exact ⟨(), Weak.mkL [0, 1] (by decide) ⟨⟨_, Z, Z⟩, ⟨_, Z, Z⟩, trivial⟩ ⟨tm Z, tm Z, tm Z, tm Z, tm Z, trivial⟩⟩
    ·intro _
     have h := h1673
     refine aw_cond (b := s1672) (tm Z) (fun hb1699 => ?_) (fun hb1699 => ?_)
     ·replace h := ite_t hb1699 h
      refine aw_skip (aw_block (aw_seq ?_))
      obtain ⟨s1681, s1681e, h1682⟩ := bind_some h
      refine aw_meet (ν := Unit) (fun v => [(0, .str s_), (4, .sl (.own n1419) 1 (s1418.out.map AV.str)), (5, .i s1664.at_), (6, .sl (.own n1665) 1 (s1664.b.map byteAV)), (47, .bool s1681)]) (fun v => [(n1419, .spare), (n1665, .spare)]) ?_ ?_
      ·have h := s1681e
       refine aw_region (xm Z Z Z (xm Z Z Z ?_))
       obtain ⟨c1684, h⟩ := need_of h
       refine xa (.int .u8 (bix s_ s1664.at_)) Z (pu_strIdxM Z underlying9 (tm Z) (tm Z) c1684) (xa (.bool (!decide ((bix s_ s1664.at_) = 34))) Z (pu_int (v := .bool (!decide ((bix s_ s1664.at_) = 34))) Z Z (tm Z) (AEv.int _ _) Z) (xm Z Z Z ?_))
       rcases Bool.eq_false_or_eq_true (!decide ((bix s_ s1664.at_) = 34)) with hb1685 | hb1685
       ·replace h := ite_f (ndec_t hb1685) h
        refine aops_known 42 Z hb1685 (xq Z Z Z Z (xq Z Z Z Z ?_))
        obtain ⟨c1686, h⟩ := need_of h
        refine xp (.int .u8 (bix s_ s1664.at_)) Z Z (pu_strIdxM Z underlying9 (tm Z) (tm Z) c1686) (xp (.bool (!decide ((bix s_ s1664.at_) = 39))) Z Z (pu_int (v := .bool (!decide ((bix s_ s1664.at_) = 39))) Z Z (tm Z) (AEv.int _ _) Z) (xa (.bool (!decide ((bix s_ s1664.at_) = 39))) Z (pu_pick (b := true) Z (tm Z) (fun _ => (tm Z)) (fun h => nomatch h)) (xe ?_)))
        obtain rfl := some_of h
        exact ⟨(), Weak.mkL [0, 1] (by decide) ⟨⟨_, Z, Z⟩, ⟨_, Z, Z⟩, trivial⟩ ⟨tm Z, tm Z, tm Z, tm Z, tm Z, trivial⟩⟩
       ·replace h := ite_t (ndec_f hb1685) h
        refine aops_known 42 Z hb1685 (xn Z Z Z (xn Z Z Z (xn Z Z Z (xn Z Z Z (xa (.bool false) Z (pu_pick (b := false) Z (tm Z) (fun h => nomatch h) (fun _ => (AEv.bool _))) (xe ?_))))))
        obtain rfl := some_of h
        exact ⟨(), Weak.mkL [0, 1] (by decide) ⟨⟨_, Z, Z⟩, ⟨_, Z, Z⟩, trivial⟩ ⟨tm Z, tm Z, tm Z, tm Z, tm Z, trivial⟩⟩
      ·intro _
       have h := h1682
       refine aw_cond (b := s1681) (tm Z) (fun hb1698 => ?_) (fun hb1698 => ?_)
       ·replace h := ite_t hb1698 h
        refine xr (xm Z Z Z (xm Z Z Z (xm Z Z Z ?_)))
        obtain ⟨c1687, h⟩ := need_of h
        refine xa (.int .u8 (bix s_ s1664.at_)) Z (pu_strIdxM Z underlying9 (tm Z) (tm Z) c1687) ?_
        obtain ⟨c1688, h⟩ := need_of h
        refine xc Z (op_buildSlice (xs := ([u8 (bix s_ s1664.at_)] : List UInt8).map byteAV) (aparts := [(0, byteAV (u8 (bix s_ s1664.at_)))]) Z underlying102 sizeOf5 zeroValue5 (by decide) (by decide) ⟨Z, (AEv.le (tm Z) (AV.Le.of_eq (byteAV_u8 c1688.1 c1688.2).symm)), trivial⟩ Z Z Z ?_)
        obtain ⟨c1689, h⟩ := need_of h
        refine xc Z (op_appendOM (q := 1) Z underlying102 underlying102 (.inl Z) typeInfo5 Z Z Z (by decide) (tm Z) Z (given_sl (tm Z)) c1689 ?_)
        intro t1690
        refine xm Z Z Z (xe (xr (xm Z Z Z (xa (.i (IntKind.wrap .i64 (s1664.at_ + 1))) Z (pu_int (v := .i (IntKind.wrap .i64 (s1664.at_ + 1))) Z Z (tm Z) (AEv.int _ _) Z) (xm Z Z Z (xe (aw_exit ?_)))))))
        obtain rfl := some_of h
        exact ⟨_, t1690, Z, Weak.mkL [0, 1] (by decide) ⟨⟨_, Z, Z⟩, ⟨_, Z, Z⟩, trivial⟩ ⟨tm Z, tm Z, (AEv.le (tm Z) vr), (AEv.le (tm Z) vr), trivial⟩⟩
       ·replace h := ite_fb hb1698 h
        refine aw_skip (xr (xm Z Z Z (xm Z Z Z (xa (.i (IntKind.wrap .i64 (s1664.at_ + 1))) Z (pu_int (v := .i (IntKind.wrap .i64 (s1664.at_ + 1))) Z Z (tm Z) (AEv.int _ _) Z) (xm Z Z Z (xm Z Z Z ?_))))))
        obtain ⟨c1691, h⟩ := need_of h
        refine xa (.int .u8 (bix s_ s1664.at_)) Z (pu_strIdxM Z underlying9 (tm Z) (tm Z) c1691) ?_
        obtain ⟨r1692, r1692e, h⟩ := bind_some h
        refine xc Z (op_call (vs := [.str s_, .i (IntKind.wrap .i64 (s1664.at_ + 1)), .int .u8 (bix s_ s1664.at_)]) (H := []) Z call98 ⟨(tm Z), (tm Z), (tm Z), trivial⟩ (List.Perm.refl _) (line.quoted.ok r1692e) ?_)
        rintro _ _ ⟨t1693, rfl, rfl⟩
        refine xm Z Z Z (xa (.sl (.own t1693) 1 (r1692.1.map byteAV)) Z (pu_extract Z (tm Z) (nb Z) Z) (xa (.i r1692.2.1) Z (pu_extract Z (tm Z) (nb Z) Z) (xa (.bool r1692.2.2) Z (pu_extract Z (tm Z) (nb Z) Z) (xm Z Z Z (xm Z Z Z (xm Z Z Z (xe (aw_seq (aw_seq ?_)))))))))
        refine aw_region (xm Z Z Z (xa (.bool (!r1692.2.2)) Z (pu_not Z (tm Z)) (xe (aw_cond (b := (!r1692.2.2)) (tm Z) (fun hb1697 => ?_) (fun hb1697 => ?_)))))
        ·replace h := ite_t hb1697 h
         refine xr (xa (.sl .full 1 (([] : List (List UInt8)).map AV.str)) Z (pu_assign Z (AEv.nil 1 (by decide))) (xa (.bool false) Z (pu_assign Z (AEv.bool _)) (xe (aw_claim 2 (tm Z) fun t1694 => (aw_ret ?_)))))
         obtain rfl := some_of h
         have h := congrArg some (hx1666 _ rfl)
         obtain rfl := some_of h
         have h := onSum_inr h1599
         obtain rfl := some_of h
         have h := congrArg some (hx1420 _ rfl)
         obtain rfl := some_of h
         exact ⟨[.sl (.own t1694) 1 (([] : List (List UInt8)).map AV.str), .bool false], _, [(t1694, .spare)], ⟨(tm Z), (tm Z), trivial⟩, vr, Weak.mkL [0] (by decide) ⟨⟨_, Z, Z⟩, trivial⟩ trivial, ⟨t1694, Z, Z⟩⟩
        ·replace h := ite_fb hb1697 h
         refine aw_skip (xr (xm Z Z Z (xm Z Z Z ?_)))
         obtain ⟨c1695, h⟩ := need_of h
         refine xc Z (op_appendOM (q := 2) Z underlying102 underlying102 (.inl Z) typeInfo5 Z Z Z (by decide) (tm Z) Z (given_sl (tm Z)) c1695 ?_)
         intro t1696
         refine xm Z Z Z (xe (aw_region (xm Z Z Z (xm Z Z Z (xe ?_)))))
         obtain rfl := some_of h
         exact ⟨_, t1696, Z, Weak.mkL [1, 2] (by decide) ⟨⟨_, Z, Z⟩, ⟨_, Z, Z⟩, trivial⟩ ⟨tm Z, tm Z, tm Z, (AEv.le (tm Z) vr), trivial⟩⟩
     ·replace h := ite_fb hb1699 h
      refine aw_exit ?_
      obtain rfl := some_of h
      have h := congrArg some (hx1666 _ rfl)
      exact ⟨(s1664.at_, s1664.b), n1665, (some_of h).symm, Weak.mkL [0, 1] (by decide) ⟨⟨_, Z, Z⟩, ⟨_, Z, Z⟩, trivial⟩ ⟨tm Z, tm Z, tm Z, tm Z, trivial⟩⟩

theorem parse.parser.line_1.ok {s_ : List UInt8} {b1_ : parse.parser} {r : Bool} (h : parse.parser.line_1 s_ b1_ = some r) (o0 o1 q0 q1 : Nat) : Go.Lift.Spec prog 90 [.str s_, .ptr o0 0] [(o0, .cells [.ptr o1 0]), (o1, .cells (parse.parser.ct (.own q0) (.own q1) b1_)), (q0, .spare), (q1, .spare)] (fun v H => ∃ n0 n1, v = .bool r ∧ H = [(o0, .cells [.ptr o1 0]), (o1, .cells (parse.parser.ct (.own n0) (.own n1) b1_)), (n0, .spare), (n1, .spare)]) := by
 unfold parse.parser.line_1 at h
 refine Go.Lift.Spec.of_body (rs := [.tmp 3]) func90 Z Z (nb Z) Z (xr (xa (.bool false) Z (pu_assign Z (AEv.bool _)) (xe (xr (xm Z Z Z (xa (.i (s_.length : Int)) Z (pu_strLen Z underlying9 (tm Z)) (xc Z (op_load1 (i := 0) Z isAgg91 (tm Z) Z Z ?_))))))))
 refine xa (.ptr o1 0) Z (pu_nilCheck Z (tm Z) Z) (xa (.ptr o1 8) Z (fa Z underlying93 Z sizeOf23 Z Z Z) (xa (.ptr o1 9) Z (fa Z underlying23 Z sizeOf3 Z Z Z) (xc Z (op_load1 (i := 1) Z isAgg3 (tm Z) Z Z (xa (.bool (decide (b1_.l.Bulk < (s_.length : Int)))) Z (pu_int (v := .bool (decide (b1_.l.Bulk < (s_.length : Int)))) Z Z (tm Z) (tm Z) Z) (xm Z Z Z (xe (aw_ret ?_))))))))
 obtain rfl := some_of h
 exact ⟨[.bool (decide (b1_.l.Bulk < (s_.length : Int)))], _, [(o0, .cells [.ptr o1 0]), (o1, .cells (parse.parser.ct (.own q0) (.own q1) b1_)), (q0, .spare), (q1, .spare)], ⟨(tm Z), trivial⟩, vr, Weak.mkL [0, 1, 2, 3] (by decide) ⟨⟨_, Z, ⟨vr, trivial⟩, Z⟩, ⟨_, Z, cr, Z⟩, ⟨_, Z, Z⟩, ⟨_, Z, Z⟩, trivial⟩ trivial, ⟨q0, q1, Z, Z⟩⟩

theorem slices.IndexFunc_string_parse_parser_line_1.ok {s_ : List (List UInt8)} {b1_ : parse.parser} {r : Int} (h : slices.IndexFunc_string_parse_parser_line_1 s_ b1_ = some r) (o0 o1 q0 q1 : Nat) : Go.Lift.Spec prog 100 [.sl .no 1 (s_.map AV.str), .fn 90 [.ptr o0 0]] [(o0, .cells [.ptr o1 0]), (o1, .cells (parse.parser.ct (.own q0) (.own q1) b1_)), (q0, .spare), (q1, .spare)] (fun v H => ∃ n0 n1, v = .i r ∧ H = [(o0, .cells [.ptr o1 0]), (o1, .cells (parse.parser.ct (.own n0) (.own n1) b1_)), (n0, .spare), (n1, .spare)]) := by
 unfold slices.IndexFunc_string_parse_parser_line_1 at h
 refine Go.Lift.Spec.of_body (rs := [.tmp 4]) func100 Z Z (nb Z) Z (xr (xa (.i 0) Z (pu_assign Z (AEv.int _ _)) (xe ?_)))
 obtain ⟨s124, s124e, h94⟩ := bind_some h
 refine aw_join (σ := Unit) (ν := Nat × Nat) (fun u v => []) (fun u v => [(o0, .cells [.ptr o1 0]), (o1, .cells (parse.parser.ct (.own v.1) (.own v.2) b1_)), (v.1, .spare), (v.2, .spare)]) (fun u => s124 = .inl u) ?_ ?_
 ·intro s91
  rintro ⟨n92, n93⟩
  rintro rfl
  have h := onSum_inl h94
  refine xr (xa (.i (-1)) Z (pu_assign Z (AEv.int _ _)) (xe (aw_ret ?_)))
  obtain rfl := some_of h
  exact ⟨[.i (-1)], _, [(o0, .cells [.ptr o1 0]), (o1, .cells (parse.parser.ct (.own n92) (.own n93) b1_)), (n92, .spare), (n93, .spare)], ⟨(tm Z), trivial⟩, vr, Weak.mkL [0, 1, 2, 3] (by decide) ⟨⟨_, Z, ⟨vr, trivial⟩, Z⟩, ⟨_, Z, cr, Z⟩, ⟨_, Z, Z⟩, ⟨_, Z, Z⟩, trivial⟩ trivial, ⟨n92, n93, Z, Z⟩⟩
 ·have h := s124e
  refine xr (xm Z Z Z (xa (.i (s_.length : Int)) Z (pu_lenM Z underlying26 (tm Z)) (xa (.i 0) Z (pu_move Z (AEv.int _ _)) (xe (aw_block (aw_while (σ := slices.IndexFunc_string_parse_parser_line_1.S0) (ν := Nat × Nat) (slices.IndexFunc_string_parse_parser_line_1.body0 s_ b1_) (fun s112 v => [(0, .sl .no 1 (s_.map AV.str)), (1, .fn 90 [.ptr o0 0]), (7, .i (s_.length : Int)), (8, .i s112.t8)]) (fun s112 v => [(o0, .cells [.ptr o1 0]), (o1, .cells (parse.parser.ct (.own v.1) (.own v.2) b1_)), (v.1, .spare), (v.2, .spare)]) ⟨0⟩ (q0, q1) _ h (Weak.mkL [0, 1, 2, 3] (by decide) ⟨⟨_, Z, ⟨vr, trivial⟩, Z⟩, ⟨_, Z, cr, Z⟩, ⟨_, Z, Z⟩, ⟨_, Z, Z⟩, trivial⟩ ⟨tm Z, tm Z, tm Z, tm Z, trivial⟩) ?_))))))
  rintro s112 ⟨n113, n114⟩ x116 h hx115
  unfold slices.IndexFunc_string_parse_parser_line_1.body0 at h
  refine xr (xa (.bool (decide (s112.t8 < (s_.length : Int)))) Z (pu_int (v := .bool (decide (s112.t8 < (s_.length : Int)))) Z Z (tm Z) (tm Z) Z) (xe (aw_seq (aw_cond (b := decide (s112.t8 < (s_.length : Int))) (tm Z) (fun hb123 => ?_) (fun hb123 => ?_)))))
  ·replace h := ite_t (dec_t hb123) h
   refine aw_skip (aw_seq (aw_block (xr (xm Z Z Z (xm Z Z Z (xe (aw_seq (aw_region ?_))))))))
   refine xm Z Z Z (xm Z Z Z (xm Z Z Z ?_))
   obtain ⟨c118, h⟩ := need_of h
   refine xa (.vptr [.str (ix s_ s112.t8)]) Z (pu_indexAddrM Z underlying26 sizeOf9 (tm Z) (tm Z) c118 Z) (xc Z (op_loadV1 Z isAgg9 (tm Z) Z ?_))
   obtain ⟨r119, r119e, h⟩ := bind_some h
   refine xc Z (op_callV (vs := [.str (ix s_ s112.t8)]) (H := [(o0, .cells [.ptr o1 0]), (o1, .cells (parse.parser.ct (.own n113) (.own n114) b1_)), (n113, .spare), (n114, .spare)]) Z (tm Z) call90 ⟨(tm Z), trivial⟩ (List.Perm.refl _) (parse.parser.line_1.ok r119e o0 o1 n113 n114) ?_)
   rintro _ _ ⟨t120, t121, rfl, rfl⟩
   refine xe (aw_cond (b := r119) (tm Z) (fun hb122 => ?_) (fun hb122 => ?_))
   ·replace h := ite_t hb122 h
    refine xr (xm Z Z Z (xm Z Z Z (xe (aw_ret ?_))))
    obtain rfl := some_of h
    have h := congrArg some (hx115 _ rfl)
    obtain rfl := some_of h
    have h := onSum_inr h94
    obtain rfl := some_of h
    exact ⟨[.i s112.t8], _, [(o0, .cells [.ptr o1 0]), (o1, .cells (parse.parser.ct (.own t120) (.own t121) b1_)), (t120, .spare), (t121, .spare)], ⟨(tm Z), trivial⟩, vr, Weak.mkL [0, 1, 2, 3] (by decide) ⟨⟨_, Z, ⟨vr, trivial⟩, Z⟩, ⟨_, Z, cr, Z⟩, ⟨_, Z, Z⟩, ⟨_, Z, Z⟩, trivial⟩ trivial, ⟨t120, t121, Z, Z⟩⟩
   ·replace h := ite_fb hb122 h
    refine aw_skip (aw_region (xa (.i (IntKind.wrap .i64 (s112.t8 + 1))) Z (pu_int (v := .i (IntKind.wrap .i64 (s112.t8 + 1))) Z Z (tm Z) (AEv.int _ _) Z) (xm Z Z Z (xe ?_))))
    obtain rfl := some_of h
    exact ⟨_, (t120, t121), Z, Weak.mkL [0, 1, 2, 3] (by decide) ⟨⟨_, Z, ⟨vr, trivial⟩, Z⟩, ⟨_, Z, cr, Z⟩, ⟨_, Z, Z⟩, ⟨_, Z, Z⟩, trivial⟩ ⟨tm Z, tm Z, tm Z, (AEv.le (tm Z) vr), trivial⟩⟩
  ·replace h := ite_f (dec_f hb123) h
   refine aw_exit ?_
   obtain rfl := some_of h
   have h := congrArg some (hx115 _ rfl)
   exact ⟨(), (n113, n114), (some_of h).symm, Weak.mkL [0, 1, 2, 3] (by decide) ⟨⟨_, Z, ⟨vr, trivial⟩, Z⟩, ⟨_, Z, cr, Z⟩, ⟨_, Z, Z⟩, ⟨_, Z, Z⟩, trivial⟩ trivial⟩

theorem slices.ContainsFunc_string_parse_parser_line_1.ok {s_ : List (List UInt8)} {b1_ : parse.parser} {r : Bool} (h : slices.ContainsFunc_string_parse_parser_line_1 s_ b1_ = some r) (o0 o1 q0 q1 : Nat) : Go.Lift.Spec prog 91 [.sl .no 1 (s_.map AV.str), .fn 90 [.ptr o0 0]] [(o0, .cells [.ptr o1 0]), (o1, .cells (parse.parser.ct (.own q0) (.own q1) b1_)), (q0, .spare), (q1, .spare)] (fun v H => ∃ n0 n1, v = .bool r ∧ H = [(o0, .cells [.ptr o1 0]), (o1, .cells (parse.parser.ct (.own n0) (.own n1) b1_)), (n0, .spare), (n1, .spare)]) := by
 unfold slices.ContainsFunc_string_parse_parser_line_1 at h
 refine Go.Lift.Spec.of_body (rs := [.tmp 4]) func91 Z Z (nb Z) Z (xr (xa (.bool false) Z (pu_assign Z (AEv.bool _)) (xe (xr (xm Z Z Z (xm Z Z Z ?_))))))
 obtain ⟨r4, r4e, h⟩ := bind_some h
 refine xc Z (op_call (vs := [.sl .no 1 (s_.map AV.str), .fn 90 [.ptr o0 0]]) (H := [(o0, .cells [.ptr o1 0]), (o1, .cells (parse.parser.ct (.own q0) (.own q1) b1_)), (q0, .spare), (q1, .spare)]) Z call100 ⟨(tm Z), (tm Z), trivial⟩ (List.Perm.refl _) (slices.IndexFunc_string_parse_parser_line_1.ok r4e o0 o1 q0 q1) ?_)
 rintro _ _ ⟨t5, t6, rfl, rfl⟩
 refine xa (.bool (decide (0 ≤ r4))) Z (pu_int (v := .bool (decide (0 ≤ r4))) Z Z (tm Z) (AEv.int _ _) Z) (xm Z Z Z (xe (aw_ret ?_)))
 obtain rfl := some_of h
 exact ⟨[.bool (decide (0 ≤ r4))], _, [(o0, .cells [.ptr o1 0]), (o1, .cells (parse.parser.ct (.own t5) (.own t6) b1_)), (t5, .spare), (t6, .spare)], ⟨(tm Z), trivial⟩, vr, Weak.mkL [0, 1, 2, 3] (by decide) ⟨⟨_, Z, ⟨vr, trivial⟩, Z⟩, ⟨_, Z, cr, Z⟩, ⟨_, Z, Z⟩, ⟨_, Z, Z⟩, trivial⟩ trivial, ⟨t5, t6, Z, Z⟩⟩

theorem parse.parser.line.ok {p_ : parse.parser} {r : Bool × parse.parser} (h : parse.parser.line p_ = some r) (o0 q0 q1 : Nat) : Go.Lift.Spec prog 75 [.ptr o0 0] [(o0, .cells (parse.parser.ct (.own q0) (.own q1) p_)), (q0, .spare), (q1, .spare)] (fun v H => ∃ n0 n1, v = .bool r.1 ∧ H = [(o0, .cells [.str r.2.in_.Rest, .sl (.own n0) 1 (r.2.in_.Args.map AV.str), .i r.2.in_.Left, .i r.2.in_.Size, .bool r.2.in_.Body, .i r.2.in_.Need, .i r.2.in_.Dead, .str r.2.s, .i r.2.l.Args, .i r.2.l.Bulk, .i r.2.l.Line, .sl (.own n1) 2 (r.2.out.map api.Request.av)]), (n0, .spare), (n1, .spare)]) := by
 unfold parse.parser.line at h
 refine Go.Lift.Spec.of_body (rs := [.tmp 2]) func75 Z Z (nb Z) Z (xr (xc Z (op_box (cs := [.ptr o0 0]) (v := .ptr o0 0) Z (tm Z) Z Z ?_)))
 intro p35
 refine xa (.bool false) Z (pu_assign Z (AEv.bool _)) (xe (xr (xc Z (op_load1 (i := 0) Z isAgg91 (tm Z) Z Z (xa (.ptr o0 0) Z (pu_nilCheck Z (tm Z) Z) (xa (.ptr o0 7) Z (fa Z underlying93 Z sizeOf9 Z Z Z) (xc Z (op_load1 (i := 1) Z isAgg9 (tm Z) Z Z ?_))))))))
 obtain ⟨r36, r36e, h⟩ := bind_some h
 refine xc Z (op_call (vs := [.str p_.s, .int .u8 10]) (H := []) Z call87 ⟨(tm Z), (AEv.int _ _), trivial⟩ (List.Perm.refl _) (strings.IndexByte.ok r36e) ?_)
 rintro _ _ ⟨rfl, rfl⟩
 refine xm Z Z Z (xe (aw_seq ?_))
 obtain ⟨s39, s39e, h40⟩ := letO_of h
 refine aw_meet (ν := Unit) (fun v => [(1, .ptr p35 0), (3, .i r36), (35, .bool s39)]) (fun v => [(p35, .cells [.ptr o0 0]), (o0, .cells (parse.parser.ct (.own q0) (.own q1) p_)), (q0, .spare), (q1, .spare)]) ?_ ?_
 ·have h := s39e.symm
  rcases Bool.eq_false_or_eq_true (decide (r36 < 0)) with hb42 | hb42
  ·replace h := ite_t (dec_t hb42) h
   rcases Bool.eq_false_or_eq_true (decide (p_.l.Line < (p_.s.length : Int))) with hb43 | hb43
   ·replace h := ite_t (dec_t hb43) h
    refine aw_planR (by decide +kernel) [[], [], [], [(0, 0, false)], [], [], [(1, 0, false)], [], [(0, 0, false)], [], [], [], [(1, 0, false)], [], [], [], [], [], [], [], [], [], [], []] [[], [], [], []] [[[(p35, .cells [.ptr o0 0])]], [[(o0, .cells (parse.parser.ct (.own q0) (.own q1) p_))]], [[(q0, .spare)]], [[(q1, .spare)]]] [.i r36, .bool (decide (r36 < 0)), .bool true, .ptr o0 0, .ptr o0 0, .ptr o0 7, .str p_.s, .i (p_.s.length : Int), .ptr o0 0, .ptr o0 0, .ptr o0 8, .ptr o0 10, .i p_.l.Line, .bool (decide (p_.l.Line < (p_.s.length : Int))), .bool (decide (p_.l.Line < (p_.s.length : Int))), .bool true, .lit undef, .lit undef, .lit undef, .lit undef, .lit undef, .lit undef, .lit undef, .bool true] (by decide +kernel) Z Z ?_ ?_
    ·exact ⟨ym Z Z Z, yp Z (pu_int (v := .bool (decide (r36 < 0))) Z Z (tm Z) (AEv.int _ _) Z), AStepG.cast (ym Z Z Z) (congrArg AV.bool hb42), yg Z Z (op_load1 (i := 0) Z isAgg91 (tm Z) Z Z ⟨Z, Z⟩), yq Z Z (pu_nilCheck Z (tm Z) Z), yq Z Z (fa Z underlying93 Z sizeOf9 Z Z Z), yg Z Z (op_load1 (i := 0) Z isAgg9 (tm Z) Z Z ⟨Z, Z⟩), yq Z Z (pu_strLen Z underlying9 (tm Z)), yg Z Z (op_load1 (i := 0) Z isAgg91 (tm Z) Z Z ⟨Z, Z⟩), yq Z Z (pu_nilCheck Z (tm Z) Z), yq Z Z (fa Z underlying93 Z sizeOf23 Z Z Z), yq Z Z (fa Z underlying23 Z sizeOf3 Z Z Z), yg Z Z (op_load1 (i := 0) Z isAgg3 (tm Z) Z Z ⟨Z, Z⟩), yq Z Z (pu_int (v := .bool (decide (p_.l.Line < (p_.s.length : Int)))) Z Z (tm Z) (tm Z) Z), yp Z (pu_pick (b := true) Z (tm Z) (fun _ => (tm Z)) (fun h => nomatch h)), AStepG.cast (ym Z Z Z) (congrArg AV.bool hb43), yx Z Z Z, yx Z Z Z, yx Z Z Z, yx Z Z Z, yx Z Z Z, yx Z Z Z, yx Z Z Z, yp Z (pu_pick (b := true) Z (tm Z) (fun _ => (AEv.bool _)) (fun h => nomatch h)), trivial⟩
    subst h
    exact ⟨(), Weak.mkL [0, 1, 2, 3] (by decide) ⟨⟨_, Z, ⟨vr, trivial⟩, Z⟩, ⟨_, Z, cr, Z⟩, ⟨_, Z, Z⟩, ⟨_, Z, Z⟩, trivial⟩ ⟨tm Z, tm Z, tm Z, trivial⟩⟩
   ·replace h := ite_f (dec_f hb43) h
    refine aw_planR (by decide +kernel) [[], [], [], [(0, 0, false)], [], [], [(1, 0, false)], [], [(0, 0, false)], [], [], [], [(1, 0, false)], [], [], [], [], [(0, 0, false)], [], [], [], [(1, 0, false)], [], []] [[], [], [], []] [[[(p35, .cells [.ptr o0 0])]], [[(o0, .cells (parse.parser.ct (.own q0) (.own q1) p_))]], [[(q0, .spare)]], [[(q1, .spare)]]] [.i r36, .bool (decide (r36 < 0)), .bool true, .ptr o0 0, .ptr o0 0, .ptr o0 7, .str p_.s, .i (p_.s.length : Int), .ptr o0 0, .ptr o0 0, .ptr o0 8, .ptr o0 10, .i p_.l.Line, .bool (decide (p_.l.Line < (p_.s.length : Int))), .bool (decide (p_.l.Line < (p_.s.length : Int))), .bool false, .i r36, .ptr o0 0, .ptr o0 0, .ptr o0 8, .ptr o0 10, .i p_.l.Line, .bool (decide (p_.l.Line < r36)), .bool (decide (p_.l.Line < r36))] (by decide +kernel) Z Z ?_ ?_
    ·exact ⟨ym Z Z Z, yp Z (pu_int (v := .bool (decide (r36 < 0))) Z Z (tm Z) (AEv.int _ _) Z), AStepG.cast (ym Z Z Z) (congrArg AV.bool hb42), yg Z Z (op_load1 (i := 0) Z isAgg91 (tm Z) Z Z ⟨Z, Z⟩), yq Z Z (pu_nilCheck Z (tm Z) Z), yq Z Z (fa Z underlying93 Z sizeOf9 Z Z Z), yg Z Z (op_load1 (i := 0) Z isAgg9 (tm Z) Z Z ⟨Z, Z⟩), yq Z Z (pu_strLen Z underlying9 (tm Z)), yg Z Z (op_load1 (i := 0) Z isAgg91 (tm Z) Z Z ⟨Z, Z⟩), yq Z Z (pu_nilCheck Z (tm Z) Z), yq Z Z (fa Z underlying93 Z sizeOf23 Z Z Z), yq Z Z (fa Z underlying23 Z sizeOf3 Z Z Z), yg Z Z (op_load1 (i := 0) Z isAgg3 (tm Z) Z Z ⟨Z, Z⟩), yq Z Z (pu_int (v := .bool (decide (p_.l.Line < (p_.s.length : Int)))) Z Z (tm Z) (tm Z) Z), yp Z (pu_pick (b := true) Z (tm Z) (fun _ => (tm Z)) (fun h => nomatch h)), AStepG.cast (ym Z Z Z) (congrArg AV.bool hb43), yq Z Z (pu_move Z (tm Z)), yg Z Z (op_load1 (i := 0) Z isAgg91 (tm Z) Z Z ⟨Z, Z⟩), yq Z Z (pu_nilCheck Z (tm Z) Z), yq Z Z (fa Z underlying93 Z sizeOf23 Z Z Z), yq Z Z (fa Z underlying23 Z sizeOf3 Z Z Z), yg Z Z (op_load1 (i := 0) Z isAgg3 (tm Z) Z Z ⟨Z, Z⟩), yq Z Z (pu_int (v := .bool (decide (p_.l.Line < r36))) Z Z (tm Z) (tm Z) Z), yp Z (pu_pick (b := false) Z (tm Z) (fun h => nomatch h) (fun _ => (tm Z))), trivial⟩
    subst h
    exact ⟨(), Weak.mkL [0, 1, 2, 3] (by decide) ⟨⟨_, Z, ⟨vr, trivial⟩, Z⟩, ⟨_, Z, cr, Z⟩, ⟨_, Z, Z⟩, ⟨_, Z, Z⟩, trivial⟩ ⟨tm Z, tm Z, (AEv.le (tm Z) vr), trivial⟩⟩
  ·replace h := ite_f (dec_f hb42) h
   refine aw_planR (by decide +kernel) [[], [], [], [], [], [], [], [], [], [], [], [], [], [], [], [], [], [(0, 0, false)], [], [], [], [(1, 0, false)], [], []] [[], [], [], []] [[[(p35, .cells [.ptr o0 0])]], [[(o0, .cells (parse.parser.ct (.own q0) (.own q1) p_))]], [[(q0, .spare)]], [[(q1, .spare)]]] [.i r36, .bool (decide (r36 < 0)), .bool false, .lit undef, .lit undef, .lit undef, .lit undef, .lit undef, .lit undef, .lit undef, .lit undef, .lit undef, .lit undef, .lit undef, .bool false, .bool false, .i r36, .ptr o0 0, .ptr o0 0, .ptr o0 8, .ptr o0 10, .i p_.l.Line, .bool (decide (p_.l.Line < r36)), .bool (decide (p_.l.Line < r36))] (by decide +kernel) Z Z ?_ ?_
   ·exact ⟨ym Z Z Z, yp Z (pu_int (v := .bool (decide (r36 < 0))) Z Z (tm Z) (AEv.int _ _) Z), AStepG.cast (ym Z Z Z) (congrArg AV.bool hb42), yx Z Z Z, yx Z Z Z, yx Z Z Z, yx Z Z Z, yx Z Z Z, yx Z Z Z, yx Z Z Z, yx Z Z Z, yx Z Z Z, yx Z Z Z, yx Z Z Z, yp Z (pu_pick (b := false) Z (tm Z) (fun h => nomatch h) (fun _ => (AEv.bool _))), ym Z Z Z, yq Z Z (pu_move Z (tm Z)), yg Z Z (op_load1 (i := 0) Z isAgg91 (tm Z) Z Z ⟨Z, Z⟩), yq Z Z (pu_nilCheck Z (tm Z) Z), yq Z Z (fa Z underlying93 Z sizeOf23 Z Z Z), yq Z Z (fa Z underlying23 Z sizeOf3 Z Z Z), yg Z Z (op_load1 (i := 0) Z isAgg3 (tm Z) Z Z ⟨Z, Z⟩), yq Z Z (pu_int (v := .bool (decide (p_.l.Line < r36))) Z Z (tm Z) (tm Z) Z), yp Z (pu_pick (b := false) Z (tm Z) (fun h => nomatch h) (fun _ => (tm Z))), trivial⟩
   subst h
   exact ⟨(), Weak.mkL [0, 1, 2, 3] (by decide) ⟨⟨_, Z, ⟨vr, trivial⟩, Z⟩, ⟨_, Z, cr, Z⟩, ⟨_, Z, Z⟩, ⟨_, Z, Z⟩, trivial⟩ ⟨tm Z, tm Z, (AEv.le (tm Z) vr), trivial⟩⟩
 ·intro _
  have h := h40
  refine aw_cond (b := s39) (tm Z) (fun hb73 => ?_) (fun hb73 => ?_)
  ·replace h := ite_t hb73 h
   refine xr (xc Z (op_load1 (i := 0) Z isAgg91 (tm Z) Z Z ?_))
   obtain ⟨r44, r44e, h⟩ := bind_some h
   refine aops_weak (weak_pick [1, 2, 3, 0] (by decide) Z) (xc Z (op_call (vs := [.ptr o0 0, .i 6]) (H := [(o0, .cells (parse.parser.ct (.own q0) (.own q1) p_)), (q0, .spare), (q1, .spare)]) Z call85 ⟨(tm Z), (AEv.int _ _), trivial⟩ (List.Perm.refl _) (parse.parser.dies.ok r44e o0 q0 q1) ?_))
   rintro _ _ ⟨t45, rfl, rfl⟩
   refine xm Z Z Z (xe (aw_claimCell 0 1 Z Z fun t46 => (aw_ret ?_)))
   obtain rfl := some_of h
   exact ⟨[.bool r44.1], _, [(o0, .cells (parse.parser.ct (.own t46) (.own t45) r44.2)), (t46, .spare), (t45, .spare)], ⟨(tm Z), trivial⟩, vr, Weak.mkL [1, 0, 2] (by decide) ⟨⟨_, Z, cr, Z⟩, ⟨_, Z, Z⟩, ⟨_, Z, Z⟩, trivial⟩ trivial, ⟨t46, t45, Z, Z⟩⟩
  ·replace h := ite_fb hb73 h
   refine aw_skip (aw_seq (xr (xm Z Z Z (xa (.bool (decide (r36 < 0))) Z (pu_int (v := .bool (decide (r36 < 0))) Z Z (tm Z) (AEv.int _ _) Z) (xe (aw_cond (b := decide (r36 < 0)) (tm Z) (fun hb72 => ?_) (fun hb72 => ?_)))))))
   ·replace h := ite_t (dec_t hb72) h
    refine xr (xa (.bool false) Z (pu_assign Z (AEv.bool _)) (xe (aw_ret ?_)))
    obtain rfl := some_of h
    exact ⟨[.bool false], _, [(o0, .cells (parse.parser.ct (.own q0) (.own q1) p_)), (q0, .spare), (q1, .spare)], ⟨(tm Z), trivial⟩, vr, Weak.mkL [1, 2, 3] (by decide) ⟨⟨_, Z, cr, Z⟩, ⟨_, Z, Z⟩, ⟨_, Z, Z⟩, trivial⟩ trivial, ⟨q0, q1, Z, Z⟩⟩
   ·replace h := ite_f (dec_f hb72) h
    refine aw_skip (xr (xc Z (op_load1 (i := 0) Z isAgg91 (tm Z) Z Z (xa (.ptr o0 0) Z (pu_nilCheck Z (tm Z) Z) (xa (.ptr o0 7) Z (fa Z underlying93 Z sizeOf9 Z Z Z) (xc Z (op_load1 (i := 1) Z isAgg9 (tm Z) Z Z (xm Z Z Z ?_))))))))
    obtain ⟨c47, h⟩ := need_of h
    refine xa (.str (sub p_.s 0 r36)) Z (pu_strSliceM Z underlying9 (tm Z) Z ⟨_, (tm Z)⟩ c47) ?_
    obtain ⟨r48, r48e, h⟩ := bind_some h
    refine xc Z (op_call (vs := [.str (sub p_.s 0 r36), .str [13]]) (H := []) Z call89 ⟨(tm Z), (AEv.const Z), trivial⟩ (List.Perm.refl _) (strings.TrimSuffix.ok r48e) ?_)
    rintro _ _ ⟨rfl, rfl⟩
    obtain ⟨r49, r49e, h⟩ := bind_some h
    refine xc Z (op_call (vs := [.str r48]) (H := []) Z call88 ⟨(tm Z), trivial⟩ (List.Perm.refl _) (line.Split.ok r49e) ?_)
    rintro _ _ ⟨t50, rfl, rfl⟩
    refine xm Z Z Z (xa (.sl (.own t50) 1 (r49.1.map AV.str)) Z (pu_extract Z (tm Z) (nb Z) Z) (xa (.bool r49.2) Z (pu_extract Z (tm Z) (nb Z) Z) (xm Z Z Z (xm Z Z Z (xe (xr (xa (.fn 90 [.ptr p35 0]) Z (pu_makeFunc Z ⟨(tm Z), trivial⟩) (xm Z Z Z ?_))))))))
    refine xe (aw_seq (aw_block (xr (xm Z Z Z (xa (.bool (!r49.2)) Z (pu_not Z (tm Z)) (xm Z Z Z (xe (aw_cond (b := (!r49.2)) (tm Z) (fun hb71 => ?_) (fun hb71 => ?_)))))))))
    ·replace h := ite_t hb71 h
     refine xr (xc Z (op_load1 (i := 1) Z isAgg91 (tm Z) Z Z ?_))
     obtain ⟨r51, r51e, h⟩ := bind_some h
     refine aops_weak (weak_pick [2, 3, 4, 0, 1] (by decide) Z) (xc Z (op_call (vs := [.ptr o0 0, .i 16]) (H := [(o0, .cells (parse.parser.ct (.own q0) (.own q1) p_)), (q0, .spare), (q1, .spare)]) Z call85 ⟨(tm Z), (AEv.int _ _), trivial⟩ (List.Perm.refl _) (parse.parser.dies.ok r51e o0 q0 q1) ?_))
     rintro _ _ ⟨t52, rfl, rfl⟩
     refine xm Z Z Z (xe (aw_claimCell 0 1 Z Z fun t53 => (aw_ret ?_)))
     obtain rfl := some_of h
     exact ⟨[.bool r51.1], _, [(o0, .cells (parse.parser.ct (.own t53) (.own t52) r51.2)), (t53, .spare), (t52, .spare)], ⟨(tm Z), trivial⟩, vr, Weak.mkL [1, 0, 2] (by decide) ⟨⟨_, Z, cr, Z⟩, ⟨_, Z, Z⟩, ⟨_, Z, Z⟩, trivial⟩ trivial, ⟨t53, t52, Z, Z⟩⟩
    ·replace h := ite_fb hb71 h
     refine xr (xm Z Z Z (xa (.i (r49.1.length : Int)) Z (pu_lenM Z underlying26 (tm Z)) (xc Z (op_load1 (i := 1) Z isAgg91 (tm Z) Z Z (xa (.ptr o0 0) Z (pu_nilCheck Z (tm Z) Z) (xa (.ptr o0 8) Z (fa Z underlying93 Z sizeOf23 Z Z Z) (xa (.ptr o0 8) Z (fa Z underlying23 Z sizeOf3 Z Z Z) (xc Z (op_load1 (i := 2) Z isAgg3 (tm Z) Z Z (xa (.bool (decide (p_.l.Args < (r49.1.length : Int)))) Z (pu_int (v := .bool (decide (p_.l.Args < (r49.1.length : Int)))) Z Z (tm Z) (tm Z) Z) ?_))))))))))
     refine xm Z Z Z (xe (aw_cond (b := decide (p_.l.Args < (r49.1.length : Int))) (tm Z) (fun hb70 => ?_) (fun hb70 => ?_)))
     ·replace h := ite_t (dec_t hb70) h
      refine xr (xc Z (op_load1 (i := 1) Z isAgg91 (tm Z) Z Z ?_))
      obtain ⟨r54, r54e, h⟩ := bind_some h
      refine aops_weak (weak_pick [2, 3, 4, 0, 1] (by decide) Z) (xc Z (op_call (vs := [.ptr o0 0, .i 7]) (H := [(o0, .cells (parse.parser.ct (.own q0) (.own q1) p_)), (q0, .spare), (q1, .spare)]) Z call85 ⟨(tm Z), (AEv.int _ _), trivial⟩ (List.Perm.refl _) (parse.parser.dies.ok r54e o0 q0 q1) ?_))
      rintro _ _ ⟨t55, rfl, rfl⟩
      refine xm Z Z Z (xe (aw_claimCell 0 1 Z Z fun t56 => (aw_ret ?_)))
      obtain rfl := some_of h
      exact ⟨[.bool r54.1], _, [(o0, .cells (parse.parser.ct (.own t56) (.own t55) r54.2)), (t56, .spare), (t55, .spare)], ⟨(tm Z), trivial⟩, vr, Weak.mkL [1, 0, 2] (by decide) ⟨⟨_, Z, cr, Z⟩, ⟨_, Z, Z⟩, ⟨_, Z, Z⟩, trivial⟩ trivial, ⟨t56, t55, Z, Z⟩⟩
     ·replace h := ite_f (dec_f hb70) h
      refine xr (xm Z Z Z (xm Z Z Z ?_))
      obtain ⟨r57, r57e, h⟩ := bind_some h
      refine aops_weak (weak_pick [1, 2, 3, 4, 0] (by decide) Z) (xc Z (op_call (vs := [.sl .no 1 (r49.1.map AV.str), .fn 90 [.ptr p35 0]]) (H := [(p35, .cells [.ptr o0 0]), (o0, .cells (parse.parser.ct (.own q0) (.own q1) p_)), (q0, .spare), (q1, .spare)]) Z call91 ⟨(AEv.le (tm Z) (AV.Le.forget _ _ _)), (tm Z), trivial⟩ (List.Perm.refl _) (slices.ContainsFunc_string_parse_parser_line_1.ok r57e p35 o0 q0 q1) ?_))
      rintro _ _ ⟨t58, t59, rfl, rfl⟩
      refine xm Z Z Z (xe (aw_cond (b := r57) (tm Z) (fun hb69 => ?_) (fun hb69 => ?_)))
      ·replace h := ite_t hb69 h
       refine xr (xc Z (op_load1 (i := 0) Z isAgg91 (tm Z) Z Z ?_))
       obtain ⟨r60, r60e, h⟩ := bind_some h
       refine aops_weak (weak_pick [1, 2, 3, 0, 4] (by decide) Z) (xc Z (op_call (vs := [.ptr o0 0, .i 6]) (H := [(o0, .cells (parse.parser.ct (.own t58) (.own t59) p_)), (t58, .spare), (t59, .spare)]) Z call85 ⟨(tm Z), (AEv.int _ _), trivial⟩ (List.Perm.refl _) (parse.parser.dies.ok r60e o0 t58 t59) ?_))
       rintro _ _ ⟨t61, rfl, rfl⟩
       refine xm Z Z Z (xe (aw_claimCell 0 1 Z Z fun t62 => (aw_ret ?_)))
       obtain rfl := some_of h
       exact ⟨[.bool r60.1], _, [(o0, .cells (parse.parser.ct (.own t62) (.own t61) r60.2)), (t62, .spare), (t61, .spare)], ⟨(tm Z), trivial⟩, vr, Weak.mkL [1, 0, 2] (by decide) ⟨⟨_, Z, cr, Z⟩, ⟨_, Z, Z⟩, ⟨_, Z, Z⟩, trivial⟩ trivial, ⟨t62, t61, Z, Z⟩⟩
      ·replace h := ite_fb hb69 h
       refine aw_skip (xr (xc Z (op_load1 (i := 0) Z isAgg91 (tm Z) Z Z (xm Z Z Z (xa (.i (IntKind.wrap .i64 (r36 + 1))) Z (pu_int (v := .i (IntKind.wrap .i64 (r36 + 1))) Z Z (tm Z) (AEv.int _ _) Z) ?_)))))
       obtain ⟨r63, r63e, h⟩ := bind_some h
       refine aops_weak (weak_pick [1, 2, 3, 0, 4] (by decide) Z) (xc Z (op_call (vs := [.ptr o0 0, .i (IntKind.wrap .i64 (r36 + 1))]) (H := [(o0, .cells (parse.parser.ct (.own t58) (.own t59) p_)), (t58, .spare), (t59, .spare)]) Z call86 ⟨(tm Z), (tm Z), trivial⟩ (List.Perm.refl _) (parse.parser.past.ok r63e o0 t58 t59) ?_))
       rintro _ _ ⟨t64, t65, rfl, rfl⟩
       refine xe (xr (xc Z (op_load1 (i := 3) Z isAgg91 (tm Z) Z Z (xm Z Z Z ?_))))
       obtain ⟨r66, r66e, h⟩ := bind_some h
       refine xc Z (op_call (vs := [.ptr o0 0, .sl .no 1 (r49.1.map AV.str)]) (H := [(o0, .cells (parse.parser.ct (.own t64) (.own t65) r63)), (t64, .spare), (t65, .spare)]) Z call76 ⟨(tm Z), (AEv.le (tm Z) (AV.Le.forget _ _ _)), trivial⟩ (List.Perm.refl _) (parse.parser.whole.ok r66e o0 t64 t65) ?_)
       rintro _ _ ⟨t67, rfl, rfl⟩
       refine xe (xr (xa (.bool true) Z (pu_assign Z (AEv.bool _)) (xe (aw_claimCell 0 1 Z Z fun t68 => (aw_ret ?_)))))
       obtain rfl := some_of h
       exact ⟨[.bool true], _, [(o0, .cells (parse.parser.ct (.own t68) (.own t67) r66)), (t68, .spare), (t67, .spare)], ⟨(tm Z), trivial⟩, vr, Weak.mkL [1, 0, 2] (by decide) ⟨⟨_, Z, cr, Z⟩, ⟨_, Z, Z⟩, ⟨_, Z, Z⟩, trivial⟩ trivial, ⟨t68, t67, Z, Z⟩⟩

theorem parse.parser.step.ok {p_ : parse.parser} {r : Bool × parse.parser} (h : parse.parser.step p_ = some r) (o0 q0 q1 : Nat) : Go.Lift.Spec prog 51 [.ptr o0 0] [(o0, .cells (parse.parser.ct (.own q0) (.own q1) p_)), (q0, .spare), (q1, .spare)] (fun v H => ∃ n0 n1, v = .bool r.1 ∧ H = [(o0, .cells [.str r.2.in_.Rest, .sl (.own n0) 1 (r.2.in_.Args.map AV.str), .i r.2.in_.Left, .i r.2.in_.Size, .bool r.2.in_.Body, .i r.2.in_.Need, .i r.2.in_.Dead, .str r.2.s, .i r.2.l.Args, .i r.2.l.Bulk, .i r.2.l.Line, .sl (.own n1) 2 (r.2.out.map api.Request.av)]), (n0, .spare), (n1, .spare)]) := by
 unfold parse.parser.step at h
 refine Go.Lift.Spec.of_body (rs := [.tmp 2]) func51 Z Z (nb Z) Z (xr (xa (.bool false) Z (pu_assign Z (AEv.bool _)) (xe (aw_seq (aw_block (xr (xm Z Z Z ?_)))))))
 refine xa (.ptr o0 0) Z (pu_nilCheck Z (tm Z) Z) (xa (.ptr o0 0) Z (fa Z underlying93 Z sizeOf29 Z Z Z) (xa (.ptr o0 4) Z (fa Z underlying29 Z sizeOf4 Z Z Z) (xc Z (op_load1 (i := 0) Z isAgg4 (tm Z) Z Z (xm Z Z Z (xe (aw_cond (b := p_.in_.Body) (tm Z) (fun hb98 => ?_) (fun hb98 => ?_))))))))
 ·replace h := ite_t hb98 h
  refine xr (xm Z Z Z ?_)
  obtain ⟨r50, r50e, h⟩ := bind_some h
  refine xc Z (op_call (vs := [.ptr o0 0]) (H := [(o0, .cells (parse.parser.ct (.own q0) (.own q1) p_)), (q0, .spare), (q1, .spare)]) Z call73 ⟨(tm Z), trivial⟩ (List.Perm.refl _) (parse.parser.body.ok r50e o0 q0 q1) ?_)
  rintro _ _ ⟨t51, t52, rfl, rfl⟩
  refine xm Z Z Z (xe (aw_ret ?_))
  obtain rfl := some_of h
  exact ⟨[.bool r50.1], _, [(o0, .cells (parse.parser.ct (.own t51) (.own t52) r50.2)), (t51, .spare), (t52, .spare)], ⟨(tm Z), trivial⟩, vr, Weak.mkL [0, 1, 2] (by decide) ⟨⟨_, Z, cr, Z⟩, ⟨_, Z, Z⟩, ⟨_, Z, Z⟩, trivial⟩ trivial, ⟨t51, t52, Z, Z⟩⟩
 ·replace h := ite_fb hb98 h
  refine xr (xm Z Z Z (xa (.ptr o0 0) Z (pu_nilCheck Z (tm Z) Z) (xa (.ptr o0 0) Z (fa Z underlying93 Z sizeOf29 Z Z Z) (xa (.ptr o0 2) Z (fa Z underlying29 Z sizeOf3 Z Z Z) (xc Z (op_load1 (i := 0) Z isAgg3 (tm Z) Z Z (xa (.bool (decide (0 < p_.in_.Left))) Z (pu_int (v := .bool (decide (0 < p_.in_.Left))) Z Z (tm Z) (AEv.int _ _) Z) (xm Z Z Z (xe ?_)))))))))
  refine aw_cond (b := decide (0 < p_.in_.Left)) (tm Z) (fun hb97 => ?_) (fun hb97 => ?_)
  ·replace h := ite_t (dec_t hb97) h
   refine xr (xm Z Z Z (xm Z Z Z (xa (.ptr o0 0) Z (pu_nilCheck Z (tm Z) Z) (xa (.ptr o0 8) Z (fa Z underlying93 Z sizeOf23 Z Z Z) (xa (.ptr o0 9) Z (fa Z underlying23 Z sizeOf3 Z Z Z) (xc Z (op_load1 (i := 0) Z isAgg3 (tm Z) Z Z ?_)))))))
   obtain ⟨r53, r53e, h⟩ := bind_some h
   refine xc Z (op_call (vs := [.ptr o0 0, .int .u8 36, .i p_.l.Bulk, .i 6]) (H := [(o0, .cells (parse.parser.ct (.own q0) (.own q1) p_)), (q0, .spare), (q1, .spare)]) Z call74 ⟨(tm Z), (AEv.int _ _), (tm Z), (AEv.int _ _), trivial⟩ (List.Perm.refl _) (parse.parser.header.ok r53e o0 q0 q1) ?_)
   rintro _ _ ⟨t54, t55, rfl, rfl⟩
   refine xm Z Z Z (xa (.i r53.1) Z (pu_extract Z (tm Z) (nb Z) Z) (xa (.bool r53.2.1) Z (pu_extract Z (tm Z) (nb Z) Z) (xm Z Z Z (xm Z Z Z (xe ?_)))))
   obtain ⟨s57, s57e, h58⟩ := letO_of h
   refine aw_meet (ν := Unit) (fun v => [(4, .bool r53.2.1)]) (fun v => [(o0, .cells (parse.parser.ct (.own t54) (.own t55) { r53.2.2 with in_ := { r53.2.2.in_ with Body := s57.1, Need := s57.2 } })), (t54, .spare), (t55, .spare)]) ?_ ?_
   ·have h := s57e.symm
    refine xr (xm Z Z Z (xe (aw_cond (b := r53.2.1) (tm Z) (fun hb60 => ?_) (fun hb60 => ?_))))
    ·replace h := ite_t hb60 h
     refine aw_region (xm Z Z Z (xm Z Z Z (xm Z Z Z (xa (.ptr o0 0) Z (pu_nilCheck Z (tm Z) Z) (xa (.ptr o0 0) Z (fa Z underlying93 Z sizeOf29 Z Z Z) (xa (.ptr o0 4) Z (fa Z underlying29 Z sizeOf4 Z Z Z) (ac0 Z Z (op_store (i := 0) (cs' := (parse.parser.ct (.own t54) (.own t55) { r53.2.2 with in_ := { r53.2.2.in_ with Body := true } })) Z sizeOf4 (tm Z) (v := .bool true) (AEv.bool _) Z Z Z (nb Z) Z (xa (.ptr o0 0) Z (pu_nilCheck Z (tm Z) Z) (xa (.ptr o0 0) Z (fa Z underlying93 Z sizeOf29 Z Z Z) ?_))))))))))
     refine xa (.ptr o0 5) Z (fa Z underlying29 Z sizeOf3 Z Z Z) (ac0 Z Z (op_store (i := 0) (cs' := (parse.parser.ct (.own t54) (.own t55) { r53.2.2 with in_ := { r53.2.2.in_ with Body := true, Need := r53.1 } })) Z sizeOf3 (tm Z) (v := .i r53.1) (tm Z) Z Z Z (nb Z) Z (xe ?_)))
     subst h
     exact ⟨(), Weak.mkL [0, 1, 2] (by decide) ⟨⟨_, Z, cr, Z⟩, ⟨_, Z, Z⟩, ⟨_, Z, Z⟩, trivial⟩ ⟨tm Z, trivial⟩⟩
    ·replace h := ite_fb hb60 h
     refine aw_skip ?_
     subst h
     exact ⟨(), Weak.mkL [0, 1, 2] (by decide) ⟨⟨_, Z, cr, Z⟩, ⟨_, Z, Z⟩, ⟨_, Z, Z⟩, trivial⟩ ⟨tm Z, trivial⟩⟩
   ·intro _
    have h := h58
    refine xr (xm Z Z Z (xm Z Z Z (xe (aw_ret ?_))))
    obtain rfl := some_of h
    exact ⟨[.bool r53.2.1], _, [(o0, .cells (parse.parser.ct (.own t54) (.own t55) { r53.2.2 with in_ := { r53.2.2.in_ with Body := s57.1, Need := s57.2 } })), (t54, .spare), (t55, .spare)], ⟨(tm Z), trivial⟩, vr, Weak.mkL [0, 1, 2] (by decide) ⟨⟨_, Z, cr, Z⟩, ⟨_, Z, Z⟩, ⟨_, Z, Z⟩, trivial⟩ trivial, ⟨t54, t55, Z, Z⟩⟩
  ·replace h := ite_f (dec_f hb97) h
   refine xr (xm Z Z Z (xa (.ptr o0 0) Z (pu_nilCheck Z (tm Z) Z) (xa (.ptr o0 7) Z (fa Z underlying93 Z sizeOf9 Z Z Z) (xc Z (op_load1 (i := 0) Z isAgg9 (tm Z) Z Z (xa (.bool (decide (p_.s = ([] : List UInt8)))) Z (pu_str (v := .bool (decide (p_.s = ([] : List UInt8)))) Z Z (tm Z) (AEv.const Z) Z) (xm Z Z Z (xe (aw_cond (b := decide (p_.s = ([] : List UInt8))) (tm Z) (fun hb96 => ?_) (fun hb96 => ?_))))))))))
   ·replace h := ite_t (dec_t hb96) h
    refine xr (xa (.bool false) Z (pu_assign Z (AEv.bool _)) (xe (aw_ret ?_)))
    obtain rfl := some_of h
    exact ⟨[.bool false], _, [(o0, .cells (parse.parser.ct (.own q0) (.own q1) p_)), (q0, .spare), (q1, .spare)], ⟨(tm Z), trivial⟩, vr, Weak.mkL [0, 1, 2] (by decide) ⟨⟨_, Z, cr, Z⟩, ⟨_, Z, Z⟩, ⟨_, Z, Z⟩, trivial⟩ trivial, ⟨q0, q1, Z, Z⟩⟩
   ·replace h := ite_f (dec_f hb96) h
    refine xr (xm Z Z Z (xa (.ptr o0 0) Z (pu_nilCheck Z (tm Z) Z) (xa (.ptr o0 7) Z (fa Z underlying93 Z sizeOf9 Z Z Z) (xc Z (op_load1 (i := 0) Z isAgg9 (tm Z) Z Z ?_)))))
    obtain ⟨c61, h⟩ := need_of h
    refine xa (.int .u8 (bix p_.s 0)) Z (pu_strIdxM Z underlying9 (tm Z) (AEv.int _ _) c61) (xa (.bool (!decide ((bix p_.s 0) = 42))) Z (pu_int (v := .bool (!decide ((bix p_.s 0) = 42))) Z Z (tm Z) (AEv.int _ _) Z) (xm Z Z Z (xe (aw_cond (b := (!decide ((bix p_.s 0) = 42))) (tm Z) (fun hb95 => ?_) (fun hb95 => ?_)))))
    ·replace h := ite_f (ndec_t hb95) h
     refine xr (xm Z Z Z ?_)
     obtain ⟨r62, r62e, h⟩ := bind_some h
     refine xc Z (op_call (vs := [.ptr o0 0]) (H := [(o0, .cells (parse.parser.ct (.own q0) (.own q1) p_)), (q0, .spare), (q1, .spare)]) Z call75 ⟨(tm Z), trivial⟩ (List.Perm.refl _) (parse.parser.line.ok r62e o0 q0 q1) ?_)
     rintro _ _ ⟨t63, t64, rfl, rfl⟩
     refine xm Z Z Z (xe (aw_ret ?_))
     obtain rfl := some_of h
     exact ⟨[.bool r62.1], _, [(o0, .cells (parse.parser.ct (.own t63) (.own t64) r62.2)), (t63, .spare), (t64, .spare)], ⟨(tm Z), trivial⟩, vr, Weak.mkL [0, 1, 2] (by decide) ⟨⟨_, Z, cr, Z⟩, ⟨_, Z, Z⟩, ⟨_, Z, Z⟩, trivial⟩ trivial, ⟨t63, t64, Z, Z⟩⟩
    ·replace h := ite_t (ndec_f hb95) h
     refine aw_skip (xr (xm Z Z Z (xm Z Z Z (xa (.ptr o0 0) Z (pu_nilCheck Z (tm Z) Z) (xa (.ptr o0 8) Z (fa Z underlying93 Z sizeOf23 Z Z Z) (xa (.ptr o0 8) Z (fa Z underlying23 Z sizeOf3 Z Z Z) (xc Z (op_load1 (i := 0) Z isAgg3 (tm Z) Z Z ?_))))))))
     obtain ⟨r65, r65e, h⟩ := bind_some h
     refine xc Z (op_call (vs := [.ptr o0 0, .int .u8 42, .i p_.l.Args, .i 7]) (H := [(o0, .cells (parse.parser.ct (.own q0) (.own q1) p_)), (q0, .spare), (q1, .spare)]) Z call74 ⟨(tm Z), (AEv.int _ _), (tm Z), (AEv.int _ _), trivial⟩ (List.Perm.refl _) (parse.parser.header.ok r65e o0 q0 q1) ?_)
     rintro _ _ ⟨t66, t67, rfl, rfl⟩
     refine xm Z Z Z (xa (.i r65.1) Z (pu_extract Z (tm Z) (nb Z) Z) (xa (.bool r65.2.1) Z (pu_extract Z (tm Z) (nb Z) Z) (xm Z Z Z (xm Z Z Z (xe ?_)))))
     obtain ⟨s69, s69e, h70⟩ := letO_of h
     refine aw_meet (ν := Unit) (fun v => [(0, .ptr o0 0), (5, .i r65.1), (6, .bool r65.2.1)]) (fun v => [(o0, .cells (parse.parser.ct (.own t66) (.own t67) { r65.2.2 with in_ := { r65.2.2.in_ with Left := s69 } })), (t66, .spare), (t67, .spare)]) ?_ ?_
     ·have h := s69e.symm
      refine xr (xm Z Z Z (xe (aw_cond (b := r65.2.1) (tm Z) (fun hb72 => ?_) (fun hb72 => ?_))))
      ·replace h := ite_t hb72 h
       refine aw_region (xm Z Z Z (xm Z Z Z (xa (.ptr o0 0) Z (pu_nilCheck Z (tm Z) Z) (xa (.ptr o0 0) Z (fa Z underlying93 Z sizeOf29 Z Z Z) (xa (.ptr o0 2) Z (fa Z underlying29 Z sizeOf3 Z Z Z) (ac0 Z Z (op_store (i := 0) (cs' := (parse.parser.ct (.own t66) (.own t67) { r65.2.2 with in_ := { r65.2.2.in_ with Left := r65.1 } })) Z sizeOf3 (tm Z) (v := .i r65.1) (tm Z) Z Z Z (nb Z) Z (xe ?_))))))))
       subst h
       exact ⟨(), Weak.mkL [0, 1, 2] (by decide) ⟨⟨_, Z, cr, Z⟩, ⟨_, Z, Z⟩, ⟨_, Z, Z⟩, trivial⟩ ⟨tm Z, tm Z, tm Z, trivial⟩⟩
      ·replace h := ite_fb hb72 h
       refine aw_skip ?_
       subst h
       exact ⟨(), Weak.mkL [0, 1, 2] (by decide) ⟨⟨_, Z, cr, Z⟩, ⟨_, Z, Z⟩, ⟨_, Z, Z⟩, trivial⟩ ⟨tm Z, tm Z, tm Z, trivial⟩⟩
     ·intro _
      have h := h70
      obtain ⟨s81, s81e, h84⟩ := bind_some h
      refine aw_meet (ν := Nat × Nat) (fun v => [(6, .bool r65.2.1)]) (fun v => [(o0, .cells [.str s81.1, .sl (.own v.1) 1 (s81.2.1.map AV.str), .i s81.2.2.1, .i s81.2.2.2.1, .bool s81.2.2.2.2.1, .i s81.2.2.2.2.2.1, .i s81.2.2.2.2.2.2.1, .str s81.2.2.2.2.2.2.2.1, .i s81.2.2.2.2.2.2.2.2.1, .i s81.2.2.2.2.2.2.2.2.2.1, .i s81.2.2.2.2.2.2.2.2.2.2.1, .sl (.own v.2) 2 (s81.2.2.2.2.2.2.2.2.2.2.2.map api.Request.av)]), (v.1, .spare), (v.2, .spare)]) ?_ ?_
      ·have h := s81e
       refine aw_upd ?_
       obtain ⟨s87, s87e, h88⟩ := letO_of h
       refine aw_meet (ν := Unit) (fun v => [(0, .ptr o0 0), (6, .bool r65.2.1), (78, .bool s87)]) (fun v => [(o0, .cells (parse.parser.ct (.own t66) (.own t67) { r65.2.2 with in_ := { r65.2.2.in_ with Left := s69 } })), (t66, .spare), (t67, .spare)]) ?_ ?_
       ·have h := s87e.symm
        refine aw_region (xm Z Z Z (xm Z Z Z ?_))
        rcases Bool.eq_false_or_eq_true r65.2.1 with hb90 | hb90
        ·replace h := ite_t hb90 h
         refine aops_known 75 Z hb90 (xq Z Z Z Z (xp (.bool (decide (r65.1 = 0))) Z Z (pu_int (v := .bool (decide (r65.1 = 0))) Z Z (tm Z) (AEv.int _ _) Z) (xa (.bool (decide (r65.1 = 0))) Z (pu_pick (b := true) Z (tm Z) (fun _ => (tm Z)) (fun h => nomatch h)) (xe ?_))))
         subst h
         exact ⟨(), Weak.mkL [0, 1, 2] (by decide) ⟨⟨_, Z, cr, Z⟩, ⟨_, Z, Z⟩, ⟨_, Z, Z⟩, trivial⟩ ⟨tm Z, tm Z, (AEv.le (tm Z) vr), trivial⟩⟩
        ·replace h := ite_fb hb90 h
         refine aops_known 75 Z hb90 (xn Z Z Z (xn Z Z Z (xa (.bool false) Z (pu_pick (b := false) Z (tm Z) (fun h => nomatch h) (fun _ => (AEv.bool _))) (xe ?_))))
         subst h
         exact ⟨(), Weak.mkL [0, 1, 2] (by decide) ⟨⟨_, Z, cr, Z⟩, ⟨_, Z, Z⟩, ⟨_, Z, Z⟩, trivial⟩ ⟨tm Z, tm Z, tm Z, trivial⟩⟩
       ·intro _
        have h := h88
        refine aw_cond (b := s87) (tm Z) (fun hb94 => ?_) (fun hb94 => ?_)
        ·replace h := ite_t hb94 h
         refine aw_region (xm Z Z Z ?_)
         obtain ⟨r91, r91e, h⟩ := bind_some h
         refine xc Z (op_call (vs := [.ptr o0 0, .sl .no 1 (([] : List (List UInt8)).map AV.str)]) (H := [(o0, .cells (parse.parser.ct (.own t66) (.own t67) { r65.2.2 with in_ := { r65.2.2.in_ with Left := s69 } })), (t66, .spare), (t67, .spare)]) Z call76 ⟨(tm Z), (AEv.le (AEv.nil 1 (by decide)) (AV.Le.forget _ _ _)), trivial⟩ (List.Perm.refl _) (parse.parser.whole.ok r91e o0 t66 t67) ?_)
         rintro _ _ ⟨t92, rfl, rfl⟩
         refine xe (upd_claimCell 0 1 Z Z fun t93 => (upd_done ?_))
         obtain rfl := some_of h
         exact ⟨(t93, t92), Weak.mkL [1, 0, 2] (by decide) ⟨⟨_, Z, cr, Z⟩, ⟨_, Z, Z⟩, ⟨_, Z, Z⟩, trivial⟩ ⟨tm Z, trivial⟩⟩
        ·replace h := ite_fb hb94 h
         refine aw_skip (upd_done ?_)
         obtain rfl := some_of h
         exact ⟨(t66, t67), Weak.mkL [0, 1, 2] (by decide) ⟨⟨_, Z, cr, Z⟩, ⟨_, Z, Z⟩, ⟨_, Z, Z⟩, trivial⟩ ⟨tm Z, trivial⟩⟩
      ·rintro ⟨n82, n83⟩
       have h := h84
       refine xr (xm Z Z Z (xm Z Z Z (xe (aw_ret ?_))))
       obtain rfl := some_of h
       exact ⟨[.bool r65.2.1], _, [(o0, .cells [.str s81.1, .sl (.own n82) 1 (s81.2.1.map AV.str), .i s81.2.2.1, .i s81.2.2.2.1, .bool s81.2.2.2.2.1, .i s81.2.2.2.2.2.1, .i s81.2.2.2.2.2.2.1, .str s81.2.2.2.2.2.2.2.1, .i s81.2.2.2.2.2.2.2.2.1, .i s81.2.2.2.2.2.2.2.2.2.1, .i s81.2.2.2.2.2.2.2.2.2.2.1, .sl (.own n83) 2 (s81.2.2.2.2.2.2.2.2.2.2.2.map api.Request.av)]), (n82, .spare), (n83, .spare)], ⟨(tm Z), trivial⟩, vr, Weak.mkL [0, 1, 2] (by decide) ⟨⟨_, Z, cr, Z⟩, ⟨_, Z, Z⟩, ⟨_, Z, Z⟩, trivial⟩ trivial, ⟨n82, n83, Z, Z⟩⟩

theorem parse.Feed.ok {in_ : api.Input} {b : List UInt8} {l : api.Limits} {r : api.Input × (List api.Request) × Int} (h : parse.Feed in_ b l = some r) : Go.Lift.Spec prog 15 [.agg (api.Input.ct .no in_), .str b, .agg [.i l.Args, .i l.Bulk, .i l.Line]] [] (fun v H => ∃ n0, v = .tup [.agg [.str r.1.Rest, .sl .no 1 (r.1.Args.map AV.str), .i r.1.Left, .i r.1.Size, .bool r.1.Body, .i r.1.Need, .i r.1.Dead], .sl (.own n0) 2 (r.2.1.map api.Request.av), .i r.2.2] ∧ H = [(n0, .spare)]) := by
 unfold parse.Feed at h
 refine Go.Lift.Spec.of_body (rs := [.cell 6 29, .tmp 7, .tmp 8]) func15 Z Z (nb Z) Z (xr (xc Z (op_box (cs := (api.Input.ct .no in_)) (v := .agg (api.Input.ct .no in_)) Z (tm Z) Z Z ?_)))
 intro p64
 refine xc Z (op_box (cs := [.i l.Args, .i l.Bulk, .i l.Line]) (v := .agg [.i l.Args, .i l.Bulk, .i l.Line]) Z (tm Z) Z Z ?_)
 intro p65
 refine xc Z (op_alloc (cs := [.str ([] : List UInt8), .sl .full 1 (([] : List (List UInt8)).map AV.str), .i 0, .i 0, .bool false, .i 0, .i 0]) (v := .agg [.str ([] : List UInt8), .sl .full 1 (([] : List (List UInt8)).map AV.str), .i 0, .i 0, .bool false, .i 0, .i 0]) Z zeroValue29 Z Z Z ?_)
 intro p66
 refine xa (.sl .full 2 (([] : List api.Request).map api.Request.av)) Z (pu_assign Z (AEv.nil 2 (by decide))) (xa (.i 0) Z (pu_assign Z (AEv.int _ _)) (xe (aw_seq (xr (xa (.ptr p64 6) Z (fa Z underlying29 Z sizeOf27 Z Z Z) (xc Z (op_load1 (i := 2) Z isAgg27 (tm Z) Z Z (xa (.bool (!decide (in_.Dead = 0))) Z (pu_int (v := .bool (!decide (in_.Dead = 0))) Z Z (tm Z) (AEv.int _ _) Z) (xe ?_)))))))))
 refine aw_cond (b := (!decide (in_.Dead = 0))) (tm Z) (fun hb127 => ?_) (fun hb127 => ?_)
 ·replace h := ite_f (ndec_t hb127) h
  refine aw_seq (aw_planR (by decide +kernel) [[], [(2, 0, false)], [], [], [(2, 0, false)], [(0, 0, true)], [], []] [[5], [], []] [[[(p66, .cells [.str ([] : List UInt8), .sl .full 1 (([] : List (List UInt8)).map AV.str), .i 0, .i 0, .bool false, .i 0, .i 0])], [(p66, .cells [.str ([] : List UInt8), .sl .full 1 (([] : List (List UInt8)).map AV.str), .i 0, .i 0, .bool false, .i 0, .i in_.Dead])]], [[(p65, .cells [.i l.Args, .i l.Bulk, .i l.Line])]], [[(p64, .cells (api.Input.ct .no in_))]]] [.ptr p64 6, .i in_.Dead, .agg [.str ([] : List UInt8), .sl .full 1 (([] : List (List UInt8)).map AV.str), .i 0, .i 0, .bool false, .i 0, .i in_.Dead], .ptr p64 6, .i in_.Dead, .un, .sl .full 2 (([] : List api.Request).map api.Request.av), .i in_.Dead] (by decide +kernel) Z Z ?_ ?_)
  ·exact ⟨yp Z (fa Z underlying29 Z sizeOf27 Z Z Z), stepg_plain Z (op_load1 (i := 0) Z isAgg27 (tm Z) Z Z ⟨Z, Z⟩), yp Z (pu_build (zs := [.str ([] : List UInt8), .sl .full 1 (([] : List (List UInt8)).map AV.str), .i 0, .i 0, .bool false, .i 0, .i 0]) (szs := [1, 1, 1, 1, 1, 1, 1]) (aparts := [(6, .i in_.Dead)]) (cs := [.str ([] : List UInt8), .sl .full 1 (([] : List (List UInt8)).map AV.str), .i 0, .i 0, .bool false, .i 0, .i in_.Dead]) Z underlying29 zeroValue29 Z ⟨sizeOf9, sizeOf26, sizeOf3, sizeOf3, sizeOf4, sizeOf3, sizeOf27, trivial⟩ ⟨Z, (tm Z), trivial⟩ Z), yp Z (fa Z underlying29 Z sizeOf27 Z Z Z), stepg_plain Z (op_load1 (i := 0) Z isAgg27 (tm Z) Z Z ⟨Z, Z⟩), stepg_plain Z (op_store (i := 0) (cs' := [.str ([] : List UInt8), .sl .full 1 (([] : List (List UInt8)).map AV.str), .i 0, .i 0, .bool false, .i 0, .i in_.Dead]) Z sizeOf29 (tm Z) (v := .agg [.str ([] : List UInt8), .sl .full 1 (([] : List (List UInt8)).map AV.str), .i 0, .i 0, .bool false, .i 0, .i in_.Dead]) (tm Z) Z Z Z (nb Z) Z ⟨Z, Z⟩), yp Z (pu_assign Z (AEv.nil 2 (by decide))), ym Z Z Z, trivial⟩
  refine aw_claim 7 (tm Z) fun t67 => (aw_ret ?_)
  obtain rfl := some_of h
  exact ⟨[.agg [.str ([] : List UInt8), .sl .full 1 (([] : List (List UInt8)).map AV.str), .i 0, .i 0, .bool false, .i 0, .i in_.Dead], .sl (.own t67) 2 (([] : List api.Request).map api.Request.av), .i in_.Dead], .tup [.agg [.str ([] : List UInt8), .sl .no 1 (([] : List (List UInt8)).map AV.str), .i 0, .i 0, .bool false, .i 0, .i in_.Dead], .sl (.own t67) 2 (([] : List api.Request).map api.Request.av), .i in_.Dead], [(t67, .spare)], ⟨(CellOk.agg 1 (tm Z) Z isAgg29 sizeOf29 (nb Z) Z), (tm Z), (tm Z), trivial⟩, (AV.Le.tup ⟨(AV.Le.agg ⟨vr, (AV.Le.forget _ _ _), vr, vr, vr, vr, vr, trivial⟩), vr, vr, trivial⟩), Weak.mkL [0] (by decide) ⟨⟨_, Z, Z⟩, trivial⟩ trivial, ⟨t67, Z, Z⟩⟩
 ·replace h := ite_t (ndec_f hb127) h
  refine aw_skip (aw_seq ?_)
  obtain ⟨c68, h⟩ := need_of h
  obtain ⟨r69, r69e, h⟩ := bind_some h
  refine aw_reserve fun p70 => (aw_planR (by decide +kernel) [[(3, 0, false)], [], [(3, 0, false)], [], [], [(2, 0, false)], [], [], [(0, 0, true)], []] [[8], [], [], []] [[[(p70, .resv)], [(p70, .cells (parse.parser.ct .no .full ({ in_ := in_, s := in_.Rest ++ b, l := r69, out := ([] : List api.Request) } : parse.parser)))]], [[(p66, .cells [.str ([] : List UInt8), .sl .full 1 (([] : List (List UInt8)).map AV.str), .i 0, .i 0, .bool false, .i 0, .i 0])]], [[(p65, .cells [.i l.Args, .i l.Bulk, .i l.Line])]], [[(p64, .cells (api.Input.ct .no in_))]]] [.agg (api.Input.ct .no in_), .ptr p64 0, .str in_.Rest, .str b, .str (in_.Rest ++ b), .agg [.i l.Args, .i l.Bulk, .i l.Line], .agg [.i r69.Args, .i r69.Bulk, .i r69.Line], .agg (parse.parser.ct .no .full ({ in_ := in_, s := in_.Rest ++ b, l := r69, out := ([] : List api.Request) } : parse.parser)), .ptr p70 0, .ptr p70 0] (by decide +kernel) Z Z ?_ ?_)
  ·exact ⟨stepg_plain Z (op_loadN (i := 0) Z isAgg29 sizeOf29 (tm Z) Z (nb Z) Z ⟨Z, Z⟩), yp Z (fa Z underlying29 Z sizeOf9 Z Z Z), stepg_plain Z (op_load1 (i := 0) Z isAgg9 (tm Z) Z Z ⟨Z, Z⟩), ym Z Z Z, yp Z (pu_strAdd Z (tm Z) (tm Z) c68), stepg_plain Z (op_loadN (i := 0) Z isAgg23 sizeOf23 (tm Z) Z (nb Z) Z ⟨Z, Z⟩), stepg_plain Z (op_call (vs := [.agg [.i l.Args, .i l.Bulk, .i l.Line]]) (H := []) Z call19 ⟨(tm Z), trivial⟩ (R := []) (List.Perm.refl _) (parse.Limits.ok r69e) (by rintro _ _ ⟨rfl, rfl⟩; exact ⟨Z, Z⟩)), yp Z (pu_build (zs := [.str ([] : List UInt8), .sl .full 1 (([] : List (List UInt8)).map AV.str), .i 0, .i 0, .bool false, .i 0, .i 0, .str ([] : List UInt8), .i 0, .i 0, .i 0, .sl .full 2 (([] : List api.Request).map api.Request.av)]) (szs := [7, 1, 3, 1]) (aparts := [(0, .agg (api.Input.ct .no in_)), (1, .str (in_.Rest ++ b)), (2, .agg [.i r69.Args, .i r69.Bulk, .i r69.Line])]) (cs := [.str in_.Rest, .sl .no 1 (in_.Args.map AV.str), .i in_.Left, .i in_.Size, .bool in_.Body, .i in_.Need, .i in_.Dead, .str (in_.Rest ++ b), .i r69.Args, .i r69.Bulk, .i r69.Line, .sl .full 2 (([] : List api.Request).map api.Request.av)]) Z underlying93 zeroValue93 Z ⟨sizeOf29, sizeOf9, sizeOf23, sizeOf30, trivial⟩ ⟨Z, (tm Z), ⟨Z, (tm Z), ⟨Z, (tm Z), trivial⟩⟩⟩ Z), stepg_plain Z (aop_settleP (op_box (cs := (parse.parser.ct .no .full ({ in_ := in_, s := in_.Rest ++ b, l := r69, out := ([] : List api.Request) } : parse.parser))) (v := .agg (parse.parser.ct .no .full ({ in_ := in_, s := in_.Rest ++ b, l := r69, out := ([] : List api.Request) } : parse.parser))) Z (tm Z) Z Z fun t => ⟨t, Z, Z⟩) ⟨Z, Z⟩), ym Z Z Z, trivial⟩
  refine xr (xm Z Z Z (xm Z Z Z (xa (.ptr p64 1) Z (fa Z underlying29 Z sizeOf26 Z Z Z) (xc Z (op_load1 (i := 3) Z isAgg26 (tm Z) Z Z ?_)))))
  obtain ⟨r71, r71e, h⟩ := bind_some h
  refine xc Z (op_call (vs := [.sl .no 1 (in_.Args.map AV.str)]) (H := []) Z call50 ⟨(tm Z), trivial⟩ (List.Perm.refl _) (slices.Clone_string.ok r71e) ?_)
  rintro _ _ ⟨t72, rfl, rfl⟩
  refine xa (.ptr p70 0) Z (pu_nilCheck Z (tm Z) Z) (xa (.ptr p70 0) Z (fa Z underlying93 Z sizeOf29 Z Z Z) (xa (.ptr p70 1) Z (fa Z underlying29 Z sizeOf26 Z Z Z) (ac0 Z Z (op_store (i := 1) (cs' := (parse.parser.ct (.own t72) .full ({ in_ := { in_ with Args := r71 }, s := in_.Rest ++ b, l := r69, out := ([] : List api.Request) } : parse.parser))) Z sizeOf26 (tm Z) (v := .sl (.own t72) 1 (r71.map AV.str)) (tm Z) Z Z Z (nb Z) Z (xa (.ptr p70 0) Z (pu_nilCheck Z (tm Z) Z) (xa (.ptr p70 0) Z (fa Z underlying93 Z sizeOf29 Z Z Z) (xa (.ptr p70 0) Z (fa Z underlying29 Z sizeOf9 Z Z Z) (ac0 Z Z (op_store (i := 1) (cs' := (parse.parser.ct (.own t72) .full ({ in_ := { in_ with Rest := ([] : List UInt8), Args := r71 }, s := in_.Rest ++ b, l := r69, out := ([] : List api.Request) } : parse.parser))) Z sizeOf9 (tm Z) (v := .str ([] : List UInt8)) (AEv.const Z) Z Z Z (nb Z) Z (xe ?_))))))))))
  obtain ⟨s97, s97e, h100⟩ := bind_some h
  refine aw_meet (ν := Nat × Nat) (fun v => [(6, .ptr p66 0), (9, .ptr p70 0)]) (fun v => [(p66, .cells [.str ([] : List UInt8), .sl .full 1 (([] : List (List UInt8)).map AV.str), .i 0, .i 0, .bool false, .i 0, .i 0]), (p70, .cells [.str s97.1, .sl (.own v.1) 1 (s97.2.1.map AV.str), .i s97.2.2.1, .i s97.2.2.2.1, .bool s97.2.2.2.2.1, .i s97.2.2.2.2.2.1, .i s97.2.2.2.2.2.2.1, .str s97.2.2.2.2.2.2.2.1, .i s97.2.2.2.2.2.2.2.2.1, .i s97.2.2.2.2.2.2.2.2.2.1, .i s97.2.2.2.2.2.2.2.2.2.2.1, .sl (.own v.2) 2 (s97.2.2.2.2.2.2.2.2.2.2.2.map api.Request.av)]), (v.1, .spare), (v.2, .spare)]) ?_ ?_
  ·have h := s97e
   refine aw_block (aw_claimCell 1 11 Z Z fun t125 => (aw_while (σ := parse.Feed.S0) (ν := Nat × Nat) (parse.Feed.body0 in_ l) (fun s115 v => [(6, .ptr p66 0), (9, .ptr p70 0)]) (fun s115 v => [(p66, .cells [.str ([] : List UInt8), .sl .full 1 (([] : List (List UInt8)).map AV.str), .i 0, .i 0, .bool false, .i 0, .i 0]), (p70, .cells [.str s115.c, .sl (.own v.1) 1 (s115.c2.map AV.str), .i s115.c3, .i s115.c4, .bool s115.c5, .i s115.c6, .i s115.c7, .str s115.c8, .i s115.c9, .i s115.c10, .i s115.c11, .sl (.own v.2) 2 (s115.c12.map api.Request.av)]), (v.1, .spare), (v.2, .spare)]) ⟨([] : List UInt8), r71, in_.Left, in_.Size, in_.Body, in_.Need, in_.Dead, in_.Rest ++ b, r69.Args, r69.Bulk, r69.Line, ([] : List api.Request)⟩ (t72, t125) _ h (Weak.mkL [3, 2, 1, 0] (by decide) ⟨⟨_, Z, cr, Z⟩, ⟨_, Z, ⟨vr, vr, vr, vr, vr, vr, vr, vr, vr, vr, vr, vr, trivial⟩, Z⟩, ⟨_, Z, Z⟩, ⟨_, Z, Z⟩, trivial⟩ ⟨tm Z, tm Z, trivial⟩) ?_))
   rintro s115 ⟨n116, n117⟩ x119 h hx118
   unfold parse.Feed.body0 at h
   refine aw_seq (xr (xm Z Z Z ?_))
   obtain ⟨r121, r121e, h⟩ := bind_some h
   refine aops_weak (weak_pick [1, 2, 3, 0] (by decide) Z) (xc Z (op_call (vs := [.ptr p70 0]) (H := [(p70, .cells [.str s115.c, .sl (.own n116) 1 (s115.c2.map AV.str), .i s115.c3, .i s115.c4, .bool s115.c5, .i s115.c6, .i s115.c7, .str s115.c8, .i s115.c9, .i s115.c10, .i s115.c11, .sl (.own n117) 2 (s115.c12.map api.Request.av)]), (n116, .spare), (n117, .spare)]) Z call51 ⟨(tm Z), trivial⟩ (List.Perm.refl _) (parse.parser.step.ok r121e p70 n116 n117) ?_))
   rintro _ _ ⟨t122, t123, rfl, rfl⟩
   refine xe (aw_cond (b := r121.1) (tm Z) (fun hb124 => ?_) (fun hb124 => ?_))
   ·replace h := ite_t hb124 h
    refine aw_skip (aw_block (aw_skip ?_))
    obtain rfl := some_of h
    exact ⟨_, (t122, t123), Z, Weak.mkL [3, 0, 1, 2] (by decide) ⟨⟨_, Z, cr, Z⟩, ⟨_, Z, cr, Z⟩, ⟨_, Z, Z⟩, ⟨_, Z, Z⟩, trivial⟩ ⟨tm Z, tm Z, trivial⟩⟩
   ·replace h := ite_fb hb124 h
    refine aw_exit ?_
    obtain rfl := some_of h
    have h := congrArg some (hx118 _ rfl)
    obtain rfl := some_of h
    exact ⟨(t122, t123), Weak.mkL [3, 0, 1, 2] (by decide) ⟨⟨_, Z, cr, Z⟩, ⟨_, Z, cr, Z⟩, ⟨_, Z, Z⟩, ⟨_, Z, Z⟩, trivial⟩ ⟨tm Z, tm Z, trivial⟩⟩
  ·rintro ⟨n98, n99⟩
   have h := h100
   refine xr (xm Z Z Z (xm Z Z Z (xa (.ptr p70 0) Z (pu_nilCheck Z (tm Z) Z) (xa (.ptr p70 7) Z (fa Z underlying93 Z sizeOf9 Z Z Z) (xc Z (op_load1 (i := 1) Z isAgg9 (tm Z) Z Z ?_))))))
   obtain ⟨r126, r126e, h⟩ := bind_some h
   refine xc Z (op_call (vs := [.str s97.2.2.2.2.2.2.2.1]) (H := []) Z call52 ⟨(tm Z), trivial⟩ (List.Perm.refl _) (strings.Clone.ok r126e) ?_)
   rintro _ _ ⟨rfl, rfl⟩
   refine xa (.ptr p70 0) Z (pu_nilCheck Z (tm Z) Z) (xa (.ptr p70 0) Z (fa Z underlying93 Z sizeOf29 Z Z Z) (xa (.ptr p70 0) Z (fa Z underlying29 Z sizeOf9 Z Z Z) (ac0 Z Z (op_store (i := 1) (cs' := [.str r126, .sl (.own n98) 1 (s97.2.1.map AV.str), .i s97.2.2.1, .i s97.2.2.2.1, .bool s97.2.2.2.2.1, .i s97.2.2.2.2.2.1, .i s97.2.2.2.2.2.2.1, .str s97.2.2.2.2.2.2.2.1, .i s97.2.2.2.2.2.2.2.2.1, .i s97.2.2.2.2.2.2.2.2.2.1, .i s97.2.2.2.2.2.2.2.2.2.2.1, .sl (.own n99) 2 (s97.2.2.2.2.2.2.2.2.2.2.2.map api.Request.av)]) Z sizeOf9 (tm Z) (v := .str r126) (tm Z) Z Z Z (nb Z) Z (xe (aw_seq (aw_planR (by decide +kernel) [[], [], [], [(1, 0, false)], [], [], [], [(1, 0, false)], [], [], [], [], [(1, 0, false)], [(0, 0, true)], [], []] [[13], [], [], []] [[[(p66, .cells [.str ([] : List UInt8), .sl .full 1 (([] : List (List UInt8)).map AV.str), .i 0, .i 0, .bool false, .i 0, .i 0])], [(p66, .cells [.str r126, .sl (.own n98) 1 (s97.2.1.map AV.str), .i s97.2.2.1, .i s97.2.2.2.1, .bool s97.2.2.2.2.1, .i s97.2.2.2.2.2.1, .i s97.2.2.2.2.2.2.1])]], [[(p70, .cells [.str r126, .sl (.own n98) 1 (s97.2.1.map AV.str), .i s97.2.2.1, .i s97.2.2.2.1, .bool s97.2.2.2.2.1, .i s97.2.2.2.2.2.1, .i s97.2.2.2.2.2.2.1, .str s97.2.2.2.2.2.2.2.1, .i s97.2.2.2.2.2.2.2.2.1, .i s97.2.2.2.2.2.2.2.2.2.1, .i s97.2.2.2.2.2.2.2.2.2.2.1, .sl (.own n99) 2 (s97.2.2.2.2.2.2.2.2.2.2.2.map api.Request.av)])]], [[(n98, .spare)]], [[(n99, .spare)]]] [.ptr p70 0, .ptr p70 0, .ptr p70 0, .agg [.str r126, .sl (.own n98) 1 (s97.2.1.map AV.str), .i s97.2.2.1, .i s97.2.2.2.1, .bool s97.2.2.2.2.1, .i s97.2.2.2.2.2.1, .i s97.2.2.2.2.2.2.1], .ptr p70 0, .ptr p70 0, .ptr p70 11, .sl (.own n99) 2 (s97.2.2.2.2.2.2.2.2.2.2.2.map api.Request.av), .ptr p70 0, .ptr p70 0, .ptr p70 0, .ptr p70 6, .i s97.2.2.2.2.2.2.1, .un, .sl (.own n99) 2 (s97.2.2.2.2.2.2.2.2.2.2.2.map api.Request.av), .i s97.2.2.2.2.2.2.1] (by decide +kernel) Z Z ?_ ?_)))))))
   ·exact ⟨ym Z Z Z, yp Z (pu_nilCheck Z (tm Z) Z), yp Z (fa Z underlying93 Z sizeOf29 Z Z Z), stepg_plain Z (op_loadN (i := 0) Z isAgg29 sizeOf29 (tm Z) Z (nb Z) Z ⟨Z, Z⟩), ym Z Z Z, yp Z (pu_nilCheck Z (tm Z) Z), yp Z (fa Z underlying93 Z sizeOf30 Z Z Z), stepg_plain Z (op_load1 (i := 0) Z isAgg30 (tm Z) Z Z ⟨Z, Z⟩), ym Z Z Z, yp Z (pu_nilCheck Z (tm Z) Z), yp Z (fa Z underlying93 Z sizeOf29 Z Z Z), yp Z (fa Z underlying29 Z sizeOf27 Z Z Z), stepg_plain Z (op_load1 (i := 0) Z isAgg27 (tm Z) Z Z ⟨Z, Z⟩), stepg_plain Z (op_store (i := 0) (cs' := [.str r126, .sl (.own n98) 1 (s97.2.1.map AV.str), .i s97.2.2.1, .i s97.2.2.2.1, .bool s97.2.2.2.2.1, .i s97.2.2.2.2.2.1, .i s97.2.2.2.2.2.2.1]) Z sizeOf29 (tm Z) (v := .agg [.str r126, .sl (.own n98) 1 (s97.2.1.map AV.str), .i s97.2.2.1, .i s97.2.2.2.1, .bool s97.2.2.2.2.1, .i s97.2.2.2.2.2.1, .i s97.2.2.2.2.2.2.1]) (tm Z) Z Z Z (nb Z) Z ⟨Z, Z⟩), ym Z Z Z, ym Z Z Z, trivial⟩
   refine aw_ret ?_
   obtain rfl := some_of h
   exact ⟨[.agg [.str r126, .sl (.own n98) 1 (s97.2.1.map AV.str), .i s97.2.2.1, .i s97.2.2.2.1, .bool s97.2.2.2.2.1, .i s97.2.2.2.2.2.1, .i s97.2.2.2.2.2.2.1], .sl (.own n99) 2 (s97.2.2.2.2.2.2.2.2.2.2.2.map api.Request.av), .i s97.2.2.2.2.2.2.1], .tup [.agg [.str r126, .sl .no 1 (s97.2.1.map AV.str), .i s97.2.2.1, .i s97.2.2.2.1, .bool s97.2.2.2.2.1, .i s97.2.2.2.2.2.1, .i s97.2.2.2.2.2.2.1], .sl (.own n99) 2 (s97.2.2.2.2.2.2.2.2.2.2.2.map api.Request.av), .i s97.2.2.2.2.2.2.1], [(n99, .spare)], ⟨(CellOk.agg 0 (tm Z) Z isAgg29 sizeOf29 (nb Z) Z), (tm Z), (tm Z), trivial⟩, (AV.Le.tup ⟨(AV.Le.agg ⟨vr, (AV.Le.forget _ _ _), vr, vr, vr, vr, vr, trivial⟩), vr, vr, trivial⟩), Weak.mkL [3] (by decide) ⟨⟨_, Z, Z⟩, trivial⟩ trivial, ⟨n99, Z, Z⟩⟩

theorem mewsref05.texts.ok {a : List (List UInt8)} {b : List (List UInt8)} {r : Bool} (h : mewsref05.texts a b = some r) : Go.Lift.Spec prog 55 [.sl .no 1 (a.map AV.str), .sl .no 1 (b.map AV.str)] [] (fun v H => v = .bool r ∧ H = []) := by
 unfold mewsref05.texts at h
 refine Go.Lift.Spec.of_body (rs := [.tmp 4]) func55 Z Z (nb Z) Z (xr (xa (.bool false) Z (pu_assign Z (AEv.bool _)) (xe (aw_seq (xr (xm Z Z Z (xa (.i (a.length : Int)) Z (pu_lenM Z underlying26 (tm Z)) ?_)))))))
 refine xm Z Z Z (xa (.i (b.length : Int)) Z (pu_lenM Z underlying26 (tm Z)) (xa (.bool (!decide ((a.length : Int) = (b.length : Int)))) Z (pu_int (v := .bool (!decide ((a.length : Int) = (b.length : Int)))) Z Z (tm Z) (tm Z) Z) (xe (aw_cond (b := (!decide ((a.length : Int) = (b.length : Int)))) (tm Z) (fun hb82 => ?_) (fun hb82 => ?_)))))
 ·replace h := ite_f (ndec_t hb82) h
  refine xr (xa (.bool false) Z (pu_assign Z (AEv.bool _)) (xe (aw_ret ?_)))
  obtain rfl := some_of h
  exact ⟨[.bool false], _, [], ⟨(tm Z), trivial⟩, vr, Weak.mkL [] (by decide) trivial trivial, ⟨Z, Z⟩⟩
 ·replace h := ite_t (ndec_f hb82) h
  refine aw_skip ?_
  obtain ⟨s81, s81e, h61⟩ := bind_some h
  refine aw_join (σ := Unit) (ν := Unit) (fun u v => []) (fun u v => []) (fun u => s81 = .inl u) ?_ ?_
  ·intro s60
   intro _
   rintro rfl
   have h := onSum_inl h61
   refine xr (xa (.bool true) Z (pu_assign Z (AEv.bool _)) (xe (aw_ret ?_)))
   obtain rfl := some_of h
   exact ⟨[.bool true], _, [], ⟨(tm Z), trivial⟩, vr, Weak.mkL [] (by decide) trivial trivial, ⟨Z, Z⟩⟩
  ·have h := s81e
   refine xr (xa (.i 0) Z (pu_assign Z (AEv.int _ _)) (xe (aw_block (aw_while (σ := mewsref05.texts.S0) (ν := Unit) (mewsref05.texts.body0 a b) (fun s73 v => [(0, .sl .no 1 (a.map AV.str)), (1, .sl .no 1 (b.map AV.str)), (5, .i s73.i)]) (fun s73 v => []) ⟨0⟩ () _ h (Weak.mkL [] (by decide) trivial ⟨tm Z, tm Z, tm Z, trivial⟩) ?_))))
   rintro s73 _ x75 h hx74
   unfold mewsref05.texts.body0 at h
   refine aw_seq (xr (xm Z Z Z (xm Z Z Z (xa (.i (a.length : Int)) Z (pu_lenM Z underlying26 (tm Z)) (xa (.bool (decide (s73.i < (a.length : Int)))) Z (pu_int (v := .bool (decide (s73.i < (a.length : Int)))) Z Z (tm Z) (tm Z) Z) (xe (aw_cond (b := decide (s73.i < (a.length : Int))) (tm Z) (fun hb80 => ?_) (fun hb80 => ?_))))))))
   ·replace h := ite_t (dec_t hb80) h
    refine aw_skip (aw_seq (aw_block (aw_seq ?_)))
    obtain ⟨c77, h⟩ := need_of h
    obtain ⟨c78, h⟩ := need_of h
    refine aw_planR (by decide +kernel) [[], [], [], [], [], [], [], [], []] [] [] [.sl .no 1 (a.map AV.str), .i s73.i, .vptr [.str (ix a s73.i)], .str (ix a s73.i), .sl .no 1 (b.map AV.str), .i s73.i, .vptr [.str (ix b s73.i)], .str (ix b s73.i), .bool (!decide ((ix a s73.i) = (ix b s73.i)))] (by decide +kernel) Z Z ?_ ?_
    ·exact ⟨ym Z Z Z, ym Z Z Z, yp Z (pu_indexAddrM Z underlying26 sizeOf9 (tm Z) (tm Z) c77 Z), stepg_plain Z (op_loadV1 Z isAgg9 (tm Z) Z ⟨Z, Z⟩), ym Z Z Z, ym Z Z Z, yp Z (pu_indexAddrM Z underlying26 sizeOf9 (tm Z) (tm Z) c78 Z), stepg_plain Z (op_loadV1 Z isAgg9 (tm Z) Z ⟨Z, Z⟩), yp Z (pu_str (v := .bool (!decide ((ix a s73.i) = (ix b s73.i)))) Z Z (tm Z) (tm Z) Z), trivial⟩
    refine aw_cond (b := (!decide ((ix a s73.i) = (ix b s73.i)))) (tm Z) (fun hb79 => ?_) (fun hb79 => ?_)
    ·replace h := ite_f (ndec_t hb79) h
     refine xr (xa (.bool false) Z (pu_assign Z (AEv.bool _)) (xe (aw_ret ?_)))
     obtain rfl := some_of h
     have h := congrArg some (hx74 _ rfl)
     obtain rfl := some_of h
     have h := onSum_inr h61
     obtain rfl := some_of h
     exact ⟨[.bool false], _, [], ⟨(tm Z), trivial⟩, vr, Weak.mkL [] (by decide) trivial trivial, ⟨Z, Z⟩⟩
    ·replace h := ite_t (ndec_f hb79) h
     refine aw_skip (aw_region (xm Z Z Z (xa (.i (IntKind.wrap .i64 (s73.i + 1))) Z (pu_int (v := .i (IntKind.wrap .i64 (s73.i + 1))) Z Z (tm Z) (AEv.int _ _) Z) (xm Z Z Z (xe ?_)))))
     obtain rfl := some_of h
     exact ⟨_, (), Z, Weak.mkL [] (by decide) trivial ⟨tm Z, tm Z, (AEv.le (tm Z) vr), trivial⟩⟩
   ·replace h := ite_f (dec_f hb80) h
    refine aw_exit ?_
    obtain rfl := some_of h
    have h := congrArg some (hx74 _ rfl)
    exact ⟨(), (), (some_of h).symm, Weak.mkL [] (by decide) trivial trivial⟩

theorem mewsref05.Same.ok {a : List api.Request} {b : List api.Request} {r : Bool} (h : mewsref05.Same a b = some r) : Go.Lift.Spec prog 18 [.sl .no 2 (a.map api.Request.av), .sl .no 2 (b.map api.Request.av)] [] (fun v H => v = .bool r ∧ H = []) := by
 unfold mewsref05.Same at h
 refine Go.Lift.Spec.of_body (rs := [.tmp 4]) func18 Z Z (nb Z) Z (xr (xa (.bool false) Z (pu_assign Z (AEv.bool _)) (xe (aw_seq (xr (xm Z Z Z (xa (.i (a.length : Int)) Z (pu_lenM Z underlying30 (tm Z)) ?_)))))))
 refine xm Z Z Z (xa (.i (b.length : Int)) Z (pu_lenM Z underlying30 (tm Z)) (xa (.bool (!decide ((a.length : Int) = (b.length : Int)))) Z (pu_int (v := .bool (!decide ((a.length : Int) = (b.length : Int)))) Z Z (tm Z) (tm Z) Z) (xe (aw_cond (b := (!decide ((a.length : Int) = (b.length : Int)))) (tm Z) (fun hb238 => ?_) (fun hb238 => ?_)))))
 ·replace h := ite_f (ndec_t hb238) h
  refine xr (xa (.bool false) Z (pu_assign Z (AEv.bool _)) (xe (aw_ret ?_)))
  obtain rfl := some_of h
  exact ⟨[.bool false], _, [], ⟨(tm Z), trivial⟩, vr, Weak.mkL [] (by decide) trivial trivial, ⟨Z, Z⟩⟩
 ·replace h := ite_t (ndec_f hb238) h
  refine aw_skip ?_
  obtain ⟨s237, s237e, h178⟩ := bind_some h
  refine aw_join (σ := Unit) (ν := Unit) (fun u v => []) (fun u v => []) (fun u => s237 = .inl u) ?_ ?_
  ·intro s177
   intro _
   rintro rfl
   have h := onSum_inl h178
   refine xr (xa (.bool true) Z (pu_assign Z (AEv.bool _)) (xe (aw_ret ?_)))
   obtain rfl := some_of h
   exact ⟨[.bool true], _, [], ⟨(tm Z), trivial⟩, vr, Weak.mkL [] (by decide) trivial trivial, ⟨Z, Z⟩⟩
  ·have h := s237e
   refine xr (xa (.i 0) Z (pu_assign Z (AEv.int _ _)) (xe (aw_block (aw_while (σ := mewsref05.Same.S0) (ν := Unit) (mewsref05.Same.body0 a b) (fun s216 v => [(0, .sl .no 2 (a.map api.Request.av)), (1, .sl .no 2 (b.map api.Request.av)), (5, .i s216.i)]) (fun s216 v => []) ⟨0⟩ () _ h (Weak.mkL [] (by decide) trivial ⟨tm Z, tm Z, tm Z, trivial⟩) ?_))))
   rintro s216 _ x218 h hx217
   unfold mewsref05.Same.body0 at h
   refine aw_seq (xr (xm Z Z Z (xm Z Z Z (xa (.i (a.length : Int)) Z (pu_lenM Z underlying30 (tm Z)) (xa (.bool (decide (s216.i < (a.length : Int)))) Z (pu_int (v := .bool (decide (s216.i < (a.length : Int)))) Z Z (tm Z) (tm Z) Z) (xe (aw_cond (b := decide (s216.i < (a.length : Int))) (tm Z) (fun hb236 => ?_) (fun hb236 => ?_))))))))
   ·replace h := ite_t (dec_t hb236) h
    refine aw_skip (aw_seq (aw_block ?_))
    obtain ⟨s226, s226e, h227⟩ := bind_some h
    refine aw_meet (ν := Unit) (fun v => [(0, .sl .no 2 (a.map api.Request.av)), (1, .sl .no 2 (b.map api.Request.av)), (5, .i s216.i), (41, .bool s226)]) (fun v => []) ?_ ?_
    ·have h := s226e
     obtain ⟨c229, h⟩ := need_of h
     obtain ⟨c230, h⟩ := need_of h
     rcases Bool.eq_false_or_eq_true (!decide ((ix a s216.i).Size = (ix b s216.i).Size)) with hb231 | hb231
     ·replace h := ite_f (ndec_t hb231) h
      refine aw_planR (by decide +kernel) [[], [], [], [], [], [], [], [], [], [], [], [], [], [], [], [], [], [], [], [], [], [], [], [], []] [] [] [.sl .no 2 (a.map api.Request.av), .i s216.i, .vptr [.sl .no 1 ((ix a s216.i).Args.map AV.str), .i (ix a s216.i).Size], .vptr [.i (ix a s216.i).Size], .i (ix a s216.i).Size, .sl .no 2 (b.map api.Request.av), .i s216.i, .vptr [.sl .no 1 ((ix b s216.i).Args.map AV.str), .i (ix b s216.i).Size], .vptr [.i (ix b s216.i).Size], .i (ix b s216.i).Size, .bool (!decide ((ix a s216.i).Size = (ix b s216.i).Size)), .bool true, .lit undef, .lit undef, .lit undef, .lit undef, .lit undef, .lit undef, .lit undef, .lit undef, .lit undef, .lit undef, .lit undef, .lit undef, .bool true] (by decide +kernel) Z Z ?_ ?_
      ·exact ⟨ym Z Z Z, ym Z Z Z, yp Z (pu_indexAddrM Z underlying30 sizeOf44 (tm Z) (tm Z) c229 Z), yp Z (fa Z underlying44 Z sizeOf3 Z Z Z), stepg_plain Z (op_loadV1 Z isAgg3 (tm Z) Z ⟨Z, Z⟩), ym Z Z Z, ym Z Z Z, yp Z (pu_indexAddrM Z underlying30 sizeOf44 (tm Z) (tm Z) c230 Z), yp Z (fa Z underlying44 Z sizeOf3 Z Z Z), stepg_plain Z (op_loadV1 Z isAgg3 (tm Z) Z ⟨Z, Z⟩), yp Z (pu_int (v := .bool (!decide ((ix a s216.i).Size = (ix b s216.i).Size))) Z Z (tm Z) (tm Z) Z), AStepG.cast (ym Z Z Z) (congrArg AV.bool hb231), yx Z Z Z, yx Z Z Z, yx Z Z Z, yx Z Z Z, yx Z Z Z, yx Z Z Z, yx Z Z Z, yx Z Z Z, yx Z Z Z, yx Z Z Z, yx Z Z Z, yx Z Z Z, yp Z (pu_pick (b := true) Z (tm Z) (fun _ => (AEv.bool _)) (fun h => nomatch h)), trivial⟩
      obtain rfl := some_of h
      exact ⟨(), Weak.mkL [] (by decide) trivial ⟨tm Z, tm Z, tm Z, tm Z, trivial⟩⟩
     ·replace h := ite_t (ndec_f hb231) h
      obtain ⟨c232, h⟩ := need_of h
      obtain ⟨c233, h⟩ := need_of h
      obtain ⟨r234, r234e, h⟩ := bind_some h
      refine aw_planR (by decide +kernel) [[], [], [], [], [], [], [], [], [], [], [], [], [], [], [], [], [], [], [], [], [], [], [], [], []] [] [] [.sl .no 2 (a.map api.Request.av), .i s216.i, .vptr [.sl .no 1 ((ix a s216.i).Args.map AV.str), .i (ix a s216.i).Size], .vptr [.i (ix a s216.i).Size], .i (ix a s216.i).Size, .sl .no 2 (b.map api.Request.av), .i s216.i, .vptr [.sl .no 1 ((ix b s216.i).Args.map AV.str), .i (ix b s216.i).Size], .vptr [.i (ix b s216.i).Size], .i (ix b s216.i).Size, .bool (!decide ((ix a s216.i).Size = (ix b s216.i).Size)), .bool false, .sl .no 2 (a.map api.Request.av), .i s216.i, .vptr [.sl .no 1 ((ix a s216.i).Args.map AV.str), .i (ix a s216.i).Size], .vptr [.sl .no 1 ((ix a s216.i).Args.map AV.str), .i (ix a s216.i).Size], .sl .no 1 ((ix a s216.i).Args.map AV.str), .sl .no 2 (b.map api.Request.av), .i s216.i, .vptr [.sl .no 1 ((ix b s216.i).Args.map AV.str), .i (ix b s216.i).Size], .vptr [.sl .no 1 ((ix b s216.i).Args.map AV.str), .i (ix b s216.i).Size], .sl .no 1 ((ix b s216.i).Args.map AV.str), .bool r234, .bool (!r234), .bool (!r234)] (by decide +kernel) Z Z ?_ ?_
      ·exact ⟨ym Z Z Z, ym Z Z Z, yp Z (pu_indexAddrM Z underlying30 sizeOf44 (tm Z) (tm Z) c229 Z), yp Z (fa Z underlying44 Z sizeOf3 Z Z Z), stepg_plain Z (op_loadV1 Z isAgg3 (tm Z) Z ⟨Z, Z⟩), ym Z Z Z, ym Z Z Z, yp Z (pu_indexAddrM Z underlying30 sizeOf44 (tm Z) (tm Z) c230 Z), yp Z (fa Z underlying44 Z sizeOf3 Z Z Z), stepg_plain Z (op_loadV1 Z isAgg3 (tm Z) Z ⟨Z, Z⟩), yp Z (pu_int (v := .bool (!decide ((ix a s216.i).Size = (ix b s216.i).Size))) Z Z (tm Z) (tm Z) Z), AStepG.cast (ym Z Z Z) (congrArg AV.bool hb231), yq Z Z (pu_move Z (tm Z)), yq Z Z (pu_move Z (tm Z)), yq Z Z (pu_indexAddrM Z underlying30 sizeOf44 (tm Z) (tm Z) c232 Z), yq Z Z (fa Z underlying44 Z sizeOf26 Z Z Z), yg Z Z (op_loadV1 Z isAgg26 (tm Z) Z ⟨Z, Z⟩), yq Z Z (pu_move Z (tm Z)), yq Z Z (pu_move Z (tm Z)), yq Z Z (pu_indexAddrM Z underlying30 sizeOf44 (tm Z) (tm Z) c233 Z), yq Z Z (fa Z underlying44 Z sizeOf26 Z Z Z), yg Z Z (op_loadV1 Z isAgg26 (tm Z) Z ⟨Z, Z⟩), yg Z Z (op_call (vs := [.sl .no 1 ((ix a s216.i).Args.map AV.str), .sl .no 1 ((ix b s216.i).Args.map AV.str)]) (H := []) Z call55 ⟨(tm Z), (tm Z), trivial⟩ (R := []) (List.Perm.refl _) (mewsref05.texts.ok r234e) (by rintro _ _ ⟨rfl, rfl⟩; exact ⟨Z, Z⟩)), yq Z Z (pu_not Z (tm Z)), yp Z (pu_pick (b := false) Z (tm Z) (fun h => nomatch h) (fun _ => (tm Z))), trivial⟩
      obtain rfl := some_of h
      exact ⟨(), Weak.mkL [] (by decide) trivial ⟨tm Z, tm Z, tm Z, tm Z, trivial⟩⟩
    ·intro _
     have h := h227
     refine aw_cond (b := s226) (tm Z) (fun hb235 => ?_) (fun hb235 => ?_)
     ·replace h := ite_t hb235 h
      refine xr (xa (.bool false) Z (pu_assign Z (AEv.bool _)) (xe (aw_ret ?_)))
      obtain rfl := some_of h
      have h := congrArg some (hx217 _ rfl)
      obtain rfl := some_of h
      have h := onSum_inr h178
      obtain rfl := some_of h
      exact ⟨[.bool false], _, [], ⟨(tm Z), trivial⟩, vr, Weak.mkL [] (by decide) trivial trivial, ⟨Z, Z⟩⟩
     ·replace h := ite_fb hb235 h
      refine aw_skip (aw_region (xm Z Z Z (xa (.i (IntKind.wrap .i64 (s216.i + 1))) Z (pu_int (v := .i (IntKind.wrap .i64 (s216.i + 1))) Z Z (tm Z) (AEv.int _ _) Z) (xm Z Z Z (xe ?_)))))
      obtain rfl := some_of h
      exact ⟨_, (), Z, Weak.mkL [] (by decide) trivial ⟨tm Z, tm Z, (AEv.le (tm Z) vr), trivial⟩⟩
   ·replace h := ite_f (dec_f hb236) h
    refine aw_exit ?_
    obtain rfl := some_of h
    have h := congrArg some (hx217 _ rfl)
    exact ⟨(), (), (some_of h).symm, Weak.mkL [] (by decide) trivial trivial⟩

theorem parse.Idle.ok {in_ : api.Input} {r : Bool} (h : parse.Idle in_ = some r) : Go.Lift.Spec prog 21 [.agg (api.Input.ct .no in_)] [] (fun v H => v = .bool r ∧ H = []) := by
 unfold parse.Idle at h
 refine Go.Lift.Spec.of_body (rs := [.tmp 2]) func21 Z Z (nb Z) Z (xr (xc Z (op_box (cs := (api.Input.ct .no in_)) (v := .agg (api.Input.ct .no in_)) Z (tm Z) Z Z ?_)))
 intro p9
 refine xa (.bool false) Z (pu_assign Z (AEv.bool _)) (xe ?_)
 obtain ⟨s12, s12e, h13⟩ := letO_of h
 refine aw_meet (ν := Unit) (fun v => [(2, .bool s12)]) (fun v => []) ?_ ?_
 ·have h := s12e.symm
  refine aw_region (xa (.ptr p9 0) Z (fa Z underlying29 Z sizeOf9 Z Z Z) (xc Z (op_load1 (i := 0) Z isAgg9 (tm Z) Z Z (xa (.bool (decide (in_.Rest = ([] : List UInt8)))) Z (pu_str (v := .bool (decide (in_.Rest = ([] : List UInt8)))) Z Z (tm Z) (AEv.const Z) Z) (xm Z Z Z ?_)))))
  rcases Bool.eq_false_or_eq_true (decide (in_.Rest = ([] : List UInt8))) with hb15 | hb15
  ·replace h := ite_t (dec_t hb15) h
   refine aops_known 6 Z hb15 (xp (.ptr p9 3) Z Z (fa Z underlying29 Z sizeOf3 Z Z Z) (xg Z Z (op_load1 (i := 0) Z isAgg3 (tm Z) Z Z (xp (.bool (decide (in_.Size = 0))) Z Z (pu_int (v := .bool (decide (in_.Size = 0))) Z Z (tm Z) (AEv.int _ _) Z) (xa (.bool (decide (in_.Size = 0))) Z (pu_pick (b := true) Z (tm Z) (fun _ => (tm Z)) (fun h => nomatch h)) (xm Z Z Z ?_))))))
   rcases Bool.eq_false_or_eq_true (decide (in_.Size = 0)) with hb16 | hb16
   ·replace h := ite_t (dec_t hb16) h
    refine aops_known 11 Z hb16 (xp (.ptr p9 6) Z Z (fa Z underlying29 Z sizeOf27 Z Z Z) (xg Z Z (op_load1 (i := 0) Z isAgg27 (tm Z) Z Z (xp (.bool (decide (in_.Dead = 0))) Z Z (pu_int (v := .bool (decide (in_.Dead = 0))) Z Z (tm Z) (AEv.int _ _) Z) (xa (.bool (decide (in_.Dead = 0))) Z (pu_pick (b := true) Z (tm Z) (fun _ => (tm Z)) (fun h => nomatch h)) (xm Z Z Z (xe ?_)))))))
    subst h
    exact ⟨(), Weak.mkL [] (by decide) trivial ⟨(AEv.le (tm Z) vr), trivial⟩⟩
   ·replace h := ite_f (dec_f hb16) h
    refine aops_known 11 Z hb16 (xn Z Z Z (xn Z Z Z (xn Z Z Z (xa (.bool false) Z (pu_pick (b := false) Z (tm Z) (fun h => nomatch h) (fun _ => (AEv.bool _))) (xm Z Z Z (xe ?_))))))
    subst h
    exact ⟨(), Weak.mkL [] (by decide) trivial ⟨tm Z, trivial⟩⟩
  ·replace h := ite_f (dec_f hb15) h
   refine aops_known 6 Z hb15 (xn Z Z Z (xn Z Z Z (xn Z Z Z (xa (.bool false) Z (pu_pick (b := false) Z (tm Z) (fun h => nomatch h) (fun _ => (AEv.bool _))) (xm Z Z Z (xn Z Z Z (xn Z Z Z (xn Z Z Z (xa (.bool false) Z (pu_pick (b := false) Z (tm Z) (fun h => nomatch h) (fun _ => (AEv.bool _))) ?_)))))))))
   refine xm Z Z Z (xe ?_)
   subst h
   exact ⟨(), Weak.mkL [] (by decide) trivial ⟨tm Z, trivial⟩⟩
 ·intro _
  have h := h13
  refine aw_ret ?_
  obtain rfl := some_of h
  exact ⟨[.bool s12], _, [], ⟨(tm Z), trivial⟩, vr, Weak.mkL [] (by decide) trivial trivial, ⟨Z, Z⟩⟩

theorem mewslaw05.alive.ok  {r : Bool} (h : mewslaw05.alive = some r) : Go.Lift.Spec prog 14 [] [] (fun v H => v = .bool r ∧ H = []) := by
 unfold mewslaw05.alive at h
 refine Go.Lift.Spec.of_body (rs := [.tmp 0]) func14 Z Z (nb Z) Z (xr (xa (.bool false) Z (pu_assign Z (AEv.bool _)) (xe (xr (xa (.agg [.i 9, .i 9, .i 9]) Z (pu_build (zs := [.i 0, .i 0, .i 0]) (szs := [1, 1, 1]) (aparts := [(0, .i 9), (1, .i 9), (2, .i 9)]) (cs := [.i 9, .i 9, .i 9]) Z underlying23 zeroValue23 Z ⟨sizeOf3, sizeOf3, sizeOf3, trivial⟩ ⟨Z, (AEv.int _ _), ⟨Z, (AEv.int _ _), ⟨Z, (AEv.int _ _), trivial⟩⟩⟩ Z) (xc Z (op_alloc (cs := [.i 0, .i 0, .i 0]) (v := .agg [.i 0, .i 0, .i 0]) Z zeroValue23 Z Z Z ?_)))))))
 intro p22
 refine ac0 Z Z (op_store (i := 0) (cs' := [.i 9, .i 9, .i 9]) Z sizeOf23 (tm Z) (v := .agg [.i 9, .i 9, .i 9]) (tm Z) Z Z Z (nb Z) Z (xe (xr (xa (.agg [.str ([] : List UInt8), .sl .full 1 (([] : List (List UInt8)).map AV.str), .i 0, .i 0, .bool false, .i 0, .i 0]) Z (pu_build (zs := [.str ([] : List UInt8), .sl .full 1 (([] : List (List UInt8)).map AV.str), .i 0, .i 0, .bool false, .i 0, .i 0]) (szs := [1, 1, 1, 1, 1, 1, 1]) (aparts := []) (cs := [.str ([] : List UInt8), .sl .full 1 (([] : List (List UInt8)).map AV.str), .i 0, .i 0, .bool false, .i 0, .i 0]) Z underlying29 zeroValue29 Z ⟨sizeOf9, sizeOf26, sizeOf3, sizeOf3, sizeOf4, sizeOf3, sizeOf27, trivial⟩ trivial Z) (xc Z (op_loadN (i := 0) Z isAgg23 sizeOf23 (tm Z) Z (nb Z) Z ?_))))))
 obtain ⟨r23, r23e, h⟩ := bind_some h
 refine xc Z (op_call (vs := [.agg [.str ([] : List UInt8), .sl .no 1 (([] : List (List UInt8)).map AV.str), .i 0, .i 0, .bool false, .i 0, .i 0], .str [42, 49, 13, 10, 36, 52, 13, 10, 80, 73], .agg [.i 9, .i 9, .i 9]]) (H := []) Z call15 ⟨(AEv.le (tm Z) (AV.Le.agg ⟨vr, (AV.Le.forget _ _ _), vr, vr, vr, vr, vr, trivial⟩)), (AEv.const Z), (tm Z), trivial⟩ (List.Perm.refl _) (parse.Feed.ok r23e) ?_)
 rintro _ _ ⟨t24, rfl, rfl⟩
 refine xm Z Z Z (xa (.agg (api.Input.ct .no r23.1)) Z (pu_extract Z (tm Z) (nb Z) Z) (xa (.sl (.own t24) 2 (r23.2.1.map api.Request.av)) Z (pu_extract Z (tm Z) (nb Z) Z) (xa (.i r23.2.2) Z (pu_extract Z (tm Z) (nb Z) Z) (xc Z (op_alloc (cs := [.str ([] : List UInt8), .sl .full 1 (([] : List (List UInt8)).map AV.str), .i 0, .i 0, .bool false, .i 0, .i 0]) (v := .agg [.str ([] : List UInt8), .sl .full 1 (([] : List (List UInt8)).map AV.str), .i 0, .i 0, .bool false, .i 0, .i 0]) Z zeroValue29 Z Z Z ?_)))))
 intro p25
 refine ac0 Z Z (op_store (i := 0) (cs' := (api.Input.ct .no r23.1)) Z sizeOf29 (tm Z) (v := .agg (api.Input.ct .no r23.1)) (tm Z) Z Z Z (nb Z) Z (xm Z Z Z (xm Z Z Z (xe (xr (xc Z (op_loadN (i := 0) Z isAgg29 sizeOf29 (tm Z) Z (nb Z) Z (xc Z (op_loadN (i := 2) Z isAgg23 sizeOf23 (tm Z) Z (nb Z) Z ?_)))))))))
 obtain ⟨r26, r26e, h⟩ := bind_some h
 refine xc Z (op_call (vs := [.agg (api.Input.ct .no r23.1), .str [78, 71, 13, 10, 71, 69, 84, 32, 97, 10], .agg [.i 9, .i 9, .i 9]]) (H := []) Z call15 ⟨(tm Z), (AEv.const Z), (tm Z), trivial⟩ (List.Perm.refl _) (parse.Feed.ok r26e) ?_)
 rintro _ _ ⟨t27, rfl, rfl⟩
 refine xm Z Z Z (xa (.agg (api.Input.ct .no r26.1)) Z (pu_extract Z (tm Z) (nb Z) Z) (xa (.sl (.own t27) 2 (r26.2.1.map api.Request.av)) Z (pu_extract Z (tm Z) (nb Z) Z) (xa (.i r26.2.2) Z (pu_extract Z (tm Z) (nb Z) Z) (ac0 Z Z (op_store (i := 1) (cs' := (api.Input.ct .no r26.1)) Z sizeOf29 (tm Z) (v := .agg (api.Input.ct .no r26.1)) (tm Z) Z Z Z (nb Z) Z (xm Z Z Z (xm Z Z Z (xe ?_))))))))
 obtain ⟨s34, s34e, h35⟩ := bind_some h
 refine aw_meet (ν := Unit) (fun v => [(0, .bool s34)]) (fun v => []) ?_ ?_
 ·have h := s34e
  refine aw_region (xm Z Z Z (xa (.i (r23.2.1.length : Int)) Z (pu_lenM Z underlying30 (tm Z)) (xa (.bool (decide ((r23.2.1.length : Int) = 0))) Z (pu_int (v := .bool (decide ((r23.2.1.length : Int) = 0))) Z Z (tm Z) (AEv.int _ _) Z) (xm Z Z Z ?_))))
  rcases Bool.eq_false_or_eq_true (decide ((r23.2.1.length : Int) = 0)) with hb37 | hb37
  ·replace h := ite_t (dec_t hb37) h
   refine aops_known 25 Z hb37 (xq Z Z Z Z (xp (.bool (decide (r23.2.2 = 0))) Z Z (pu_int (v := .bool (decide (r23.2.2 = 0))) Z Z (tm Z) (AEv.int _ _) Z) (xa (.bool (decide (r23.2.2 = 0))) Z (pu_pick (b := true) Z (tm Z) (fun _ => (tm Z)) (fun h => nomatch h)) (xm Z Z Z ?_))))
   rcases Bool.eq_false_or_eq_true (decide (r23.2.2 = 0)) with hb38 | hb38
   ·replace h := ite_t (dec_t hb38) h
    refine aops_known 29 Z hb38 (xq Z Z Z Z (xp (.bool (decide (r26.2.2 = 0))) Z Z (pu_int (v := .bool (decide (r26.2.2 = 0))) Z Z (tm Z) (AEv.int _ _) Z) (xa (.bool (decide (r26.2.2 = 0))) Z (pu_pick (b := true) Z (tm Z) (fun _ => (tm Z)) (fun h => nomatch h)) (xm Z Z Z ?_))))
    rcases Bool.eq_false_or_eq_true (decide (r26.2.2 = 0)) with hb39 | hb39
    ·replace h := ite_t (dec_t hb39) h
     refine aops_known 33 Z hb39 (xq Z Z Z Z (xg Z Z (op_buildSlice (xs := ([[80, 73, 78, 71]] : List (List UInt8)).map AV.str) (aparts := [(0, .str [80, 73, 78, 71])]) Z underlying26 sizeOf9 zeroValue9 (by decide) (by decide) ⟨Z, (AEv.const Z), trivial⟩ Z Z Z (xp (.agg [.sl .full 1 ([[80, 73, 78, 71]].map AV.str), .i 14]) Z Z (pu_build (zs := [.sl .full 1 (([] : List (List UInt8)).map AV.str), .i 0]) (szs := [1, 1]) (aparts := [(0, .sl .full 1 ([[80, 73, 78, 71]].map AV.str)), (1, .i 14)]) (cs := [.sl .full 1 ([[80, 73, 78, 71]].map AV.str), .i 14]) Z underlying44 zeroValue44 Z ⟨sizeOf26, sizeOf3, trivial⟩ ⟨Z, (tm Z), ⟨Z, (AEv.int _ _), trivial⟩⟩ Z) (xg Z Z (op_buildSlice (xs := ([[71, 69, 84], [97]] : List (List UInt8)).map AV.str) (aparts := [(0, .str [71, 69, 84]), (1, .str [97])]) Z underlying26 sizeOf9 zeroValue9 (by decide) (by decide) ⟨Z, (AEv.const Z), ⟨Z, (AEv.const Z), trivial⟩⟩ Z Z Z (xp (.agg [.sl .full 1 ([[71, 69, 84], [97]].map AV.str), .i 6]) Z Z (pu_build (zs := [.sl .full 1 (([] : List (List UInt8)).map AV.str), .i 0]) (szs := [1, 1]) (aparts := [(0, .sl .full 1 ([[71, 69, 84], [97]].map AV.str)), (1, .i 6)]) (cs := [.sl .full 1 ([[71, 69, 84], [97]].map AV.str), .i 6]) Z underlying44 zeroValue44 Z ⟨sizeOf26, sizeOf3, trivial⟩ ⟨Z, (tm Z), ⟨Z, (AEv.int _ _), trivial⟩⟩ Z) (xg Z Z (op_buildSlice (xs := ([({ Args := [[80, 73, 78, 71]], Size := 14 } : api.Request), ({ Args := [[71, 69, 84], [97]], Size := 6 } : api.Request)] : List api.Request).map api.Request.av) (aparts := [(0, .agg [.sl .no 1 ([[80, 73, 78, 71]].map AV.str), .i 14]), (1, .agg [.sl .no 1 ([[71, 69, 84], [97]].map AV.str), .i 6])]) Z underlying30 sizeOf44 zeroValue44 (by decide) (by decide) ⟨Z, (AEv.le (tm Z) (AV.Le.agg ⟨(AV.Le.forget _ _ _), vr, trivial⟩)), ⟨Z, (AEv.le (tm Z) (AV.Le.agg ⟨(AV.Le.forget _ _ _), vr, trivial⟩)), trivial⟩⟩ Z Z Z ?_)))))))))
     obtain ⟨r40, r40e, h⟩ := bind_some h
     refine xg Z Z (op_call (vs := [.sl .no 2 (r26.2.1.map api.Request.av), .sl .no 2 ([({ Args := [[80, 73, 78, 71]], Size := 14 } : api.Request), ({ Args := [[71, 69, 84], [97]], Size := 6 } : api.Request)].map api.Request.av)]) (H := []) Z call18 ⟨(AEv.le (tm Z) (AV.Le.forget _ _ _)), (AEv.le (tm Z) (AV.Le.forget _ _ _)), trivial⟩ (List.Perm.refl _) (mewsref05.Same.ok r40e) ?_)
     rintro _ _ ⟨rfl, rfl⟩
     refine xa (.bool r40) Z (pu_pick (b := true) Z (tm Z) (fun _ => (tm Z)) (fun h => nomatch h)) (xm Z Z Z ?_)
     rcases Bool.eq_false_or_eq_true r40 with hb41 | hb41
     ·replace h := ite_t hb41 h
      refine aops_known 42 Z hb41 (xg Z Z (op_loadN (i := 1) Z isAgg29 sizeOf29 (tm Z) Z (nb Z) Z ?_))
      obtain ⟨r42, r42e, h⟩ := bind_some h
      refine xg Z Z (op_call (vs := [.agg (api.Input.ct .no r26.1)]) (H := []) Z call21 ⟨(tm Z), trivial⟩ (List.Perm.refl _) (parse.Idle.ok r42e) ?_)
      rintro _ _ ⟨rfl, rfl⟩
      refine xa (.bool r42) Z (pu_pick (b := true) Z (tm Z) (fun _ => (tm Z)) (fun h => nomatch h)) (xm Z Z Z (xe ?_))
      obtain rfl := some_of h
      exact ⟨(), Weak.mkL [] (by decide) trivial ⟨tm Z, trivial⟩⟩
     ·replace h := ite_fb hb41 h
      refine aops_known 42 Z hb41 (xn Z Z Z (xn Z Z Z (xa (.bool false) Z (pu_pick (b := false) Z (tm Z) (fun h => nomatch h) (fun _ => (AEv.bool _))) (xm Z Z Z (xe ?_)))))
      obtain rfl := some_of h
      exact ⟨(), Weak.mkL [] (by decide) trivial ⟨tm Z, trivial⟩⟩
    ·replace h := ite_f (dec_f hb39) h
     refine aops_known 33 Z hb39 (xn Z Z Z (xn Z Z Z (xn Z Z Z (xn Z Z Z (xn Z Z Z (xn Z Z Z (xn Z Z Z (xa (.bool false) Z (pu_pick (b := false) Z (tm Z) (fun h => nomatch h) (fun _ => (AEv.bool _))) (xm Z Z Z ?_)))))))))
     refine xn Z Z Z (xn Z Z Z (xa (.bool false) Z (pu_pick (b := false) Z (tm Z) (fun h => nomatch h) (fun _ => (AEv.bool _))) (xm Z Z Z (xe ?_))))
     obtain rfl := some_of h
     exact ⟨(), Weak.mkL [] (by decide) trivial ⟨tm Z, trivial⟩⟩
   ·replace h := ite_f (dec_f hb38) h
    refine aops_known 29 Z hb38 (xn Z Z Z (xn Z Z Z (xa (.bool false) Z (pu_pick (b := false) Z (tm Z) (fun h => nomatch h) (fun _ => (AEv.bool _))) (xm Z Z Z (xn Z Z Z (xn Z Z Z (xn Z Z Z (xn Z Z Z (xn Z Z Z ?_)))))))))
    refine xn Z Z Z (xn Z Z Z (xa (.bool false) Z (pu_pick (b := false) Z (tm Z) (fun h => nomatch h) (fun _ => (AEv.bool _))) (xm Z Z Z (xn Z Z Z (xn Z Z Z (xa (.bool false) Z (pu_pick (b := false) Z (tm Z) (fun h => nomatch h) (fun _ => (AEv.bool _))) (xm Z Z Z (xe ?_))))))))
    obtain rfl := some_of h
    exact ⟨(), Weak.mkL [] (by decide) trivial ⟨tm Z, trivial⟩⟩
  ·replace h := ite_f (dec_f hb37) h
   refine aops_known 25 Z hb37 (xn Z Z Z (xn Z Z Z (xa (.bool false) Z (pu_pick (b := false) Z (tm Z) (fun h => nomatch h) (fun _ => (AEv.bool _))) (xm Z Z Z (xn Z Z Z (xn Z Z Z (xa (.bool false) Z (pu_pick (b := false) Z (tm Z) (fun h => nomatch h) (fun _ => (AEv.bool _))) (xm Z Z Z (xn Z Z Z ?_)))))))))
   refine xn Z Z Z (xn Z Z Z (xn Z Z Z (xn Z Z Z (xn Z Z Z (xn Z Z Z (xa (.bool false) Z (pu_pick (b := false) Z (tm Z) (fun h => nomatch h) (fun _ => (AEv.bool _))) (xm Z Z Z (xn Z Z Z (xn Z Z Z ?_)))))))))
   refine xa (.bool false) Z (pu_pick (b := false) Z (tm Z) (fun h => nomatch h) (fun _ => (AEv.bool _))) (xm Z Z Z (xe ?_))
   obtain rfl := some_of h
   exact ⟨(), Weak.mkL [] (by decide) trivial ⟨tm Z, trivial⟩⟩
 ·intro _
  have h := h35
  refine aw_ret ?_
  obtain rfl := some_of h
  exact ⟨[.bool s34], _, [], ⟨(tm Z), trivial⟩, vr, Weak.mkL [] (by decide) trivial trivial, ⟨Z, Z⟩⟩

theorem mewsref05.between.ok {n_ : Int} {most : Int} {r : Int} (h : mewsref05.between n_ most = some r) : Go.Lift.Spec prog 56 [.i n_, .i most] [] (fun v H => v = .i r ∧ H = []) := by
 unfold mewsref05.between at h
 refine Go.Lift.Spec.of_body (rs := [.tmp 4]) func56 Z Z (nb Z) Z (xr (xa (.i 0) Z (pu_assign Z (AEv.int _ _)) (xe (aw_seq (xr (xm Z Z Z (xa (.bool (decide (n_ < 1))) Z (pu_int (v := .bool (decide (n_ < 1))) Z Z (tm Z) (AEv.int _ _) Z) ?_)))))))
 refine xe (aw_cond (b := decide (n_ < 1)) (tm Z) (fun hb4 => ?_) (fun hb4 => ?_))
 ·replace h := ite_t (dec_t hb4) h
  refine xr (xa (.i 1) Z (pu_assign Z (AEv.int _ _)) (xe (aw_ret ?_)))
  obtain rfl := some_of h
  exact ⟨[.i 1], _, [], ⟨(tm Z), trivial⟩, vr, Weak.mkL [] (by decide) trivial trivial, ⟨Z, Z⟩⟩
 ·replace h := ite_f (dec_f hb4) h
  refine aw_skip (aw_seq (xr (xm Z Z Z (xm Z Z Z (xa (.bool (decide (most < n_))) Z (pu_int (v := .bool (decide (most < n_))) Z Z (tm Z) (tm Z) Z) (xe (aw_cond (b := decide (most < n_)) (tm Z) (fun hb3 => ?_) (fun hb3 => ?_))))))))
  ·replace h := ite_t (dec_t hb3) h
   refine xr (xm Z Z Z (xm Z Z Z (xe (aw_ret ?_))))
   obtain rfl := some_of h
   exact ⟨[.i most], _, [], ⟨(tm Z), trivial⟩, vr, Weak.mkL [] (by decide) trivial trivial, ⟨Z, Z⟩⟩
  ·replace h := ite_f (dec_f hb3) h
   refine aw_skip (xr (xm Z Z Z (xm Z Z Z (xe (aw_ret ?_)))))
   obtain rfl := some_of h
   exact ⟨[.i n_], _, [], ⟨(tm Z), trivial⟩, vr, Weak.mkL [] (by decide) trivial trivial, ⟨Z, Z⟩⟩

theorem mewsref05.Limits.ok {l : api.Limits} {r : api.Limits} (h : mewsref05.Limits l = some r) : Go.Lift.Spec prog 20 [.agg [.i l.Args, .i l.Bulk, .i l.Line]] [] (fun v H => v = .agg [.i r.Args, .i r.Bulk, .i r.Line] ∧ H = []) := by
 unfold mewsref05.Limits at h
 refine Go.Lift.Spec.of_body (rs := [.cell 2 23]) func20 Z Z (nb Z) Z (xr (xc Z (op_box (cs := [.i l.Args, .i l.Bulk, .i l.Line]) (v := .agg [.i l.Args, .i l.Bulk, .i l.Line]) Z (tm Z) Z Z ?_)))
 intro p6
 refine xc Z (op_alloc (cs := [.i 0, .i 0, .i 0]) (v := .agg [.i 0, .i 0, .i 0]) Z zeroValue23 Z Z Z ?_)
 intro p7
 refine xe (aw_seq ?_)
 obtain ⟨r8, r8e, h⟩ := bind_some h
 obtain ⟨r9, r9e, h⟩ := bind_some h
 obtain ⟨r10, r10e, h⟩ := bind_some h
 refine aw_planR (by decide +kernel) [[], [(1, 0, false)], [], [], [(1, 0, false)], [], [], [(1, 0, false)], [], [], [(0, 0, true)]] [[10], []] [[[(p7, .cells [.i 0, .i 0, .i 0])], [(p7, .cells [.i r8, .i r9, .i r10])]], [[(p6, .cells [.i l.Args, .i l.Bulk, .i l.Line])]]] [.ptr p6 0, .i l.Args, .i r8, .ptr p6 1, .i l.Bulk, .i r9, .ptr p6 2, .i l.Line, .i r10, .agg [.i r8, .i r9, .i r10], .un] (by decide +kernel) Z Z ?_ ?_
 ·exact ⟨yp Z (fa Z underlying23 Z sizeOf3 Z Z Z), stepg_plain Z (op_load1 (i := 0) Z isAgg3 (tm Z) Z Z ⟨Z, Z⟩), stepg_plain Z (op_call (vs := [.i l.Args, .i 65536]) (H := []) Z call56 ⟨(tm Z), (AEv.int _ _), trivial⟩ (R := []) (List.Perm.refl _) (mewsref05.between.ok r8e) (by rintro _ _ ⟨rfl, rfl⟩; exact ⟨Z, Z⟩)), yp Z (fa Z underlying23 Z sizeOf3 Z Z Z), stepg_plain Z (op_load1 (i := 0) Z isAgg3 (tm Z) Z Z ⟨Z, Z⟩), stepg_plain Z (op_call (vs := [.i l.Bulk, .i 1048576]) (H := []) Z call56 ⟨(tm Z), (AEv.int _ _), trivial⟩ (R := []) (List.Perm.refl _) (mewsref05.between.ok r9e) (by rintro _ _ ⟨rfl, rfl⟩; exact ⟨Z, Z⟩)), yp Z (fa Z underlying23 Z sizeOf3 Z Z Z), stepg_plain Z (op_load1 (i := 0) Z isAgg3 (tm Z) Z Z ⟨Z, Z⟩), stepg_plain Z (op_call (vs := [.i l.Line, .i 65536]) (H := []) Z call56 ⟨(tm Z), (AEv.int _ _), trivial⟩ (R := []) (List.Perm.refl _) (mewsref05.between.ok r10e) (by rintro _ _ ⟨rfl, rfl⟩; exact ⟨Z, Z⟩)), yp Z (pu_build (zs := [.i 0, .i 0, .i 0]) (szs := [1, 1, 1]) (aparts := [(0, .i r8), (1, .i r9), (2, .i r10)]) (cs := [.i r8, .i r9, .i r10]) Z underlying23 zeroValue23 Z ⟨sizeOf3, sizeOf3, sizeOf3, trivial⟩ ⟨Z, (tm Z), ⟨Z, (tm Z), ⟨Z, (tm Z), trivial⟩⟩⟩ Z), stepg_plain Z (op_store (i := 0) (cs' := [.i r8, .i r9, .i r10]) Z sizeOf23 (tm Z) (v := .agg [.i r8, .i r9, .i r10]) (tm Z) Z Z Z (nb Z) Z ⟨Z, Z⟩), trivial⟩
 refine aw_ret ?_
 obtain rfl := some_of h
 exact ⟨[.agg [.i r8, .i r9, .i r10]], _, [], ⟨(CellOk.agg 0 (tm Z) Z isAgg23 sizeOf23 (nb Z) Z), trivial⟩, vr, Weak.mkL [] (by decide) trivial trivial, ⟨Z, Z⟩⟩

theorem mewsref01.digits.rec.ok (kk : Nat) : ∀ {n_ : Int} {r : List UInt8} (h : mewsref01.digits.rec kk n_ = some r), Go.Lift.Spec prog 81 [.i n_] [] (fun v H => v = .str r ∧ H = []) := by
 induction kk with
 | zero => intro n_ r h; exact nomatch h
 | succ kk ih =>
  intro n_ r h
  rw [mewsref01.digits.rec.eq_2] at h
  refine Go.Lift.Spec.of_body (rs := [.tmp 2]) func81 Z Z (nb Z) Z (xr (xa (.str ([] : List UInt8)) Z (pu_assign Z (AEv.const Z)) (xe (xr (xa (.str [48, 49, 50, 51, 52, 53, 54, 55, 56, 57]) Z (pu_assign Z (AEv.const Z)) (xe (aw_seq ?_)))))))
  refine aw_region (xm Z Z Z (xa (.i (n_.tmod 10)) Z (pu_rem Z (tm Z) (AEv.int _ _) (by decide)) (xa (.i (IntKind.wrap .i64 (0 - (n_.tmod 10)))) Z (pu_neg Z (tm Z)) (xm Z Z Z (xe (aw_seq (xr (xm Z Z Z ?_))))))))
  refine xa (.bool (decide ((-10) < n_))) Z (pu_int (v := .bool (decide ((-10) < n_))) Z Z (tm Z) (AEv.int _ _) Z) (xe (aw_cond (b := decide ((-10) < n_)) (tm Z) (fun hb14 => ?_) (fun hb14 => ?_)))
  ·replace h := ite_t (dec_t hb14) h
   refine xr (xm Z Z Z (xm Z Z Z (xm Z Z Z (xa (.i (IntKind.wrap .i64 ((IntKind.wrap .i64 (0 - (n_.tmod 10))) + 1))) Z (pu_int (v := .i (IntKind.wrap .i64 ((IntKind.wrap .i64 (0 - (n_.tmod 10))) + 1))) Z Z (tm Z) (AEv.int _ _) Z) ?_))))
   obtain ⟨c8, h⟩ := need_of h
   obtain ⟨x9, x9e, h⟩ := letO_of h
   refine xa (.str x9) Z (APure.eq (pu_strSliceM Z underlying9 (tm Z) ⟨_, (tm Z)⟩ ⟨_, (tm Z)⟩ c8) (congrArg (AV.str) x9e.symm)) (xm Z Z Z (xe (aw_ret ?_)))
   obtain rfl := some_of h
   exact ⟨[.str x9], _, [], ⟨(tm Z), trivial⟩, vr, Weak.mkL [] (by decide) trivial trivial, ⟨Z, Z⟩⟩
  ·replace h := ite_f (dec_f hb14) h
   refine aw_skip (aw_seq ?_)
   obtain ⟨r10, r10e, h⟩ := bind_some h
   obtain ⟨c11, h⟩ := need_of h
   obtain ⟨x12, x12e, h⟩ := letO_of h
   obtain ⟨c13, h⟩ := need_of h
   refine aw_planR (by decide +kernel) [[], [], [], [], [], [], [], [], [], []] [] [] [.i n_, .i (IntKind.wrap .i64 (n_.tdiv 10)), .str r10, .str [48, 49, 50, 51, 52, 53, 54, 55, 56, 57], .i (IntKind.wrap .i64 (0 - (n_.tmod 10))), .i (IntKind.wrap .i64 (0 - (n_.tmod 10))), .i (IntKind.wrap .i64 ((IntKind.wrap .i64 (0 - (n_.tmod 10))) + 1)), .str x12, .str (r10 ++ x12), .str (r10 ++ x12)] (by decide +kernel) Z Z ?_ ?_
   ·exact ⟨ym Z Z Z, yp Z (pu_quo Z (tm Z) (AEv.int _ _) (by decide)), stepg_plain Z (op_call (vs := [.i (IntKind.wrap .i64 (n_.tdiv 10))]) (H := []) Z call81 ⟨(tm Z), trivial⟩ (R := []) (List.Perm.refl _) (ih r10e) (by rintro _ _ ⟨rfl, rfl⟩; exact ⟨Z, Z⟩)), ym Z Z Z, ym Z Z Z, ym Z Z Z, yp Z (pu_int (v := .i (IntKind.wrap .i64 ((IntKind.wrap .i64 (0 - (n_.tmod 10))) + 1))) Z Z (tm Z) (AEv.int _ _) Z), yp Z (APure.eq (pu_strSliceM Z underlying9 (tm Z) ⟨_, (tm Z)⟩ ⟨_, (tm Z)⟩ c11) (congrArg (AV.str) x12e.symm)), yp Z (pu_strAdd Z (tm Z) (tm Z) c13), ym Z Z Z, trivial⟩
   refine aw_ret ?_
   obtain rfl := some_of h
   exact ⟨[.str (r10 ++ x12)], _, [], ⟨(tm Z), trivial⟩, vr, Weak.mkL [] (by decide) trivial trivial, ⟨Z, Z⟩⟩

theorem mewsref01.digits.ok {n_ : Int} {r : List UInt8} (h : mewsref01.digits n_ = some r) : Go.Lift.Spec prog 81 [.i n_] [] (fun v H => v = .str r ∧ H = []) := by
 obtain ⟨kk, hk⟩ := fixO_some h
 exact mewsref01.digits.rec.ok kk hk

theorem mewsref01.Text.ok {n_ : Int} {r : List UInt8} (h : mewsref01.Text n_ = some r) : Go.Lift.Spec prog 57 [.i n_] [] (fun v H => v = .str r ∧ H = []) := by
 unfold mewsref01.Text at h
 refine Go.Lift.Spec.of_body (rs := [.tmp 2]) func57 Z Z (nb Z) Z (xr (xa (.str ([] : List UInt8)) Z (pu_assign Z (AEv.const Z)) (xe (aw_seq (xr (xm Z Z Z (xa (.bool (decide (n_ < 0))) Z (pu_int (v := .bool (decide (n_ < 0))) Z Z (tm Z) (AEv.int _ _) Z) ?_)))))))
 refine xe (aw_cond (b := decide (n_ < 0)) (tm Z) (fun hb8 => ?_) (fun hb8 => ?_))
 ·replace h := ite_t (dec_t hb8) h
  refine xr (xm Z Z Z ?_)
  obtain ⟨r5, r5e, h⟩ := bind_some h
  refine xc Z (op_call (vs := [.i n_]) (H := []) Z call81 ⟨(tm Z), trivial⟩ (List.Perm.refl _) (mewsref01.digits.ok r5e) ?_)
  rintro _ _ ⟨rfl, rfl⟩
  obtain ⟨c6, h⟩ := need_of h
  refine xa (.str ([45] ++ r5)) Z (pu_strAdd Z (AEv.const Z) (tm Z) c6) (xm Z Z Z (xe (aw_ret ?_)))
  obtain rfl := some_of h
  exact ⟨[.str ([45] ++ r5)], _, [], ⟨(tm Z), trivial⟩, vr, Weak.mkL [] (by decide) trivial trivial, ⟨Z, Z⟩⟩
 ·replace h := ite_f (dec_f hb8) h
  refine aw_skip (xr (xm Z Z Z (xa (.i (IntKind.wrap .i64 (0 - n_))) Z (pu_neg Z (tm Z)) ?_)))
  obtain ⟨r7, r7e, h⟩ := bind_some h
  refine xc Z (op_call (vs := [.i (IntKind.wrap .i64 (0 - n_))]) (H := []) Z call81 ⟨(tm Z), trivial⟩ (List.Perm.refl _) (mewsref01.digits.ok r7e) ?_)
  rintro _ _ ⟨rfl, rfl⟩
  refine xm Z Z Z (xe (aw_ret ?_))
  obtain rfl := some_of h
  exact ⟨[.str r7], _, [], ⟨(tm Z), trivial⟩, vr, Weak.mkL [] (by decide) trivial trivial, ⟨Z, Z⟩⟩

theorem mewsref05.Put.ok {args : List (List UInt8)} {r : List UInt8} (h : mewsref05.Put args = some r) : Go.Lift.Spec prog 22 [.sl .no 1 (args.map AV.str)] [] (fun v H => v = .str r ∧ H = []) := by
 unfold mewsref05.Put at h
 refine Go.Lift.Spec.of_body (rs := [.tmp 2]) func22 Z Z (nb Z) Z (xr (xa (.str ([] : List UInt8)) Z (pu_assign Z (AEv.const Z)) (xe (xr (xm Z Z Z (xa (.i (args.length : Int)) Z (pu_lenM Z underlying26 (tm Z)) ?_))))))
 obtain ⟨r81, r81e, h⟩ := bind_some h
 refine xc Z (op_call (vs := [.i (args.length : Int)]) (H := []) Z call57 ⟨(tm Z), trivial⟩ (List.Perm.refl _) (mewsref01.Text.ok r81e) ?_)
 rintro _ _ ⟨rfl, rfl⟩
 obtain ⟨c82, h⟩ := need_of h
 refine xa (.str ([42] ++ r81)) Z (pu_strAdd Z (AEv.const Z) (tm Z) c82) ?_
 obtain ⟨c83, h⟩ := need_of h
 refine xa (.str (([42] ++ r81) ++ [13, 10])) Z (pu_strAdd Z (tm Z) (AEv.const Z) c83) (xm Z Z Z (xe ?_))
 obtain ⟨s121, s121e, h122⟩ := bind_some h
 refine aw_meet (ν := Unit) (fun v => [(3, .str s121)]) (fun v => []) ?_ ?_
 ·have h := s121e
  refine xr (xa (.i 0) Z (pu_assign Z (AEv.int _ _)) (xe (aw_block (aw_while (σ := mewsref05.Put.S0) (ν := Unit) (mewsref05.Put.body0 args) (fun s147 v => [(0, .sl .no 1 (args.map AV.str)), (3, .str s147.s), (4, .i s147.i)]) (fun s147 v => []) ⟨([42] ++ r81) ++ [13, 10], 0⟩ () _ h (Weak.mkL [] (by decide) trivial ⟨tm Z, (AEv.le (tm Z) vr), tm Z, trivial⟩) ?_))))
  rintro s147 _ x149 h hx148
  unfold mewsref05.Put.body0 at h
  refine aw_seq (xr (xm Z Z Z (xm Z Z Z (xa (.i (args.length : Int)) Z (pu_lenM Z underlying26 (tm Z)) (xa (.bool (decide (s147.i < (args.length : Int)))) Z (pu_int (v := .bool (decide (s147.i < (args.length : Int)))) Z Z (tm Z) (tm Z) Z) (xe (aw_cond (b := decide (s147.i < (args.length : Int))) (tm Z) (fun hb160 => ?_) (fun hb160 => ?_))))))))
  ·replace h := ite_t (dec_t hb160) h
   refine aw_skip (aw_seq (aw_block ?_))
   obtain ⟨c151, h⟩ := need_of h
   obtain ⟨r152, r152e, h⟩ := bind_some h
   obtain ⟨c153, h⟩ := need_of h
   obtain ⟨c154, h⟩ := need_of h
   obtain ⟨c155, h⟩ := need_of h
   obtain ⟨c156, h⟩ := need_of h
   obtain ⟨x157, x157e, h⟩ := letO_of h
   obtain ⟨c158, h⟩ := need_of h
   obtain ⟨c159, h⟩ := need_of h
   refine aw_planR (by decide +kernel) [[], [], [], [], [], [], [], [], [], [], [], [], [], [], [], [], []] [] [] [.str s147.s, .sl .no 1 (args.map AV.str), .i s147.i, .vptr [.str (ix args s147.i)], .str (ix args s147.i), .i ((ix args s147.i).length : Int), .str r152, .str ([36] ++ r152), .str (([36] ++ r152) ++ [13, 10]), .sl .no 1 (args.map AV.str), .i s147.i, .vptr [.str (ix args s147.i)], .str (ix args s147.i), .str x157, .str (x157 ++ [13, 10]), .str (s147.s ++ (x157 ++ [13, 10])), .str (s147.s ++ (x157 ++ [13, 10]))] (by decide +kernel) Z Z ?_ ?_
   ·exact ⟨ym Z Z Z, ym Z Z Z, ym Z Z Z, yp Z (pu_indexAddrM Z underlying26 sizeOf9 (tm Z) (tm Z) c151 Z), stepg_plain Z (op_loadV1 Z isAgg9 (tm Z) Z ⟨Z, Z⟩), yp Z (pu_strLen Z underlying9 (tm Z)), stepg_plain Z (op_call (vs := [.i ((ix args s147.i).length : Int)]) (H := []) Z call57 ⟨(tm Z), trivial⟩ (R := []) (List.Perm.refl _) (mewsref01.Text.ok r152e) (by rintro _ _ ⟨rfl, rfl⟩; exact ⟨Z, Z⟩)), yp Z (pu_strAdd Z (AEv.const Z) (tm Z) c153), yp Z (pu_strAdd Z (tm Z) (AEv.const Z) c154), ym Z Z Z, ym Z Z Z, yp Z (pu_indexAddrM Z underlying26 sizeOf9 (tm Z) (tm Z) c155 Z), stepg_plain Z (op_loadV1 Z isAgg9 (tm Z) Z ⟨Z, Z⟩), yp Z (APure.eq (pu_strAdd Z (tm Z) (tm Z) c156) (congrArg (AV.str) x157e.symm)), yp Z (pu_strAdd Z (tm Z) (AEv.const Z) c158), yp Z (pu_strAdd Z (tm Z) (tm Z) c159), ym Z Z Z, trivial⟩
   refine aw_region (xm Z Z Z (xa (.i (IntKind.wrap .i64 (s147.i + 1))) Z (pu_int (v := .i (IntKind.wrap .i64 (s147.i + 1))) Z Z (tm Z) (AEv.int _ _) Z) (xm Z Z Z (xe ?_))))
   obtain rfl := some_of h
   exact ⟨_, (), Z, Weak.mkL [] (by decide) trivial ⟨tm Z, (AEv.le (tm Z) vr), (AEv.le (tm Z) vr), trivial⟩⟩
  ·replace h := ite_f (dec_f hb160) h
   refine aw_exit ?_
   obtain rfl := some_of h
   have h := congrArg some (hx148 _ rfl)
   obtain rfl := some_of h
   exact ⟨(), Weak.mkL [] (by decide) trivial ⟨tm Z, trivial⟩⟩
 ·intro _
  have h := h122
  refine xr (xm Z Z Z (xm Z Z Z (xe (aw_ret ?_))))
  obtain rfl := some_of h
  exact ⟨[.str s121], _, [], ⟨(tm Z), trivial⟩, vr, Weak.mkL [] (by decide) trivial trivial, ⟨Z, Z⟩⟩

theorem num.Text.ok {n_ : Int} {r : List UInt8} (h : num.Text n_ = some r) : Go.Lift.Spec prog 59 [.i n_] [] (fun v H => v = .str r ∧ H = []) := by
 unfold num.Text at h
 refine Go.Lift.Spec.of_body (rs := [.tmp 2]) func59 Z Z (nb Z) Z (xr (xa (.str ([] : List UInt8)) Z (pu_assign Z (AEv.const Z)) (xe (xr (xc Z (op_allocArr (len := 20) (sz := 1) (zs := [.int .u8 0, .int .u8 0, .int .u8 0, .int .u8 0, .int .u8 0, .int .u8 0, .int .u8 0, .int .u8 0, .int .u8 0, .int .u8 0, .int .u8 0, .int .u8 0, .int .u8 0, .int .u8 0, .int .u8 0, .int .u8 0, .int .u8 0, .int .u8 0, .int .u8 0, .int .u8 0]) byteAV (0 : UInt8) Z zeroValue126 Z Z Z (by decide) Z ?_))))))
 intro p67
 refine xe (xr (xa (.i 20) Z (pu_assign Z (AEv.int _ _)) (xe (xr (xm Z Z Z (xa (.int .u64 (IntKind.wrap .u64 n_)) Z (pu_conv Z underlying2 underlying47 (tm Z)) (xm Z Z Z ?_)))))))
 refine xe ?_
 obtain ⟨s69, s69e, h70⟩ := letO_of h
 refine aw_meet (ν := Unit) (fun v => [(0, .i n_), (3, .eptr p67 0 0), (4, .i 20), (5, .int .u64 s69)]) (fun v => [(p67, .vec 1 ((List.replicate 20 (0 : UInt8)).map byteAV))]) ?_ ?_
 ·have h := s69e.symm
  refine xr (xm Z Z Z (xa (.bool (decide (n_ < 0))) Z (pu_int (v := .bool (decide (n_ < 0))) Z Z (tm Z) (AEv.int _ _) Z) (xe (aw_cond (b := decide (n_ < 0)) (tm Z) (fun hb72 => ?_) (fun hb72 => ?_)))))
  ·replace h := ite_t (dec_t hb72) h
   refine aw_region (xm Z Z Z (xa (.int .u64 (IntKind.wrap .u64 (0 - (IntKind.wrap .u64 n_)))) Z (pu_neg Z (tm Z)) (xm Z Z Z (xe ?_))))
   subst h
   exact ⟨(), Weak.mkL [0] (by decide) ⟨⟨_, Z, Z⟩, trivial⟩ ⟨tm Z, tm Z, tm Z, (AEv.le (tm Z) vr), trivial⟩⟩
  ·replace h := ite_f (dec_f hb72) h
   refine aw_skip ?_
   subst h
   exact ⟨(), Weak.mkL [0] (by decide) ⟨⟨_, Z, Z⟩, trivial⟩ ⟨tm Z, tm Z, tm Z, (AEv.le (tm Z) vr), trivial⟩⟩
 ·intro _
  have h := h70
  obtain ⟨s94, s94e, h95⟩ := bind_some h
  refine aw_meet (ν := Unit) (fun v => [(0, .i n_), (3, .eptr p67 0 0), (4, .i s94.1)]) (fun v => [(p67, .vec 1 (s94.2.map byteAV))]) ?_ ?_
  ·have h := s94e
   refine aw_block (aw_while (σ := num.Text.S0) (ν := Unit) num.Text.body0 (fun s109 v => [(0, .i n_), (3, .eptr p67 0 0), (4, .i s109.at_), (5, .int .u64 s109.u)]) (fun s109 v => [(p67, .vec 1 (s109.v.map byteAV))]) ⟨20, s69, List.replicate 20 (0 : UInt8)⟩ () _ h (Weak.mkL [0] (by decide) ⟨⟨_, Z, Z⟩, trivial⟩ ⟨tm Z, tm Z, tm Z, tm Z, trivial⟩) ?_)
   rintro s109 _ x111 h hx110
   unfold num.Text.body0 at h
   refine aw_block (xr (xm Z Z Z (xa (.i (IntKind.wrap .i64 (s109.at_ - 1))) Z (pu_int (v := .i (IntKind.wrap .i64 (s109.at_ - 1))) Z Z (tm Z) (AEv.int _ _) Z) (xm Z Z Z (xe (xr (xm Z Z Z ?_)))))))
   refine xm Z Z Z (xa (.int .u64 (s109.u.tmod 10)) Z (pu_rem Z (tm Z) (AEv.int _ _) (by decide)) (xa (.int .u64 (IntKind.wrap .u64 (48 + (s109.u.tmod 10)))) Z (pu_int (v := .int .u64 (IntKind.wrap .u64 (48 + (s109.u.tmod 10)))) Z Z (AEv.int _ _) (tm Z) Z) (xa (.int .u8 (IntKind.wrap .u8 (IntKind.wrap .u64 (48 + (s109.u.tmod 10))))) Z (pu_conv Z underlying47 underlying5 (tm Z)) ?_)))
   obtain ⟨c113, h⟩ := need_of h
   obtain ⟨c114, h⟩ := need_of h
   refine xc Z (op_indexAddrArr (len := 20) (j := 0) Z underlying126 sizeOf5 (tm Z) Z (tm Z) c114 c113 ?_)
   obtain ⟨c115, h⟩ := need_of h
   obtain ⟨c116, h⟩ := need_of h
   refine ac0 Z Z (op_storeEM (i := 0) (sz := 1) (y' := u8 (IntKind.wrap .u8 (IntKind.wrap .u64 (48 + (s109.u.tmod 10))))) Z sizeOf5 (tm Z) (v := .int .u8 (IntKind.wrap .u8 (IntKind.wrap .u64 (48 + (s109.u.tmod 10))))) (tm Z) Z c115 Z Z (by decide) (congrArg AV.cells (byteAV_u8 c116.1 c116.2)) (xe (xr (xm Z Z Z (xa (.int .u64 (IntKind.wrap .u64 (s109.u.tdiv 10))) Z (pu_quo Z (tm Z) (AEv.int _ _) (by decide)) (xm Z Z Z (xe (aw_seq (aw_region ?_)))))))))
   refine xm Z Z Z (xa (.bool (decide ((IntKind.wrap .u64 (s109.u.tdiv 10)) = 0))) Z (pu_int (v := .bool (decide ((IntKind.wrap .u64 (s109.u.tdiv 10)) = 0))) Z Z (tm Z) (AEv.int _ _) Z) (xe (aw_cond (b := decide ((IntKind.wrap .u64 (s109.u.tdiv 10)) = 0)) (tm Z) (fun hb117 => ?_) (fun hb117 => ?_))))
   ·replace h := ite_t (dec_t hb117) h
    refine aw_exit ?_
    obtain rfl := some_of h
    have h := congrArg some (hx110 _ rfl)
    obtain rfl := some_of h
    exact ⟨(), Weak.mkL [0] (by decide) ⟨⟨_, Z, Z⟩, trivial⟩ ⟨tm Z, tm Z, (AEv.le (tm Z) vr), trivial⟩⟩
   ·replace h := ite_f (dec_f hb117) h
    refine aw_skip ?_
    obtain rfl := some_of h
    exact ⟨_, (), Z, Weak.mkL [0] (by decide) ⟨⟨_, Z, Z⟩, trivial⟩ ⟨tm Z, tm Z, (AEv.le (tm Z) vr), (AEv.le (tm Z) vr), trivial⟩⟩
  ·intro _
   have h := h95
   obtain ⟨s123, s123e, h124⟩ := bind_some h
   refine aw_meet (ν := Unit) (fun v => [(3, .eptr p67 0 0), (4, .i s123.1)]) (fun v => [(p67, .vec 1 (s123.2.map byteAV))]) ?_ ?_
   ·have h := s123e
    refine xr (xm Z Z Z (xa (.bool (decide (n_ < 0))) Z (pu_int (v := .bool (decide (n_ < 0))) Z Z (tm Z) (AEv.int _ _) Z) (xe (aw_cond (b := decide (n_ < 0)) (tm Z) (fun hb130 => ?_) (fun hb130 => ?_)))))
    ·replace h := ite_t (dec_t hb130) h
     refine xr (xm Z Z Z (xa (.i (IntKind.wrap .i64 (s94.1 - 1))) Z (pu_int (v := .i (IntKind.wrap .i64 (s94.1 - 1))) Z Z (tm Z) (AEv.int _ _) Z) (xm Z Z Z (xe (aw_region (xm Z Z Z ?_))))))
     obtain ⟨c126, h⟩ := need_of h
     obtain ⟨c127, h⟩ := need_of h
     refine xc Z (op_indexAddrArr (len := 20) (j := 0) Z underlying126 sizeOf5 (tm Z) Z (tm Z) c127 c126 ?_)
     obtain ⟨c128, h⟩ := need_of h
     obtain ⟨c129, h⟩ := need_of h
     refine ac0 Z Z (op_storeEM (i := 0) (sz := 1) (y' := u8 45) Z sizeOf5 (tm Z) (v := .int .u8 45) (AEv.int _ _) Z c128 Z Z (by decide) (congrArg AV.cells (byteAV_u8 c129.1 c129.2)) (xe ?_))
     obtain rfl := some_of h
     exact ⟨(), Weak.mkL [0] (by decide) ⟨⟨_, Z, Z⟩, trivial⟩ ⟨tm Z, (AEv.le (tm Z) vr), trivial⟩⟩
    ·replace h := ite_f (dec_f hb130) h
     refine aw_skip ?_
     obtain rfl := some_of h
     exact ⟨(), Weak.mkL [0] (by decide) ⟨⟨_, Z, Z⟩, trivial⟩ ⟨tm Z, tm Z, trivial⟩⟩
   ·intro _
    have h := h124
    refine xr (xm Z Z Z ?_)
    obtain ⟨c131, h⟩ := need_of h
    obtain ⟨c132, h⟩ := need_of h
    refine xc Z (op_sliceArr (q := 0) (len := 20) Z underlying126 sizeOf5 (tm Z) Z (by rw [List.length_map]; exact c132) ⟨_, (tm Z)⟩ (by rw [List.length_map]; rfl) (by rw [List.length_map]; exact c131) (map_sub byteAV _ _) (xc Z (op_bytesStr Z underlying102 underlying5 underlying9 (tm Z) (xm Z Z Z (xe (aw_ret ?_))))))
    obtain rfl := some_of h
    exact ⟨[.str (sub s123.2 s123.1 (s123.2.length : Int))], _, [], ⟨(tm Z), trivial⟩, vr, Weak.mkL [] (by decide) trivial trivial, ⟨Z, Z⟩⟩

theorem parse.Put.ok {args : List (List UInt8)} {r : List UInt8} (h : parse.Put args = some r) : Go.Lift.Spec prog 23 [.sl .no 1 (args.map AV.str)] [] (fun v H => v = .str r ∧ H = []) := by
 unfold parse.Put at h
 refine Go.Lift.Spec.of_body (rs := [.tmp 2]) func23 Z Z (nb Z) Z (xr (xa (.str ([] : List UInt8)) Z (pu_assign Z (AEv.const Z)) (xe (xr (xc Z (op_allocBld (e := 5) Z zeroValue104 ?_))))))
 intro p75
 refine xe (xr (xm Z Z Z (xa (.i (args.length : Int)) Z (pu_lenM Z underlying26 (tm Z)) ?_)))
 obtain ⟨r76, r76e, h⟩ := bind_some h
 refine xc Z (op_call (vs := [.i (args.length : Int)]) (H := []) Z call59 ⟨(tm Z), trivial⟩ (List.Perm.refl _) (num.Text.ok r76e) ?_)
 rintro _ _ ⟨rfl, rfl⟩
 obtain ⟨c77, h⟩ := need_of h
 refine xa (.str ([42] ++ r76)) Z (pu_strAdd Z (AEv.const Z) (tm Z) c77) ?_
 obtain ⟨c78, h⟩ := need_of h
 refine xa (.str (([42] ++ r76) ++ [13, 10])) Z (pu_strAdd Z (tm Z) (AEv.const Z) c78) ?_
 obtain ⟨c79, h⟩ := need_of h
 refine xc Z (op_call (vs := [.aptr p75, .str (([42] ++ r76) ++ [13, 10])]) (H := [(p75, .abs (bldAbs 104 5 ([] : List UInt8)))]) Z call58 ⟨(tm Z), (tm Z), trivial⟩ (List.Perm.refl _) (bld.WriteString.ok c79 p75) ?_)
 rintro _ _ ⟨rfl, rfl⟩
 refine xe ?_
 obtain ⟨s113, s113e, h114⟩ := bind_some h
 refine aw_meet (ν := Unit) (fun v => [(3, .aptr p75)]) (fun v => [(p75, .abs (bldAbs 104 5 s113))]) ?_ ?_
 ·have h := s113e
  refine xr (xm Z Z Z (xa (.i (args.length : Int)) Z (pu_lenM Z underlying26 (tm Z)) (xa (.i 0) Z (pu_move Z (AEv.int _ _)) (xe (aw_block (aw_while (σ := parse.Put.S0) (ν := Unit) (parse.Put.body0 args) (fun s136 v => [(3, .aptr p75), (12, .sl .no 1 (args.map AV.str)), (13, .i (args.length : Int)), (14, .i s136.t14)]) (fun s136 v => [(p75, .abs (bldAbs 104 5 s136.b))]) ⟨0, ([] : List UInt8) ++ (([42] ++ r76) ++ [13, 10])⟩ () _ h (Weak.mkL [0] (by decide) ⟨⟨_, Z, Z⟩, trivial⟩ ⟨tm Z, tm Z, tm Z, tm Z, trivial⟩) ?_))))))
  rintro s136 _ x138 h hx137
  unfold parse.Put.body0 at h
  refine xr (xa (.bool (decide (s136.t14 < (args.length : Int)))) Z (pu_int (v := .bool (decide (s136.t14 < (args.length : Int)))) Z Z (tm Z) (tm Z) Z) (xe (aw_seq (aw_cond (b := decide (s136.t14 < (args.length : Int))) (tm Z) (fun hb148 => ?_) (fun hb148 => ?_)))))
  ·replace h := ite_t (dec_t hb148) h
   refine aw_skip (aw_seq (aw_block (aw_seq (aw_region ?_))))
   obtain ⟨c140, h⟩ := need_of h
   refine xa (.vptr [.str (ix args s136.t14)]) Z (pu_indexAddrM Z underlying26 sizeOf9 (tm Z) (tm Z) c140 Z) (xc Z (op_loadV1 Z isAgg9 (tm Z) Z (xm Z Z Z (xe (aw_region (xm Z Z Z (xa (.i ((ix args s136.t14).length : Int)) Z (pu_strLen Z underlying9 (tm Z)) ?_)))))))
   obtain ⟨r141, r141e, h⟩ := bind_some h
   refine xc Z (op_call (vs := [.i ((ix args s136.t14).length : Int)]) (H := []) Z call59 ⟨(tm Z), trivial⟩ (List.Perm.refl _) (num.Text.ok r141e) ?_)
   rintro _ _ ⟨rfl, rfl⟩
   obtain ⟨c142, h⟩ := need_of h
   refine xa (.str ([36] ++ r141)) Z (pu_strAdd Z (AEv.const Z) (tm Z) c142) ?_
   obtain ⟨c143, h⟩ := need_of h
   refine xa (.str (([36] ++ r141) ++ [13, 10])) Z (pu_strAdd Z (tm Z) (AEv.const Z) c143) (xm Z Z Z ?_)
   obtain ⟨c144, h⟩ := need_of h
   obtain ⟨x145, x145e, h⟩ := letO_of h
   refine xa (.str x145) Z (APure.eq (pu_strAdd Z (tm Z) (tm Z) c144) (congrArg (AV.str) x145e.symm)) ?_
   obtain ⟨c146, h⟩ := need_of h
   refine xa (.str (x145 ++ [13, 10])) Z (pu_strAdd Z (tm Z) (AEv.const Z) c146) ?_
   obtain ⟨c147, h⟩ := need_of h
   refine xc Z (op_call (vs := [.aptr p75, .str (x145 ++ [13, 10])]) (H := [(p75, .abs (bldAbs 104 5 s136.b))]) Z call58 ⟨(tm Z), (tm Z), trivial⟩ (List.Perm.refl _) (bld.WriteString.ok c147 p75) ?_)
   rintro _ _ ⟨rfl, rfl⟩
   refine xe (aw_region (xa (.i (IntKind.wrap .i64 (s136.t14 + 1))) Z (pu_int (v := .i (IntKind.wrap .i64 (s136.t14 + 1))) Z Z (tm Z) (AEv.int _ _) Z) (xm Z Z Z (xe ?_))))
   obtain rfl := some_of h
   exact ⟨_, (), Z, Weak.mkL [0] (by decide) ⟨⟨_, Z, Z⟩, trivial⟩ ⟨tm Z, tm Z, tm Z, (AEv.le (tm Z) vr), trivial⟩⟩
  ·replace h := ite_f (dec_f hb148) h
   refine aw_exit ?_
   obtain rfl := some_of h
   have h := congrArg some (hx137 _ rfl)
   obtain rfl := some_of h
   exact ⟨(), Weak.mkL [0] (by decide) ⟨⟨_, Z, Z⟩, trivial⟩ ⟨tm Z, trivial⟩⟩
 ·intro _
  have h := h114
  refine xr (xc Z (op_call (vs := [.aptr p75]) (H := [(p75, .abs (bldAbs 104 5 s113))]) Z call60 ⟨(tm Z), trivial⟩ (List.Perm.refl _) (bld.String.ok p75) ?_))
  rintro _ _ ⟨rfl, rfl⟩
  refine xm Z Z Z (xe (aw_ret ?_))
  obtain rfl := some_of h
  exact ⟨[.str s113], _, [], ⟨(tm Z), trivial⟩, vr, Weak.mkL [] (by decide) trivial trivial, ⟨Z, Z⟩⟩

end Go.Pu
