/- Printed by lift.py: the functions come to them. -/
import Derived.Test.YtlehodoiabaaaaaLiftW
import Derived.Test.YtlehodoiabaaaaaFQK1
set_option maxRecDepth 100000
set_option maxHeartbeats 0
namespace Go.Pu
open Go.Lift Go.Proofs.Try Go.RowKit Go.Proofs

theorem mewsref01.Parse.ok {s_ : List UInt8} {r : Int × Bool} (h : mewsref01.Parse s_ = some r) : Go.Lift.Spec prog 45 [.str s_] [] (fun v H => v = .tup [.i r.1, .bool r.2] ∧ H = []) := by
 unfold mewsref01.Parse at h
 refine Go.Lift.Spec.of_body (rs := [.tmp 2, .tmp 3]) func45 Z Z (nb Z) Z (xr (xa (.i 0) Z (pu_assign Z (AEv.int _ _)) (xa (.bool false) Z (pu_assign Z (AEv.bool _)) (xe ?_))))
 obtain ⟨s309, s309e, h310⟩ := bind_some h
 refine aw_meet (ν := Unit) (fun v => [(0, .str s_), (4, .bool s309)]) (fun v => []) ?_ ?_
 ·have h := s309e
  refine aw_region (xm Z Z Z (xa (.i (s_.length : Int)) Z (pu_strLen Z underlying9 (tm Z)) (xa (.bool (decide (0 < (s_.length : Int)))) Z (pu_int (v := .bool (decide (0 < (s_.length : Int)))) Z Z (tm Z) (AEv.int _ _) Z) (xm Z Z Z ?_))))
  rcases Bool.eq_false_or_eq_true (decide (0 < (s_.length : Int))) with hb312 | hb312
  ·replace h := ite_t (dec_t hb312) h
   refine aops_known 11 Z hb312 (xq Z Z Z Z ?_)
   obtain ⟨c313, h⟩ := need_of h
   refine xp (.int .u8 (bix s_ 0)) Z Z (pu_strIdxM Z underlying9 (tm Z) (AEv.int _ _) c313) (xp (.bool (decide ((bix s_ 0) = 45))) Z Z (pu_int (v := .bool (decide ((bix s_ 0) = 45))) Z Z (tm Z) (AEv.int _ _) Z) (xa (.bool (decide ((bix s_ 0) = 45))) Z (pu_pick (b := true) Z (tm Z) (fun _ => (tm Z)) (fun h => nomatch h)) (xm Z Z Z (xe ?_))))
   obtain rfl := some_of h
   exact ⟨(), Weak.mkL [] (by decide) trivial ⟨tm Z, (AEv.le (tm Z) vr), trivial⟩⟩
  ·replace h := ite_f (dec_f hb312) h
   refine aops_known 11 Z hb312 (xn Z Z Z (xn Z Z Z (xn Z Z Z (xa (.bool false) Z (pu_pick (b := false) Z (tm Z) (fun h => nomatch h) (fun _ => (AEv.bool _))) (xm Z Z Z (xe ?_))))))
   obtain rfl := some_of h
   exact ⟨(), Weak.mkL [] (by decide) trivial ⟨tm Z, tm Z, trivial⟩⟩
 ·intro _
  have h := h310
  refine xr (xa (.i 0) Z (pu_assign Z (AEv.int _ _)) (xe ?_))
  obtain ⟨s612, s612e, h456⟩ := bind_some h
  refine aw_join (σ := Int) (ν := Unit) (fun u v => [(0, .str s_), (4, .bool s309), (5, .i u)]) (fun u v => []) (fun u => s612 = .inl u) ?_ ?_
  ·intro s455
   intro _
   rintro rfl
   have h := onSum_inl h456
   refine aw_seq ?_
   obtain ⟨s600, s600e, h601⟩ := letO_of h
   refine aw_meet (ν := Unit) (fun v => [(0, .str s_), (4, .bool s309), (5, .i s455), (56, .bool s600)]) (fun v => []) ?_ ?_
   ·have h := s600e.symm
    refine aw_region (xm Z Z Z (xa (.bool (!s309)) Z (pu_not Z (tm Z)) (xm Z Z Z ?_)))
    rcases Bool.eq_false_or_eq_true (!s309) with hb603 | hb603
    ·replace h := ite_t hb603 h
     refine aops_known 53 Z hb603 (xq Z Z Z Z (xp (.bool (decide (s455 = (-9223372036854775808)))) Z Z (pu_int (v := .bool (decide (s455 = (-9223372036854775808)))) Z Z (tm Z) (AEv.int _ _) Z) (xa (.bool (decide (s455 = (-9223372036854775808)))) Z (pu_pick (b := true) Z (tm Z) (fun _ => (tm Z)) (fun h => nomatch h)) (xe ?_))))
     subst h
     exact ⟨(), Weak.mkL [] (by decide) trivial ⟨tm Z, tm Z, tm Z, (AEv.le (tm Z) vr), trivial⟩⟩
    ·replace h := ite_fb hb603 h
     refine aops_known 53 Z hb603 (xn Z Z Z (xn Z Z Z (xa (.bool false) Z (pu_pick (b := false) Z (tm Z) (fun h => nomatch h) (fun _ => (AEv.bool _))) (xe ?_))))
     subst h
     exact ⟨(), Weak.mkL [] (by decide) trivial ⟨tm Z, tm Z, tm Z, tm Z, trivial⟩⟩
   ·intro _
    have h := h601
    refine aw_cond (b := s600) (tm Z) (fun hb611 => ?_) (fun hb611 => ?_)
    ·replace h := ite_t hb611 h
     refine xr (xa (.i 0) Z (pu_assign Z (AEv.int _ _)) (xa (.bool false) Z (pu_assign Z (AEv.bool _)) (xe (aw_ret ?_))))
     obtain rfl := some_of h
     exact ⟨[.i 0, .bool false], _, [], ⟨(tm Z), (tm Z), trivial⟩, vr, Weak.mkL [] (by decide) trivial trivial, ⟨Z, Z⟩⟩
    ·replace h := ite_fb hb611 h
     refine aw_skip ?_
     obtain ⟨s605, s605e, h606⟩ := letO_of h
     refine aw_meet (ν := Unit) (fun v => [(0, .str s_), (5, .i s605)]) (fun v => []) ?_ ?_
     ·have h := s605e.symm
      refine xr (xm Z Z Z (xa (.bool (!s309)) Z (pu_not Z (tm Z)) (xe (aw_cond (b := (!s309)) (tm Z) (fun hb608 => ?_) (fun hb608 => ?_)))))
      ·replace h := ite_t hb608 h
       refine aw_region (xm Z Z Z (xa (.i (IntKind.wrap .i64 (0 - s455))) Z (pu_neg Z (tm Z)) (xm Z Z Z (xe ?_))))
       subst h
       exact ⟨(), Weak.mkL [] (by decide) trivial ⟨tm Z, (AEv.le (tm Z) vr), trivial⟩⟩
      ·replace h := ite_fb hb608 h
       refine aw_skip ?_
       subst h
       exact ⟨(), Weak.mkL [] (by decide) trivial ⟨tm Z, tm Z, trivial⟩⟩
     ·intro _
      have h := h606
      refine aw_seq (xr (xm Z Z Z ?_))
      obtain ⟨r609, r609e, h⟩ := bind_some h
      refine xc Z (op_call (vs := [.i s605]) (H := []) Z call47 ⟨(tm Z), trivial⟩ (List.Perm.refl _) (mewsref01.Text.ok r609e) ?_)
      rintro _ _ ⟨rfl, rfl⟩
      refine xm Z Z Z (xa (.bool (!decide (r609 = s_))) Z (pu_str (v := .bool (!decide (r609 = s_))) Z Z (tm Z) (tm Z) Z) (xe (aw_cond (b := (!decide (r609 = s_))) (tm Z) (fun hb610 => ?_) (fun hb610 => ?_))))
      ·replace h := ite_f (ndec_t hb610) h
       refine xr (xa (.i 0) Z (pu_assign Z (AEv.int _ _)) (xa (.bool false) Z (pu_assign Z (AEv.bool _)) (xe (aw_ret ?_))))
       obtain rfl := some_of h
       exact ⟨[.i 0, .bool false], _, [], ⟨(tm Z), (tm Z), trivial⟩, vr, Weak.mkL [] (by decide) trivial trivial, ⟨Z, Z⟩⟩
      ·replace h := ite_t (ndec_f hb610) h
       refine aw_skip (xr (xm Z Z Z (xm Z Z Z (xa (.bool true) Z (pu_assign Z (AEv.bool _)) (xe (aw_ret ?_))))))
       obtain rfl := some_of h
       exact ⟨[.i s605, .bool true], _, [], ⟨(tm Z), (tm Z), trivial⟩, vr, Weak.mkL [] (by decide) trivial trivial, ⟨Z, Z⟩⟩
  ·have h := s612e
   refine xr (xa (.i 0) Z (pu_assign Z (AEv.int _ _)) (xe (aw_block (aw_while (σ := mewsref01.Parse.S0) (ν := Unit) (mewsref01.Parse.body0 s_ s309) (fun s550 v => [(0, .str s_), (4, .bool s309), (5, .i s550.n), (6, .i s550.i)]) (fun s550 v => []) ⟨0, 0⟩ () _ h (Weak.mkL [] (by decide) trivial ⟨tm Z, tm Z, tm Z, tm Z, trivial⟩) ?_))))
   rintro s550 _ x552 h hx551
   unfold mewsref01.Parse.body0 at h
   refine aw_seq (xr (xm Z Z Z (xm Z Z Z (xa (.i (s_.length : Int)) Z (pu_strLen Z underlying9 (tm Z)) (xa (.bool (decide (s550.i < (s_.length : Int)))) Z (pu_int (v := .bool (decide (s550.i < (s_.length : Int)))) Z Z (tm Z) (tm Z) Z) (xe (aw_cond (b := decide (s550.i < (s_.length : Int))) (tm Z) (fun hb598 => ?_) (fun hb598 => ?_))))))))
   ·replace h := ite_t (dec_t hb598) h
    refine aw_skip ?_
    obtain ⟨s597, s597e, h575⟩ := bind_some h
    refine aw_join (σ := Int) (ν := Unit) (fun u v => [(0, .str s_), (4, .bool s309), (5, .i u), (6, .i s550.i)]) (fun u v => []) (fun u => s597 = .inl u) ?_ ?_
    ·intro s574
     intro _
     rintro rfl
     have h := onSum_inl h575
     refine aw_region (xm Z Z Z (xa (.i (IntKind.wrap .i64 (s550.i + 1))) Z (pu_int (v := .i (IntKind.wrap .i64 (s550.i + 1))) Z Z (tm Z) (AEv.int _ _) Z) (xm Z Z Z (xe ?_))))
     obtain rfl := some_of h
     exact ⟨_, (), Z, Weak.mkL [] (by decide) trivial ⟨tm Z, tm Z, tm Z, (AEv.le (tm Z) vr), trivial⟩⟩
    ·have h := s597e
     refine aw_block (aw_seq ?_)
     obtain ⟨s578, s578e, h579⟩ := letO_of h
     refine aw_meet (ν := Unit) (fun v => [(0, .str s_), (4, .bool s309), (5, .i s550.n), (6, .i s550.i), (26, .bool s578)]) (fun v => []) ?_ ?_
     ·have h := s578e.symm
      refine aw_region (xm Z Z Z (xa (.bool (decide (s550.i = 0))) Z (pu_int (v := .bool (decide (s550.i = 0))) Z Z (tm Z) (AEv.int _ _) Z) (xm Z Z Z ?_)))
      rcases Bool.eq_false_or_eq_true (decide (s550.i = 0)) with hb581 | hb581
      ·replace h := ite_t (dec_t hb581) h
       refine aops_known 24 Z hb581 (xq Z Z Z Z (xa (.bool s309) Z (pu_pick (b := true) Z (tm Z) (fun _ => (tm Z)) (fun h => nomatch h)) (xe ?_)))
       subst h
       exact ⟨(), Weak.mkL [] (by decide) trivial ⟨tm Z, tm Z, tm Z, tm Z, tm Z, trivial⟩⟩
      ·replace h := ite_f (dec_f hb581) h
       refine aops_known 24 Z hb581 (xn Z Z Z (xa (.bool false) Z (pu_pick (b := false) Z (tm Z) (fun h => nomatch h) (fun _ => (AEv.bool _))) (xe ?_)))
       subst h
       exact ⟨(), Weak.mkL [] (by decide) trivial ⟨tm Z, tm Z, tm Z, tm Z, tm Z, trivial⟩⟩
     ·intro _
      have h := h579
      refine aw_cond (b := s578) (tm Z) (fun hb596 => ?_) (fun hb596 => ?_)
      ·replace h := ite_t hb596 h
       refine aw_exit ?_
       exact ⟨s550.n, (), (some_of h).symm, Weak.mkL [] (by decide) trivial ⟨tm Z, tm Z, tm Z, tm Z, trivial⟩⟩
      ·replace h := ite_fb hb596 h
       refine aw_skip (aw_seq ?_)
       obtain ⟨s585, s585e, h586⟩ := bind_some h
       refine aw_meet (ν := Unit) (fun v => [(0, .str s_), (4, .bool s309), (5, .i s550.n), (6, .i s550.i), (36, .bool s585)]) (fun v => []) ?_ ?_
       ·have h := s585e
        refine aw_region (xm Z Z Z (xm Z Z Z ?_))
        obtain ⟨c588, h⟩ := need_of h
        refine xa (.int .u8 (bix s_ s550.i)) Z (pu_strIdxM Z underlying9 (tm Z) (tm Z) c588) (xa (.bool (decide ((bix s_ s550.i) < 48))) Z (pu_int (v := .bool (decide ((bix s_ s550.i) < 48))) Z Z (tm Z) (AEv.int _ _) Z) (xm Z Z Z ?_))
        rcases Bool.eq_false_or_eq_true (decide ((bix s_ s550.i) < 48)) with hb589 | hb589
        ·replace h := ite_t (dec_t hb589) h
         refine aops_known 31 Z hb589 (xn Z Z Z (xn Z Z Z (xn Z Z Z (xn Z Z Z (xa (.bool true) Z (pu_pick (b := true) Z (tm Z) (fun _ => (AEv.bool _)) (fun h => nomatch h)) (xe ?_))))))
         obtain rfl := some_of h
         exact ⟨(), Weak.mkL [] (by decide) trivial ⟨tm Z, tm Z, tm Z, tm Z, tm Z, trivial⟩⟩
        ·replace h := ite_f (dec_f hb589) h
         refine aops_known 31 Z hb589 (xq Z Z Z Z (xq Z Z Z Z ?_))
         obtain ⟨c590, h⟩ := need_of h
         refine xp (.int .u8 (bix s_ s550.i)) Z Z (pu_strIdxM Z underlying9 (tm Z) (tm Z) c590) (xp (.bool (decide (57 < (bix s_ s550.i)))) Z Z (pu_int (v := .bool (decide (57 < (bix s_ s550.i)))) Z Z (tm Z) (AEv.int _ _) Z) (xa (.bool (decide (57 < (bix s_ s550.i)))) Z (pu_pick (b := false) Z (tm Z) (fun h => nomatch h) (fun _ => (tm Z))) (xe ?_)))
         obtain rfl := some_of h
         exact ⟨(), Weak.mkL [] (by decide) trivial ⟨tm Z, tm Z, tm Z, tm Z, (AEv.le (tm Z) vr), trivial⟩⟩
       ·intro _
        have h := h586
        refine aw_cond (b := s585) (tm Z) (fun hb595 => ?_) (fun hb595 => ?_)
        ·replace h := ite_t hb595 h
         refine xr (xa (.i 0) Z (pu_assign Z (AEv.int _ _)) (xa (.bool false) Z (pu_assign Z (AEv.bool _)) (xe (aw_ret ?_))))
         obtain rfl := some_of h
         have h := onSum_inr h575
         obtain rfl := some_of h
         have h := congrArg some (hx551 _ rfl)
         obtain rfl := some_of h
         have h := onSum_inr h456
         obtain rfl := some_of h
         exact ⟨[.i 0, .bool false], _, [], ⟨(tm Z), (tm Z), trivial⟩, vr, Weak.mkL [] (by decide) trivial trivial, ⟨Z, Z⟩⟩
        ·replace h := ite_fb hb595 h
         refine aw_skip (xr (xm Z Z Z (xm Z Z Z ?_)))
         obtain ⟨c591, h⟩ := need_of h
         refine xa (.int .u8 (bix s_ s550.i)) Z (pu_strIdxM Z underlying9 (tm Z) (tm Z) c591) (xa (.int .u8 (IntKind.wrap .u8 ((bix s_ s550.i) - 48))) Z (pu_int (v := .int .u8 (IntKind.wrap .u8 ((bix s_ s550.i) - 48))) Z Z (tm Z) (AEv.int _ _) Z) (xa (.i (IntKind.wrap .i64 (IntKind.wrap .u8 ((bix s_ s550.i) - 48)))) Z (pu_conv Z underlying5 underlying2 (tm Z)) (xm Z Z Z (xe (aw_seq (xr (xm Z Z Z (xm Z Z Z ?_))))))))
         refine xa (.i (IntKind.wrap .i64 ((-9223372036854775808) + (IntKind.wrap .i64 (IntKind.wrap .u8 ((bix s_ s550.i) - 48)))))) Z (pu_int (v := .i (IntKind.wrap .i64 ((-9223372036854775808) + (IntKind.wrap .i64 (IntKind.wrap .u8 ((bix s_ s550.i) - 48)))))) Z Z (AEv.int _ _) (tm Z) Z) ?_
         obtain ⟨x592, x592e, h⟩ := letO_of h
         refine xa (.i x592) Z (APure.eq (pu_quo Z (tm Z) (AEv.int _ _) (by decide)) (congrArg (AV.int .i64) x592e.symm)) (xa (.bool (decide (s550.n < x592))) Z (pu_int (v := .bool (decide (s550.n < x592))) Z Z (tm Z) (tm Z) Z) (xe (aw_cond (b := decide (s550.n < x592)) (tm Z) (fun hb594 => ?_) (fun hb594 => ?_))))
         ·replace h := ite_t (dec_t hb594) h
          refine xr (xa (.i 0) Z (pu_assign Z (AEv.int _ _)) (xa (.bool false) Z (pu_assign Z (AEv.bool _)) (xe (aw_ret ?_))))
          obtain rfl := some_of h
          have h := onSum_inr h575
          obtain rfl := some_of h
          have h := congrArg some (hx551 _ rfl)
          obtain rfl := some_of h
          have h := onSum_inr h456
          obtain rfl := some_of h
          exact ⟨[.i 0, .bool false], _, [], ⟨(tm Z), (tm Z), trivial⟩, vr, Weak.mkL [] (by decide) trivial trivial, ⟨Z, Z⟩⟩
         ·replace h := ite_f (dec_f hb594) h
          refine aw_skip (aw_region (xm Z Z Z (xa (.i (IntKind.wrap .i64 (s550.n * 10))) Z (pu_int (v := .i (IntKind.wrap .i64 (s550.n * 10))) Z Z (tm Z) (AEv.int _ _) Z) (xm Z Z Z ?_))))
          obtain ⟨x593, x593e, h⟩ := letO_of h
          refine xa (.i x593) Z (APure.eq (pu_int (v := .i (IntKind.wrap .i64 ((IntKind.wrap .i64 (s550.n * 10)) - (IntKind.wrap .i64 (IntKind.wrap .u8 ((bix s_ s550.i) - 48)))))) Z Z (tm Z) (tm Z) Z) (congrArg (AV.int .i64) x593e.symm)) (xm Z Z Z (xe ?_))
          exact ⟨x593, (), (some_of h).symm, Weak.mkL [] (by decide) trivial ⟨tm Z, tm Z, tm Z, tm Z, trivial⟩⟩
   ·replace h := ite_f (dec_f hb598) h
    refine aw_exit ?_
    obtain rfl := some_of h
    have h := congrArg some (hx551 _ rfl)
    exact ⟨s550.n, (), (some_of h).symm, Weak.mkL [] (by decide) trivial ⟨tm Z, tm Z, tm Z, trivial⟩⟩

theorem mewsref01.Add.ok {a : Int} {b : Int} {r : Int × Bool} (h : mewsref01.Add a b = some r) : Go.Lift.Spec prog 46 [.i a, .i b] [] (fun v H => v = .tup [.i r.1, .bool r.2] ∧ H = []) := by
 unfold mewsref01.Add at h
 refine Go.Lift.Spec.of_body (rs := [.tmp 4, .tmp 5]) func46 Z Z (nb Z) Z (xr (xa (.i 0) Z (pu_assign Z (AEv.int _ _)) (xa (.bool false) Z (pu_assign Z (AEv.bool _)) (xe (aw_seq ?_)))))
 obtain ⟨s17, s17e, h18⟩ := letO_of h
 refine aw_meet (ν := Unit) (fun v => [(0, .i a), (1, .i b), (23, .bool s17)]) (fun v => []) ?_ ?_
 ·have h := s17e.symm
  refine aw_region (xm Z Z Z (xa (.bool (decide (0 < b))) Z (pu_int (v := .bool (decide (0 < b))) Z Z (tm Z) (AEv.int _ _) Z) (xm Z Z Z ?_)))
  rcases Bool.eq_false_or_eq_true (decide (0 < b)) with hb20 | hb20
  ·replace h := ite_t (dec_t hb20) h
   refine aops_known 8 Z hb20 (xq Z Z Z Z (xq Z Z Z Z (xp (.i (IntKind.wrap .i64 (9223372036854775807 - b))) Z Z (pu_int (v := .i (IntKind.wrap .i64 (9223372036854775807 - b))) Z Z (AEv.int _ _) (tm Z) Z) (xp (.bool (decide ((IntKind.wrap .i64 (9223372036854775807 - b)) < a))) Z Z (pu_int (v := .bool (decide ((IntKind.wrap .i64 (9223372036854775807 - b)) < a))) Z Z (tm Z) (tm Z) Z) (xa (.bool (decide ((IntKind.wrap .i64 (9223372036854775807 - b)) < a))) Z (pu_pick (b := true) Z (tm Z) (fun _ => (tm Z)) (fun h => nomatch h)) (xm Z Z Z ?_))))))
   rcases Bool.eq_false_or_eq_true (decide ((IntKind.wrap .i64 (9223372036854775807 - b)) < a)) with hb21 | hb21
   ·replace h := ite_t (dec_t hb21) h
    refine aops_known 14 Z hb21 (xn Z Z Z (xn Z Z Z (xn Z Z Z (xv Z Z (xv Z Z (xv Z Z (xv Z Z (xn Z Z Z (xa (.bool true) Z (pu_pick (b := true) Z (tm Z) (fun _ => (AEv.bool _)) (fun h => nomatch h)) ?_)))))))))
    refine xe ?_
    subst h
    exact ⟨(), Weak.mkL [] (by decide) trivial ⟨tm Z, tm Z, tm Z, trivial⟩⟩
   ·replace h := ite_f (dec_f hb21) h
    refine aops_known 14 Z hb21 (xq Z Z Z Z (xp (.bool (decide (b < 0))) Z Z (pu_int (v := .bool (decide (b < 0))) Z Z (tm Z) (AEv.int _ _) Z) (xq Z Z Z Z ?_)))
    rcases Bool.eq_false_or_eq_true (decide (b < 0)) with hb22 | hb22
    ·replace h := ite_t (dec_t hb22) h
     refine aops_known 17 Z hb22 (xq Z Z Z Z (xq Z Z Z Z (xp (.i (IntKind.wrap .i64 ((-9223372036854775808) - b))) Z Z (pu_int (v := .i (IntKind.wrap .i64 ((-9223372036854775808) - b))) Z Z (AEv.int _ _) (tm Z) Z) (xp (.bool (decide (a < (IntKind.wrap .i64 ((-9223372036854775808) - b))))) Z Z (pu_int (v := .bool (decide (a < (IntKind.wrap .i64 ((-9223372036854775808) - b))))) Z Z (tm Z) (tm Z) Z) (xp (.bool (decide (a < (IntKind.wrap .i64 ((-9223372036854775808) - b))))) Z Z (pu_pick (b := true) Z (tm Z) (fun _ => (tm Z)) (fun h => nomatch h)) (xa (.bool (decide (a < (IntKind.wrap .i64 ((-9223372036854775808) - b))))) Z (pu_pick (b := false) Z (tm Z) (fun h => nomatch h) (fun _ => (tm Z))) (xe ?_)))))))
     subst h
     exact ⟨(), Weak.mkL [] (by decide) trivial ⟨tm Z, tm Z, (AEv.le (tm Z) vr), trivial⟩⟩
    ·replace h := ite_f (dec_f hb22) h
     refine aops_known 17 Z hb22 (xn Z Z Z (xn Z Z Z (xn Z Z Z (xn Z Z Z (xp (.bool false) Z Z (pu_pick (b := false) Z (tm Z) (fun h => nomatch h) (fun _ => (AEv.bool _))) (xa (.bool false) Z (pu_pick (b := false) Z (tm Z) (fun h => nomatch h) (fun _ => (tm Z))) (xe ?_)))))))
     subst h
     exact ⟨(), Weak.mkL [] (by decide) trivial ⟨tm Z, tm Z, tm Z, trivial⟩⟩
  ·replace h := ite_f (dec_f hb20) h
   refine aops_known 8 Z hb20 (xn Z Z Z (xn Z Z Z (xn Z Z Z (xn Z Z Z (xa (.bool false) Z (pu_pick (b := false) Z (tm Z) (fun h => nomatch h) (fun _ => (AEv.bool _))) (xm Z Z Z (xq Z Z Z Z (xp (.bool (decide (b < 0))) Z Z (pu_int (v := .bool (decide (b < 0))) Z Z (tm Z) (AEv.int _ _) Z) (xq Z Z Z Z ?_)))))))))
   rcases Bool.eq_false_or_eq_true (decide (b < 0)) with hb23 | hb23
   ·replace h := ite_t (dec_t hb23) h
    refine aops_known 17 Z hb23 (xq Z Z Z Z (xq Z Z Z Z (xp (.i (IntKind.wrap .i64 ((-9223372036854775808) - b))) Z Z (pu_int (v := .i (IntKind.wrap .i64 ((-9223372036854775808) - b))) Z Z (AEv.int _ _) (tm Z) Z) (xp (.bool (decide (a < (IntKind.wrap .i64 ((-9223372036854775808) - b))))) Z Z (pu_int (v := .bool (decide (a < (IntKind.wrap .i64 ((-9223372036854775808) - b))))) Z Z (tm Z) (tm Z) Z) (xp (.bool (decide (a < (IntKind.wrap .i64 ((-9223372036854775808) - b))))) Z Z (pu_pick (b := true) Z (tm Z) (fun _ => (tm Z)) (fun h => nomatch h)) (xa (.bool (decide (a < (IntKind.wrap .i64 ((-9223372036854775808) - b))))) Z (pu_pick (b := false) Z (tm Z) (fun h => nomatch h) (fun _ => (tm Z))) (xe ?_)))))))
    subst h
    exact ⟨(), Weak.mkL [] (by decide) trivial ⟨tm Z, tm Z, (AEv.le (tm Z) vr), trivial⟩⟩
   ·replace h := ite_f (dec_f hb23) h
    refine aops_known 17 Z hb23 (xn Z Z Z (xn Z Z Z (xn Z Z Z (xn Z Z Z (xp (.bool false) Z Z (pu_pick (b := false) Z (tm Z) (fun h => nomatch h) (fun _ => (AEv.bool _))) (xa (.bool false) Z (pu_pick (b := false) Z (tm Z) (fun h => nomatch h) (fun _ => (tm Z))) (xe ?_)))))))
    subst h
    exact ⟨(), Weak.mkL [] (by decide) trivial ⟨tm Z, tm Z, tm Z, trivial⟩⟩
 ·intro _
  have h := h18
  refine aw_cond (b := s17) (tm Z) (fun hb24 => ?_) (fun hb24 => ?_)
  ·replace h := ite_t hb24 h
   refine xr (xa (.i 0) Z (pu_assign Z (AEv.int _ _)) (xa (.bool false) Z (pu_assign Z (AEv.bool _)) (xe (aw_ret ?_))))
   obtain rfl := some_of h
   exact ⟨[.i 0, .bool false], _, [], ⟨(tm Z), (tm Z), trivial⟩, vr, Weak.mkL [] (by decide) trivial trivial, ⟨Z, Z⟩⟩
  ·replace h := ite_fb hb24 h
   refine aw_skip (xr (xm Z Z Z (xm Z Z Z (xa (.i (IntKind.wrap .i64 (a + b))) Z (pu_int (v := .i (IntKind.wrap .i64 (a + b))) Z Z (tm Z) (tm Z) Z) (xm Z Z Z (xa (.bool true) Z (pu_assign Z (AEv.bool _)) (xe (aw_ret ?_))))))))
   obtain rfl := some_of h
   exact ⟨[.i (IntKind.wrap .i64 (a + b)), .bool true], _, [], ⟨(tm Z), (tm Z), trivial⟩, vr, Weak.mkL [] (by decide) trivial trivial, ⟨Z, Z⟩⟩

theorem mewsref20.Add.ok {s_ : List UInt8} {by_ : Int} {r : (List UInt8) × Int} (h : mewsref20.Add s_ by_ = some r) : Go.Lift.Spec prog 32 [.str s_, .i by_] [] (fun v H => v = .tup [.str r.1, .i r.2] ∧ H = []) := by
 unfold mewsref20.Add at h
 refine Go.Lift.Spec.of_body (rs := [.tmp 4, .tmp 5]) func32 Z Z (nb Z) Z (xr (xa (.str ([] : List UInt8)) Z (pu_assign Z (AEv.const Z)) (xa (.i 0) Z (pu_assign Z (AEv.int _ _)) (xe (xr (xm Z Z Z ?_))))))
 obtain ⟨r6, r6e, h⟩ := bind_some h
 refine xc Z (op_call (vs := [.str s_]) (H := []) Z call45 ⟨(tm Z), trivial⟩ (List.Perm.refl _) (mewsref01.Parse.ok r6e) ?_)
 rintro _ _ ⟨rfl, rfl⟩
 refine xm Z Z Z (xa (.i r6.1) Z (pu_extract Z (tm Z) (nb Z) Z) (xa (.bool r6.2) Z (pu_extract Z (tm Z) (nb Z) Z) (xm Z Z Z (xm Z Z Z (xe (aw_seq (xr (xm Z Z Z ?_))))))))
 refine xa (.bool (!r6.2)) Z (pu_not Z (tm Z)) (xe (aw_cond (b := (!r6.2)) (tm Z) (fun hb10 => ?_) (fun hb10 => ?_)))
 ·replace h := ite_t hb10 h
  refine xr (xa (.str ([] : List UInt8)) Z (pu_assign Z (AEv.const Z)) (xa (.i 2) Z (pu_assign Z (AEv.int _ _)) (xe (aw_ret ?_))))
  obtain rfl := some_of h
  exact ⟨[.str ([] : List UInt8), .i 2], _, [], ⟨(tm Z), (tm Z), trivial⟩, vr, Weak.mkL [] (by decide) trivial trivial, ⟨Z, Z⟩⟩
 ·replace h := ite_fb hb10 h
  refine aw_skip (xr (xm Z Z Z (xm Z Z Z ?_)))
  obtain ⟨r7, r7e, h⟩ := bind_some h
  refine xc Z (op_call (vs := [.i r6.1, .i by_]) (H := []) Z call46 ⟨(tm Z), (tm Z), trivial⟩ (List.Perm.refl _) (mewsref01.Add.ok r7e) ?_)
  rintro _ _ ⟨rfl, rfl⟩
  refine xm Z Z Z (xa (.i r7.1) Z (pu_extract Z (tm Z) (nb Z) Z) (xa (.bool r7.2) Z (pu_extract Z (tm Z) (nb Z) Z) (xm Z Z Z (xm Z Z Z (xe (aw_seq (xr (xm Z Z Z ?_))))))))
  refine xa (.bool (!r7.2)) Z (pu_not Z (tm Z)) (xe (aw_cond (b := (!r7.2)) (tm Z) (fun hb9 => ?_) (fun hb9 => ?_)))
  ·replace h := ite_t hb9 h
   refine xr (xa (.str ([] : List UInt8)) Z (pu_assign Z (AEv.const Z)) (xa (.i 13) Z (pu_assign Z (AEv.int _ _)) (xe (aw_ret ?_))))
   obtain rfl := some_of h
   exact ⟨[.str ([] : List UInt8), .i 13], _, [], ⟨(tm Z), (tm Z), trivial⟩, vr, Weak.mkL [] (by decide) trivial trivial, ⟨Z, Z⟩⟩
  ·replace h := ite_fb hb9 h
   refine aw_skip (xr (xm Z Z Z ?_))
   obtain ⟨r8, r8e, h⟩ := bind_some h
   refine xc Z (op_call (vs := [.i r7.1]) (H := []) Z call47 ⟨(tm Z), trivial⟩ (List.Perm.refl _) (mewsref01.Text.ok r8e) ?_)
   rintro _ _ ⟨rfl, rfl⟩
   refine xm Z Z Z (xa (.i 0) Z (pu_assign Z (AEv.int _ _)) (xe (aw_ret ?_)))
   obtain rfl := some_of h
   exact ⟨[.str r8, .i 0], _, [], ⟨(tm Z), (tm Z), trivial⟩, vr, Weak.mkL [] (by decide) trivial trivial, ⟨Z, Z⟩⟩

theorem mewsref22.Add.ok {l : List api.Field} {key : List UInt8} {by_ : Int} {r : (List api.Field) × (List UInt8) × Int} (h : mewsref22.Add l key by_ = some r) : Go.Lift.Spec prog 19 [.sl .no 2 (l.map api.Field.av), .str key, .i by_] [] (fun v H => v = .tup [.sl .no 2 (r.1.map api.Field.av), .str r.2.1, .i r.2.2] ∧ H = []) := by
 unfold mewsref22.Add at h
 refine Go.Lift.Spec.of_body (rs := [.tmp 6, .tmp 7, .tmp 8]) func19 Z Z (nb Z) Z (xr (xa (.sl .full 2 (([] : List api.Field).map api.Field.av)) Z (pu_assign Z (AEv.nil 2 (by decide))) (xa (.str ([] : List UInt8)) Z (pu_assign Z (AEv.const Z)) (xa (.i 0) Z (pu_assign Z (AEv.int _ _)) (xe (xr (xm Z Z Z ?_)))))))
 refine xm Z Z Z ?_
 obtain ⟨r11, r11e, h⟩ := bind_some h
 refine xc Z (op_call (vs := [.sl .no 2 (l.map api.Field.av), .str key]) (H := []) Z call29 ⟨(tm Z), (tm Z), trivial⟩ (List.Perm.refl _) (mewsref22.Has.ok r11e) ?_)
 rintro _ _ ⟨rfl, rfl⟩
 refine xm Z Z Z (xa (.str r11.1) Z (pu_extract Z (tm Z) (nb Z) Z) (xa (.bool r11.2) Z (pu_extract Z (tm Z) (nb Z) Z) (xm Z Z Z (xm Z Z Z (xe ?_)))))
 obtain ⟨s13, s13e, h14⟩ := letO_of h
 refine aw_meet (ν := Unit) (fun v => [(0, .sl .no 2 (l.map api.Field.av)), (1, .str key), (2, .i by_), (9, .str s13)]) (fun v => []) ?_ ?_
 ·have h := s13e.symm
  refine xr (xm Z Z Z (xa (.bool (!r11.2)) Z (pu_not Z (tm Z)) (xe (aw_cond (b := (!r11.2)) (tm Z) (fun hb16 => ?_) (fun hb16 => ?_)))))
  ·replace h := ite_t hb16 h
   refine aw_region (xa (.str [48]) Z (pu_assign Z (AEv.const Z)) (xe ?_))
   subst h
   exact ⟨(), Weak.mkL [] (by decide) trivial ⟨tm Z, tm Z, tm Z, tm Z, trivial⟩⟩
  ·replace h := ite_fb hb16 h
   refine aw_skip ?_
   subst h
   exact ⟨(), Weak.mkL [] (by decide) trivial ⟨tm Z, tm Z, tm Z, tm Z, trivial⟩⟩
 ·intro _
  have h := h14
  refine xr (xm Z Z Z (xm Z Z Z ?_))
  obtain ⟨r17, r17e, h⟩ := bind_some h
  refine xc Z (op_call (vs := [.str s13, .i by_]) (H := []) Z call32 ⟨(tm Z), (tm Z), trivial⟩ (List.Perm.refl _) (mewsref20.Add.ok r17e) ?_)
  rintro _ _ ⟨rfl, rfl⟩
  refine xm Z Z Z (xa (.str r17.1) Z (pu_extract Z (tm Z) (nb Z) Z) (xa (.i r17.2) Z (pu_extract Z (tm Z) (nb Z) Z) (xm Z Z Z (xm Z Z Z (xe (aw_seq (xr (xm Z Z Z ?_))))))))
  refine xa (.bool (!decide (r17.2 = 0))) Z (pu_int (v := .bool (!decide (r17.2 = 0))) Z Z (tm Z) (AEv.int _ _) Z) (xe (aw_cond (b := (!decide (r17.2 = 0))) (tm Z) (fun hb20 => ?_) (fun hb20 => ?_)))
  ·replace h := ite_f (ndec_t hb20) h
   refine xr (xm Z Z Z (xm Z Z Z (xm Z Z Z (xa (.str ([] : List UInt8)) Z (pu_assign Z (AEv.const Z)) (xm Z Z Z (xe (aw_ret ?_)))))))
   obtain rfl := some_of h
   exact ⟨[.sl .no 2 (l.map api.Field.av), .str ([] : List UInt8), .i r17.2], _, [], ⟨(tm Z), (tm Z), (tm Z), trivial⟩, vr, Weak.mkL [] (by decide) trivial trivial, ⟨Z, Z⟩⟩
  ·replace h := ite_t (ndec_f hb20) h
   refine aw_skip (xr (xm Z Z Z (xm Z Z Z (xm Z Z Z (xa (.agg [.str key, .str r17.1]) Z (pu_build (zs := [.str ([] : List UInt8), .str ([] : List UInt8)]) (szs := [1, 1]) (aparts := [(0, .str key), (1, .str r17.1)]) (cs := [.str key, .str r17.1]) Z underlying34 zeroValue34 Z ⟨sizeOf9, sizeOf9, trivial⟩ ⟨Z, (tm Z), ⟨Z, (tm Z), trivial⟩⟩ Z) ?_)))))
   obtain ⟨r18, r18e, h⟩ := bind_some h
   refine xc Z (op_call (vs := [.sl .no 2 (l.map api.Field.av), .agg [.str key, .str r17.1]]) (H := []) Z call30 ⟨(tm Z), (tm Z), trivial⟩ (List.Perm.refl _) (mewsref19.Put.ok r18e) ?_)
   rintro _ _ ⟨t19, rfl, rfl⟩
   refine xm Z Z Z (xm Z Z Z (xm Z Z Z (xa (.i 0) Z (pu_assign Z (AEv.int _ _)) (xe (aw_ret ?_)))))
   obtain rfl := some_of h
   exact ⟨[.sl .no 2 (r18.map api.Field.av), .str r17.1, .i 0], _, [], ⟨(AEv.le (tm Z) (AV.Le.forget _ _ _)), (tm Z), (tm Z), trivial⟩, vr, Weak.mkL [] (by decide) trivial trivial, ⟨Z, Z⟩⟩

theorem mewsref22.Get.ok {l : List api.Field} {keys : List (List UInt8)} {r : List api.Field} (h : mewsref22.Get l keys = some r) : Go.Lift.Spec prog 21 [.sl .no 2 (l.map api.Field.av), .sl .no 1 (keys.map AV.str)] [] (fun v H => ∃ n0, v = .sl (.own n0) 2 (r.map api.Field.av) ∧ H = [(n0, .spare)]) := by
 unfold mewsref22.Get at h
 refine Go.Lift.Spec.of_body (rs := [.tmp 4]) func21 Z Z (nb Z) Z (xr (xa (.sl .full 2 (([] : List api.Field).map api.Field.av)) Z (pu_assign Z (AEv.nil 2 (by decide))) (xe (xr (xa (.sl .full 2 (([] : List api.Field).map api.Field.av)) Z (pu_assign Z (AEv.nil 2 (by decide))) (xe ?_))))))
 obtain ⟨s188, s188e, h190⟩ := bind_some h
 refine aw_meet (ν := Nat) (fun v => [(5, .sl (.own v) 2 (s188.map api.Field.av))]) (fun v => [(v, .spare)]) ?_ ?_
 ·have h := s188e
  refine xr (xa (.i 0) Z (pu_assign Z (AEv.int _ _)) (xe (aw_block (aw_claim 5 (tm Z) fun t252 => (aw_while (σ := mewsref22.Get.S0) (ν := Nat) (mewsref22.Get.body0 keys l) (fun s230 v => [(0, .sl .no 2 (l.map api.Field.av)), (1, .sl .no 1 (keys.map AV.str)), (5, .sl (.own v) 2 (s230.out.map api.Field.av)), (6, .i s230.i)]) (fun s230 v => [(v, .spare)]) ⟨([] : List api.Field), 0⟩ t252 _ h (Weak.mkL [0] (by decide) ⟨⟨_, Z, Z⟩, trivial⟩ ⟨tm Z, tm Z, tm Z, tm Z, trivial⟩) ?_)))))
  rintro s230 n231 x233 h hx232
  unfold mewsref22.Get.body0 at h
  refine aw_seq (xr (xm Z Z Z (xm Z Z Z (xa (.i (keys.length : Int)) Z (pu_lenM Z underlying25 (tm Z)) (xa (.bool (decide (s230.i < (keys.length : Int)))) Z (pu_int (v := .bool (decide (s230.i < (keys.length : Int)))) Z Z (tm Z) (tm Z) Z) (xe (aw_cond (b := decide (s230.i < (keys.length : Int))) (tm Z) (fun hb251 => ?_) (fun hb251 => ?_))))))))
  ·replace h := ite_t (dec_t hb251) h
   refine aw_skip ?_
   obtain ⟨s241, s241e, h243⟩ := bind_some h
   refine aw_meet (ν := Nat) (fun v => [(0, .sl .no 2 (l.map api.Field.av)), (1, .sl .no 1 (keys.map AV.str)), (5, .sl (.own v) 2 (s241.map api.Field.av)), (6, .i s230.i)]) (fun v => [(v, .spare)]) ?_ ?_
   ·have h := s241e
    refine aw_block (xr (xm Z Z Z (xm Z Z Z (xm Z Z Z ?_))))
    obtain ⟨c245, h⟩ := need_of h
    refine xa (.vptr [.str (ix keys s230.i)]) Z (pu_indexAddrM Z underlying25 sizeOf9 (tm Z) (tm Z) c245 Z) (xc Z (op_loadV1 Z isAgg9 (tm Z) Z ?_))
    obtain ⟨r246, r246e, h⟩ := bind_some h
    refine xc Z (op_call (vs := [.sl .no 2 (l.map api.Field.av), .str (ix keys s230.i)]) (H := []) Z call29 ⟨(tm Z), (tm Z), trivial⟩ (List.Perm.refl _) (mewsref22.Has.ok r246e) ?_)
    rintro _ _ ⟨rfl, rfl⟩
    refine xm Z Z Z (xa (.str r246.1) Z (pu_extract Z (tm Z) (nb Z) Z) (xa (.bool r246.2) Z (pu_extract Z (tm Z) (nb Z) Z) (xm Z Z Z (xm Z Z Z (xe (xr (xm Z Z Z (xe ?_))))))))
    refine aw_cond (b := r246.2) (tm Z) (fun hb250 => ?_) (fun hb250 => ?_)
    ·replace h := ite_t hb250 h
     refine aw_region (xm Z Z Z (xm Z Z Z (xm Z Z Z ?_)))
     obtain ⟨c247, h⟩ := need_of h
     refine xa (.vptr [.str (ix keys s230.i)]) Z (pu_indexAddrM Z underlying25 sizeOf9 (tm Z) (tm Z) c247 Z) (xc Z (op_loadV1 Z isAgg9 (tm Z) Z (xm Z Z Z (xa (.agg [.str (ix keys s230.i), .str r246.1]) Z (pu_build (zs := [.str ([] : List UInt8), .str ([] : List UInt8)]) (szs := [1, 1]) (aparts := [(0, .str (ix keys s230.i)), (1, .str r246.1)]) (cs := [.str (ix keys s230.i), .str r246.1]) Z underlying34 zeroValue34 Z ⟨sizeOf9, sizeOf9, trivial⟩ ⟨Z, (tm Z), ⟨Z, (tm Z), trivial⟩⟩ Z) (xc Z (op_buildSlice (xs := ([({ Key := ix keys s230.i, Val := r246.1 } : api.Field)] : List api.Field).map api.Field.av) (aparts := [(0, .agg [.str (ix keys s230.i), .str r246.1])]) Z underlying23 sizeOf34 zeroValue34 (by decide) (by decide) ⟨Z, (tm Z), trivial⟩ Z Z Z ?_))))))
     obtain ⟨c248, h⟩ := need_of h
     refine xc Z (op_appendOM (q := 0) Z underlying23 underlying23 (.inl Z) typeInfo34 Z Z Z (by decide) (tm Z) Z (given_sl (tm Z)) c248 ?_)
     intro t249
     refine xm Z Z Z (xe ?_)
     obtain rfl := some_of h
     exact ⟨t249, Weak.mkL [0] (by decide) ⟨⟨_, Z, Z⟩, trivial⟩ ⟨tm Z, tm Z, (AEv.le (tm Z) vr), tm Z, trivial⟩⟩
    ·replace h := ite_fb hb250 h
     refine aw_skip ?_
     obtain rfl := some_of h
     exact ⟨n231, Weak.mkL [0] (by decide) ⟨⟨_, Z, Z⟩, trivial⟩ ⟨tm Z, tm Z, tm Z, tm Z, trivial⟩⟩
   ·intro n242
    have h := h243
    refine aw_region (xm Z Z Z (xa (.i (IntKind.wrap .i64 (s230.i + 1))) Z (pu_int (v := .i (IntKind.wrap .i64 (s230.i + 1))) Z Z (tm Z) (AEv.int _ _) Z) (xm Z Z Z (xe ?_))))
    obtain rfl := some_of h
    exact ⟨_, n242, Z, Weak.mkL [0] (by decide) ⟨⟨_, Z, Z⟩, trivial⟩ ⟨tm Z, tm Z, tm Z, (AEv.le (tm Z) vr), trivial⟩⟩
  ·replace h := ite_f (dec_f hb251) h
   refine aw_exit ?_
   obtain rfl := some_of h
   have h := congrArg some (hx232 _ rfl)
   obtain rfl := some_of h
   exact ⟨n231, Weak.mkL [0] (by decide) ⟨⟨_, Z, Z⟩, trivial⟩ ⟨tm Z, trivial⟩⟩
 ·intro n189
  have h := h190
  refine xr (xm Z Z Z (xm Z Z Z (xe (aw_ret ?_))))
  obtain rfl := some_of h
  exact ⟨[.sl (.own n189) 2 (s188.map api.Field.av)], _, [(n189, .spare)], ⟨(tm Z), trivial⟩, vr, Weak.mkL [0] (by decide) ⟨⟨_, Z, Z⟩, trivial⟩ trivial, ⟨n189, Z, Z⟩⟩

theorem mewslaw22.FieldPlays.ok {seed : Int} {l : List mewslaw22.Op} {r : Bool} (h : mewslaw22.FieldPlays seed l = some r) : Go.Lift.Spec prog 4 [.int .u64 seed, .sl .no 3 (l.map mewslaw22.Op.av)] [] (fun v H => v = .bool r ∧ H = []) := by
 unfold mewslaw22.FieldPlays at h
 refine Go.Lift.Spec.of_body (rs := [.tmp 4]) func4 Z Z (nb Z) Z (aw_regNew fun rg => (xr (xa (.bool false) Z (pu_assign Z (AEv.bool _)) (xe (aw_seq (xr (xm Z Z Z ?_)))))))
 obtain ⟨r366, r366e, h⟩ := bind_some h
 refine xc Z (op_call (vs := [.sl .no 3 (l.map mewslaw22.Op.av)]) (H := []) Z call13 ⟨(tm Z), trivial⟩ (List.Perm.refl _) (mewslaw22.Far.ok r366e) ?_)
 rintro _ _ ⟨rfl, rfl⟩
 refine xe (aw_cond (b := r366) (tm Z) (fun hb730 => ?_) (fun hb730 => ?_))
 ·replace h := ite_t hb730 h
  refine aw_seq (aw_region ?_)
  obtain ⟨r367, r367e, h⟩ := bind_some h
  refine xc Z (op_call (vs := []) (H := []) Z call7 trivial (List.Perm.refl _) (mewslaw22.alive.ok r367e) ?_)
  rintro _ _ ⟨rfl, rfl⟩
  refine xm Z Z Z (xe (aw_ret ?_))
  obtain rfl := some_of h
  exact ⟨[.bool r367], _, [], ⟨(tm Z), trivial⟩, vr, Weak.mkL [] (by decide) trivial trivial, ⟨Z, Z⟩⟩
 ·replace h := ite_fb hb730 h
  refine aw_skip (xr (xm Z Z Z ?_))
  obtain ⟨r368, r368e, h⟩ := bind_some h
  refine xc Z (op_call (vs := [.int .u64 seed]) (H := [(rg, .abs (regAbs ([] : Reg)))]) Z call14 ⟨(tm Z), trivial⟩ (List.Perm.refl _) (dict.New_string.ok r368e rg) ?_)
  rintro _ _ ⟨rfl, rfl⟩
  refine xm Z Z Z (xe (xr (xa (.sl .full 2 (([] : List api.Field).map api.Field.av)) Z (pu_assign Z (AEv.nil 2 (by decide))) (xe ?_))))
  obtain ⟨s729, s729e, h541⟩ := bind_some h
  refine aw_join (σ := (List api.Field) × Reg) (ν := Unit) (fun u v => [(0, .int .u64 seed), (6, .sl .no 2 (u.1.map api.Field.av))]) (fun u v => [(rg, .abs (regAbs u.2))]) (fun u => s729 = .inl u) ?_ ?_
  ·intro s540
   intro _
   rintro rfl
   have h := onSum_inl h541
   obtain ⟨s720, s720e, h721⟩ := bind_some h
   refine aw_meet (ν := Unit) (fun v => [(4, .bool s720.1)]) (fun v => [(rg, .abs (regAbs s720.2))]) ?_ ?_
   ·have h := s720e
    refine aw_region (xm Z Z Z (xa (.int .u64 (IntKind.wrap .u64 (seed + 1))) Z (pu_int (v := .int .u64 (IntKind.wrap .u64 (seed + 1))) Z Z (tm Z) (AEv.int _ _) Z) (xm Z Z Z ?_)))
    obtain ⟨r723, r723e, h⟩ := bind_some h
    refine xc Z (op_call (vs := [.int .u64 (IntKind.wrap .u64 (seed + 1)), .sl .no 2 (s540.1.map api.Field.av)]) (H := [(rg, .abs (regAbs s540.2))]) Z call8 ⟨(tm Z), (tm Z), trivial⟩ (List.Perm.refl _) (field.Make.ok r723e rg) ?_)
    rintro _ _ ⟨rfl, rfl⟩
    obtain ⟨r724, r724e, h⟩ := bind_some h
    refine xc Z (op_call (vs := [.rp rg r723.1]) (H := [(rg, .abs (regAbs r723.2))]) Z call9 ⟨(tm Z), trivial⟩ (List.Perm.refl _) (field.All.ok r724e rg) ?_)
    rintro _ _ ⟨t725, rfl, rfl⟩
    refine xm Z Z Z ?_
    obtain ⟨r726, r726e, h⟩ := bind_some h
    refine xc Z (op_call (vs := [.sl .no 2 (r724.1.map api.Field.av), .sl .no 2 (s540.1.map api.Field.av)]) (H := []) Z call20 ⟨(AEv.le (tm Z) (AV.Le.forget _ _ _)), (tm Z), trivial⟩ (List.Perm.refl _) (mewsref22.Same.ok r726e) ?_)
    rintro _ _ ⟨rfl, rfl⟩
    refine xm Z Z Z ?_
    rcases Bool.eq_false_or_eq_true r726 with hb727 | hb727
    ·replace h := ite_t hb727 h
     refine aops_known 115 Z hb727 ?_
     obtain ⟨r728, r728e, h⟩ := bind_some h
     refine xg Z Z (op_call (vs := []) (H := []) Z call7 trivial (List.Perm.refl _) (mewslaw22.alive.ok r728e) ?_)
     rintro _ _ ⟨rfl, rfl⟩
     refine xa (.bool r728) Z (pu_pick (b := true) Z (tm Z) (fun _ => (tm Z)) (fun h => nomatch h)) (xm Z Z Z (xe ?_))
     obtain rfl := some_of h
     exact ⟨(), Weak.mkL [0] (by decide) ⟨⟨_, Z, Z⟩, trivial⟩ ⟨tm Z, trivial⟩⟩
    ·replace h := ite_fb hb727 h
     refine aops_known 115 Z hb727 (xn Z Z Z (xa (.bool false) Z (pu_pick (b := false) Z (tm Z) (fun h => nomatch h) (fun _ => (AEv.bool _))) (xm Z Z Z (xe ?_))))
     obtain rfl := some_of h
     exact ⟨(), Weak.mkL [0] (by decide) ⟨⟨_, Z, Z⟩, trivial⟩ ⟨tm Z, trivial⟩⟩
   ·intro _
    have h := h721
    refine aw_ret ?_
    obtain rfl := some_of h
    exact ⟨[.bool s720.1], _, [], ⟨(tm Z), trivial⟩, vr, Weak.mkL [] (by decide) trivial trivial, ⟨Z, Z⟩⟩
  ·have h := s729e
   refine xr (xm Z Z Z (xa (.i (l.length : Int)) Z (pu_lenM Z underlying40 (tm Z)) (xa (.i 0) Z (pu_move Z (AEv.int _ _)) (xe (aw_block (aw_while (σ := mewslaw22.FieldPlays.S0) (ν := Unit) (mewslaw22.FieldPlays.body0 l r368) (fun s655 v => [(0, .int .u64 seed), (5, .rp rg r368.1), (6, .sl .no 2 (s655.r.map api.Field.av)), (22, .sl .no 3 (l.map mewslaw22.Op.av)), (23, .i (l.length : Int)), (24, .i s655.t24)]) (fun s655 v => [(rg, .abs (regAbs s655.mem))]) ⟨([] : List api.Field), 0, r368.2⟩ () _ h (Weak.mkL [0] (by decide) ⟨⟨_, Z, Z⟩, trivial⟩ ⟨tm Z, tm Z, (AEv.le (tm Z) (AV.Le.forget _ _ _)), tm Z, tm Z, tm Z, trivial⟩) ?_))))))
   rintro s655 _ x657 h hx656
   unfold mewslaw22.FieldPlays.body0 at h
   refine xr (xa (.bool (decide (s655.t24 < (l.length : Int)))) Z (pu_int (v := .bool (decide (s655.t24 < (l.length : Int)))) Z Z (tm Z) (tm Z) Z) (xe (aw_seq (aw_cond (b := decide (s655.t24 < (l.length : Int))) (tm Z) (fun hb713 => ?_) (fun hb713 => ?_)))))
   ·replace h := ite_t (dec_t hb713) h
    refine aw_skip (aw_seq (aw_block (aw_seq (aw_region ?_))))
    obtain ⟨c659, h⟩ := need_of h
    refine xa (.vptr [.i (ix l s655.t24).Kind, .sl .no 2 ((ix l s655.t24).Fields.map api.Field.av), .i (ix l s655.t24).By]) Z (pu_indexAddrM Z underlying40 sizeOf44 (tm Z) (tm Z) c659 Z) (xc Z (op_loadVN Z isAgg44 sizeOf44 (tm Z) (nb Z) Z (xc Z (op_alloc (cs := [.i 0, .sl .full 2 (([] : List api.Field).map api.Field.av), .i 0]) (v := .agg [.i 0, .sl .full 2 (([] : List api.Field).map api.Field.av), .i 0]) Z zeroValue44 Z Z Z ?_))))
    intro p660
    refine ac0 Z Z (op_store (i := 0) (cs' := [.i (ix l s655.t24).Kind, .sl .no 2 ((ix l s655.t24).Fields.map api.Field.av), .i (ix l s655.t24).By]) Z sizeOf44 (tm Z) (v := .agg [.i (ix l s655.t24).Kind, .sl .no 2 ((ix l s655.t24).Fields.map api.Field.av), .i (ix l s655.t24).By]) (tm Z) Z Z Z (nb Z) Z (xe (xr (xa (.ptr p660 1) Z (fa Z underlying44 Z sizeOf23 Z Z Z) (xc Z (op_load1 (i := 0) Z isAgg23 (tm Z) Z Z ?_))))))
    obtain ⟨r661, r661e, h⟩ := bind_some h
    refine xc Z (op_call (vs := [.sl .no 2 ((ix l s655.t24).Fields.map api.Field.av)]) (H := []) Z call10 ⟨(tm Z), trivial⟩ (List.Perm.refl _) (mewslaw22.keys.ok r661e) ?_)
    rintro _ _ ⟨t662, rfl, rfl⟩
    refine xm Z Z Z (xa (.sl (.own t662) 1 (r661.1.map AV.str)) Z (pu_extract Z (tm Z) (nb Z) Z) (xa (.str r661.2) Z (pu_extract Z (tm Z) (nb Z) Z) (xm Z Z Z (xm Z Z Z (xe (xr (xa (.i 0) Z (pu_assign Z (AEv.int _ _)) (xa (.i 0) Z (pu_assign Z (AEv.int _ _)) ?_))))))))
    refine xe (xr (xa (.str ([] : List UInt8)) Z (pu_assign Z (AEv.const Z)) (xa (.str ([] : List UInt8)) Z (pu_assign Z (AEv.const Z)) (xe (xr (xa (.i 0) Z (pu_assign Z (AEv.int _ _)) (xa (.i 0) Z (pu_assign Z (AEv.int _ _)) ?_)))))))
    refine xe ?_
    obtain ⟨s712, s712e, h679⟩ := bind_some h
    refine aw_join (σ := (List api.Field) × Int × Int × (List UInt8) × (List UInt8) × Int × Int × Reg) (ν := Unit) (fun u v => [(0, .int .u64 seed), (5, .rp rg r368.1), (6, .sl .no 2 (u.1.map api.Field.av)), (11, .i u.2.1), (12, .i u.2.2.1), (13, .str u.2.2.2.1), (14, .str u.2.2.2.2.1), (15, .i u.2.2.2.2.2.1), (16, .i u.2.2.2.2.2.2.1), (22, .sl .no 3 (l.map mewslaw22.Op.av)), (23, .i (l.length : Int)), (24, .i s655.t24)]) (fun u v => [(rg, .abs (regAbs u.2.2.2.2.2.2.2))]) (fun u => s712 = .inl u) ?_ ?_
    ·intro s678
     intro _
     rintro rfl
     have h := onSum_inl h679
     obtain ⟨s702, s702e, h703⟩ := bind_some h
     refine aw_meet (ν := Unit) (fun v => [(0, .int .u64 seed), (5, .rp rg r368.1), (6, .sl .no 2 (s678.1.map api.Field.av)), (22, .sl .no 3 (l.map mewslaw22.Op.av)), (23, .i (l.length : Int)), (24, .i s655.t24), (106, .bool s702.1)]) (fun v => [(rg, .abs (regAbs s702.2))]) ?_ ?_
     ·have h := s702e
      refine aw_region (xm Z Z Z (xm Z Z Z (xa (.bool (!decide (s678.2.1 = s678.2.2.1))) Z (pu_int (v := .bool (!decide (s678.2.1 = s678.2.2.1))) Z Z (tm Z) (tm Z) Z) (xm Z Z Z ?_))))
      rcases Bool.eq_false_or_eq_true (!decide (s678.2.1 = s678.2.2.1)) with hb705 | hb705
      ·replace h := ite_f (ndec_t hb705) h
       refine aops_known 90 Z hb705 (xn Z Z Z (xn Z Z Z (xn Z Z Z (xa (.bool true) Z (pu_pick (b := true) Z (tm Z) (fun _ => (AEv.bool _)) (fun h => nomatch h)) (xm Z Z Z (xn Z Z Z (xn Z Z Z (xn Z Z Z (xa (.bool true) Z (pu_pick (b := true) Z (tm Z) (fun _ => (AEv.bool _)) (fun h => nomatch h)) ?_)))))))))
       refine xm Z Z Z (xn Z Z Z (xn Z Z Z (xn Z Z Z (xn Z Z Z (xn Z Z Z (xa (.bool true) Z (pu_pick (b := true) Z (tm Z) (fun _ => (AEv.bool _)) (fun h => nomatch h)) (xe ?_)))))))
       obtain rfl := some_of h
       exact ⟨(), Weak.mkL [0] (by decide) ⟨⟨_, Z, Z⟩, trivial⟩ ⟨tm Z, tm Z, tm Z, tm Z, tm Z, tm Z, tm Z, trivial⟩⟩
      ·replace h := ite_t (ndec_f hb705) h
       refine aops_known 90 Z hb705 (xq Z Z Z Z (xq Z Z Z Z (xp (.bool (!decide (s678.2.2.2.1 = s678.2.2.2.2.1))) Z Z (pu_str (v := .bool (!decide (s678.2.2.2.1 = s678.2.2.2.2.1))) Z Z (tm Z) (tm Z) Z) (xa (.bool (!decide (s678.2.2.2.1 = s678.2.2.2.2.1))) Z (pu_pick (b := false) Z (tm Z) (fun h => nomatch h) (fun _ => (tm Z))) (xm Z Z Z ?_)))))
       rcases Bool.eq_false_or_eq_true (!decide (s678.2.2.2.1 = s678.2.2.2.2.1)) with hb706 | hb706
       ·replace h := ite_f (ndec_t hb706) h
        refine aops_known 95 Z hb706 (xn Z Z Z (xn Z Z Z (xn Z Z Z (xa (.bool true) Z (pu_pick (b := true) Z (tm Z) (fun _ => (AEv.bool _)) (fun h => nomatch h)) (xm Z Z Z (xn Z Z Z (xn Z Z Z (xn Z Z Z (xn Z Z Z ?_)))))))))
        refine xn Z Z Z (xa (.bool true) Z (pu_pick (b := true) Z (tm Z) (fun _ => (AEv.bool _)) (fun h => nomatch h)) (xe ?_))
        obtain rfl := some_of h
        exact ⟨(), Weak.mkL [0] (by decide) ⟨⟨_, Z, Z⟩, trivial⟩ ⟨tm Z, tm Z, tm Z, tm Z, tm Z, tm Z, tm Z, trivial⟩⟩
       ·replace h := ite_t (ndec_f hb706) h
        refine aops_known 95 Z hb706 (xq Z Z Z Z (xq Z Z Z Z (xp (.bool (!decide (s678.2.2.2.2.2.1 = s678.2.2.2.2.2.2.1))) Z Z (pu_int (v := .bool (!decide (s678.2.2.2.2.2.1 = s678.2.2.2.2.2.2.1))) Z Z (tm Z) (tm Z) Z) (xa (.bool (!decide (s678.2.2.2.2.2.1 = s678.2.2.2.2.2.2.1))) Z (pu_pick (b := false) Z (tm Z) (fun h => nomatch h) (fun _ => (tm Z))) (xm Z Z Z ?_)))))
        rcases Bool.eq_false_or_eq_true (!decide (s678.2.2.2.2.2.1 = s678.2.2.2.2.2.2.1)) with hb707 | hb707
        ·replace h := ite_f (ndec_t hb707) h
         refine aops_known 100 Z hb707 (xn Z Z Z (xn Z Z Z (xn Z Z Z (xn Z Z Z (xn Z Z Z (xa (.bool true) Z (pu_pick (b := true) Z (tm Z) (fun _ => (AEv.bool _)) (fun h => nomatch h)) (xe ?_)))))))
         obtain rfl := some_of h
         exact ⟨(), Weak.mkL [0] (by decide) ⟨⟨_, Z, Z⟩, trivial⟩ ⟨tm Z, tm Z, tm Z, tm Z, tm Z, tm Z, tm Z, trivial⟩⟩
        ·replace h := ite_t (ndec_f hb707) h
         refine aops_known 100 Z hb707 (xq Z Z Z Z ?_)
         obtain ⟨r708, r708e, h⟩ := bind_some h
         refine xg Z Z (op_call (vs := [.rp rg r368.1]) (H := [(rg, .abs (regAbs s678.2.2.2.2.2.2.2))]) Z call9 ⟨(tm Z), trivial⟩ (List.Perm.refl _) (field.All.ok r708e rg) ?_)
         rintro _ _ ⟨t709, rfl, rfl⟩
         refine xq Z Z Z Z ?_
         obtain ⟨r710, r710e, h⟩ := bind_some h
         refine xg Z Z (op_call (vs := [.sl .no 2 (r708.1.map api.Field.av), .sl .no 2 (s678.1.map api.Field.av)]) (H := []) Z call20 ⟨(AEv.le (tm Z) (AV.Le.forget _ _ _)), (tm Z), trivial⟩ (List.Perm.refl _) (mewsref22.Same.ok r710e) ?_)
         rintro _ _ ⟨rfl, rfl⟩
         refine xp (.bool (!r710)) Z Z (pu_not Z (tm Z)) (xa (.bool (!r710)) Z (pu_pick (b := false) Z (tm Z) (fun h => nomatch h) (fun _ => (tm Z))) (xe ?_))
         obtain rfl := some_of h
         exact ⟨(), Weak.mkL [0] (by decide) ⟨⟨_, Z, Z⟩, trivial⟩ ⟨tm Z, tm Z, tm Z, tm Z, tm Z, tm Z, tm Z, trivial⟩⟩
     ·intro _
      have h := h703
      refine aw_cond (b := s702.1) (tm Z) (fun hb711 => ?_) (fun hb711 => ?_)
      ·replace h := ite_t hb711 h
       refine xr (xa (.bool false) Z (pu_assign Z (AEv.bool _)) (xe (aw_ret ?_)))
       obtain rfl := some_of h
       have h := congrArg some (hx656 _ rfl)
       obtain rfl := some_of h
       have h := onSum_inr h541
       obtain rfl := some_of h
       exact ⟨[.bool false], _, [], ⟨(tm Z), trivial⟩, vr, Weak.mkL [] (by decide) trivial trivial, ⟨Z, Z⟩⟩
      ·replace h := ite_fb hb711 h
       refine aw_skip (aw_region (xa (.i (IntKind.wrap .i64 (s655.t24 + 1))) Z (pu_int (v := .i (IntKind.wrap .i64 (s655.t24 + 1))) Z Z (tm Z) (AEv.int _ _) Z) (xm Z Z Z (xe ?_))))
       obtain rfl := some_of h
       exact ⟨_, (), Z, Weak.mkL [0] (by decide) ⟨⟨_, Z, Z⟩, trivial⟩ ⟨tm Z, tm Z, tm Z, tm Z, tm Z, (AEv.le (tm Z) vr), trivial⟩⟩
    ·have h := s712e
     refine xr (xa (.ptr p660 0) Z (fa Z underlying44 Z sizeOf3 Z Z Z) (xc Z (op_load1 (i := 1) Z isAgg3 (tm Z) Z Z (xe (aw_block (xr (xa (.bool (decide ((ix l s655.t24).Kind = 0))) Z (pu_int (v := .bool (decide ((ix l s655.t24).Kind = 0))) Z Z (tm Z) (AEv.int _ _) Z) (xm Z Z Z ?_))))))))
     refine xe (aw_cond (b := decide ((ix l s655.t24).Kind = 0)) (tm Z) (fun hb695 => ?_) (fun hb695 => ?_))
     ·replace h := ite_t (dec_t hb695) h
      refine xr (xm Z Z Z (xa (.ptr p660 1) Z (fa Z underlying44 Z sizeOf23 Z Z Z) (xc Z (op_load1 (i := 1) Z isAgg23 (tm Z) Z Z ?_))))
      obtain ⟨r681, r681e, h⟩ := bind_some h
      refine aops_weak (weak_pick [2, 0, 1] (by decide) Z) (xc Z (op_call (vs := [.rp rg r368.1, .sl .no 2 ((ix l s655.t24).Fields.map api.Field.av)]) (H := [(rg, .abs (regAbs s655.mem))]) Z call15 ⟨(tm Z), (tm Z), trivial⟩ (List.Perm.refl _) (field.Put.ok r681e rg) ?_))
      rintro _ _ ⟨rfl, rfl⟩
      refine xm Z Z Z (xe (aw_region (xm Z Z Z (xa (.ptr p660 1) Z (fa Z underlying44 Z sizeOf23 Z Z Z) (xc Z (op_load1 (i := 2) Z isAgg23 (tm Z) Z Z ?_))))))
      obtain ⟨r682, r682e, h⟩ := bind_some h
      refine xc Z (op_call (vs := [.sl .no 2 (s655.r.map api.Field.av), .sl .no 2 ((ix l s655.t24).Fields.map api.Field.av)]) (H := []) Z call16 ⟨(tm Z), (tm Z), trivial⟩ (List.Perm.refl _) (mewsref22.Put.ok r682e) ?_)
      rintro _ _ ⟨rfl, rfl⟩
      refine xm Z Z Z (xa (.sl .no 2 (r682.1.map api.Field.av)) Z (pu_extract Z (tm Z) (nb Z) Z) (xa (.i r682.2) Z (pu_extract Z (tm Z) (nb Z) Z) (xm Z Z Z (xm Z Z Z (xe ?_)))))
      exact ⟨(r682.1, r681.1, r682.2, ([] : List UInt8), ([] : List UInt8), 0, 0, r681.2), (), (some_of h).symm, Weak.mkL [0] (by decide) ⟨⟨_, Z, Z⟩, trivial⟩ ⟨tm Z, tm Z, tm Z, tm Z, tm Z, tm Z, tm Z, tm Z, tm Z, tm Z, tm Z, tm Z, trivial⟩⟩
     ·replace h := ite_f (dec_f hb695) h
      refine xr (xa (.bool (decide ((ix l s655.t24).Kind = 1))) Z (pu_int (v := .bool (decide ((ix l s655.t24).Kind = 1))) Z Z (tm Z) (AEv.int _ _) Z) (xm Z Z Z (xe (aw_cond (b := decide ((ix l s655.t24).Kind = 1)) (tm Z) (fun hb694 => ?_) (fun hb694 => ?_)))))
      ·replace h := ite_t (dec_t hb694) h
       refine xr (xm Z Z Z (xm Z Z Z ?_))
       obtain ⟨r683, r683e, h⟩ := bind_some h
       refine aops_weak (weak_pick [2, 0, 1] (by decide) Z) (xc Z (op_call (vs := [.rp rg r368.1, .sl .no 1 (r661.1.map AV.str)]) (H := [(rg, .abs (regAbs s655.mem))]) Z call12 ⟨(tm Z), (AEv.le (tm Z) (AV.Le.forget _ _ _)), trivial⟩ (List.Perm.refl _) (field.Drop.ok r683e rg) ?_))
       rintro _ _ ⟨rfl, rfl⟩
       refine xm Z Z Z (xe (aw_region (xm Z Z Z (xm Z Z Z ?_))))
       obtain ⟨r684, r684e, h⟩ := bind_some h
       refine xc Z (op_call (vs := [.sl .no 2 (s655.r.map api.Field.av), .sl .no 1 (r661.1.map AV.str)]) (H := []) Z call17 ⟨(tm Z), (AEv.le (tm Z) (AV.Le.forget _ _ _)), trivial⟩ (List.Perm.refl _) (mewsref22.Drop.ok r684e) ?_)
       rintro _ _ ⟨rfl, rfl⟩
       refine xm Z Z Z (xa (.sl .no 2 (r684.1.map api.Field.av)) Z (pu_extract Z (tm Z) (nb Z) Z) (xa (.i r684.2) Z (pu_extract Z (tm Z) (nb Z) Z) (xm Z Z Z (xm Z Z Z (xe ?_)))))
       exact ⟨(r684.1, r683.1, r684.2, ([] : List UInt8), ([] : List UInt8), 0, 0, r683.2), (), (some_of h).symm, Weak.mkL [0] (by decide) ⟨⟨_, Z, Z⟩, trivial⟩ ⟨tm Z, tm Z, tm Z, tm Z, tm Z, tm Z, tm Z, tm Z, tm Z, tm Z, tm Z, tm Z, trivial⟩⟩
      ·replace h := ite_f (dec_f hb694) h
       refine xr (xa (.bool (decide ((ix l s655.t24).Kind = 2))) Z (pu_int (v := .bool (decide ((ix l s655.t24).Kind = 2))) Z Z (tm Z) (AEv.int _ _) Z) (xm Z Z Z (xe (aw_cond (b := decide ((ix l s655.t24).Kind = 2)) (tm Z) (fun hb693 => ?_) (fun hb693 => ?_)))))
       ·replace h := ite_t (dec_t hb693) h
        refine xr (xm Z Z Z (xm Z Z Z (xa (.ptr p660 2) Z (fa Z underlying44 Z sizeOf2 Z Z Z) (xc Z (op_load1 (i := 1) Z isAgg2 (tm Z) Z Z ?_)))))
        obtain ⟨r685, r685e, h⟩ := bind_some h
        refine aops_weak (weak_pick [2, 0, 1] (by decide) Z) (xc Z (op_call (vs := [.rp rg r368.1, .str r661.2, .i (ix l s655.t24).By]) (H := [(rg, .abs (regAbs s655.mem))]) Z call18 ⟨(tm Z), (tm Z), (tm Z), trivial⟩ (List.Perm.refl _) (field.Add.ok r685e rg) ?_))
        rintro _ _ ⟨rfl, rfl⟩
        refine xm Z Z Z (xa (.str r685.1) Z (pu_extract Z (tm Z) (nb Z) Z) (xa (.i r685.2.1) Z (pu_extract Z (tm Z) (nb Z) Z) (xm Z Z Z (xm Z Z Z (xe (aw_region (xm Z Z Z (xm Z Z Z (xa (.ptr p660 2) Z (fa Z underlying44 Z sizeOf2 Z Z Z) ?_)))))))))
        refine xc Z (op_load1 (i := 2) Z isAgg2 (tm Z) Z Z ?_)
        obtain ⟨r686, r686e, h⟩ := bind_some h
        refine xc Z (op_call (vs := [.sl .no 2 (s655.r.map api.Field.av), .str r661.2, .i (ix l s655.t24).By]) (H := []) Z call19 ⟨(tm Z), (tm Z), (tm Z), trivial⟩ (List.Perm.refl _) (mewsref22.Add.ok r686e) ?_)
        rintro _ _ ⟨rfl, rfl⟩
        refine xm Z Z Z (xa (.sl .no 2 (r686.1.map api.Field.av)) Z (pu_extract Z (tm Z) (nb Z) Z) (xa (.str r686.2.1) Z (pu_extract Z (tm Z) (nb Z) Z) (xa (.i r686.2.2) Z (pu_extract Z (tm Z) (nb Z) Z) (xm Z Z Z (xm Z Z Z (xm Z Z Z (xe ?_)))))))
        exact ⟨(r686.1, 0, 0, r685.1, r686.2.1, r685.2.1, r686.2.2, r685.2.2), (), (some_of h).symm, Weak.mkL [0] (by decide) ⟨⟨_, Z, Z⟩, trivial⟩ ⟨tm Z, tm Z, tm Z, tm Z, tm Z, tm Z, tm Z, tm Z, tm Z, tm Z, tm Z, tm Z, trivial⟩⟩
       ·replace h := ite_f (dec_f hb693) h
        refine xr (xm Z Z Z (xm Z Z Z ?_))
        obtain ⟨r687, r687e, h⟩ := bind_some h
        refine aops_weak (weak_pick [2, 0, 1] (by decide) Z) (xc Z (op_call (vs := [.rp rg r368.1, .sl .no 1 (r661.1.map AV.str)]) (H := [(rg, .abs (regAbs s655.mem))]) Z call11 ⟨(tm Z), (AEv.le (tm Z) (AV.Le.forget _ _ _)), trivial⟩ (List.Perm.refl _) (field.Get.ok r687e rg) ?_))
        rintro _ _ ⟨t688, rfl, rfl⟩
        refine xm Z Z Z (xm Z Z Z ?_)
        obtain ⟨r689, r689e, h⟩ := bind_some h
        refine xc Z (op_call (vs := [.sl .no 2 (s655.r.map api.Field.av), .sl .no 1 (r661.1.map AV.str)]) (H := []) Z call21 ⟨(tm Z), (AEv.le (tm Z) (AV.Le.forget _ _ _)), trivial⟩ (List.Perm.refl _) (mewsref22.Get.ok r689e) ?_)
        rintro _ _ ⟨t690, rfl, rfl⟩
        obtain ⟨r691, r691e, h⟩ := bind_some h
        refine xc Z (op_call (vs := [.sl .no 2 (r687.map api.Field.av), .sl .no 2 (r689.map api.Field.av)]) (H := []) Z call20 ⟨(AEv.le (tm Z) (AV.Le.forget _ _ _)), (AEv.le (tm Z) (AV.Le.forget _ _ _)), trivial⟩ (List.Perm.refl _) (mewsref22.Same.ok r691e) ?_)
        rintro _ _ ⟨rfl, rfl⟩
        refine xa (.bool (!r691)) Z (pu_not Z (tm Z)) (xe (aw_cond (b := (!r691)) (tm Z) (fun hb692 => ?_) (fun hb692 => ?_)))
        ·replace h := ite_t hb692 h
         refine xr (xa (.bool false) Z (pu_assign Z (AEv.bool _)) (xe (aw_ret ?_)))
         obtain rfl := some_of h
         have h := onSum_inr h679
         obtain rfl := some_of h
         have h := congrArg some (hx656 _ rfl)
         obtain rfl := some_of h
         have h := onSum_inr h541
         obtain rfl := some_of h
         exact ⟨[.bool false], _, [], ⟨(tm Z), trivial⟩, vr, Weak.mkL [] (by decide) trivial trivial, ⟨Z, Z⟩⟩
        ·replace h := ite_fb hb692 h
         refine aw_skip ?_
         exact ⟨(s655.r, 0, 0, ([] : List UInt8), ([] : List UInt8), 0, 0, s655.mem), (), (some_of h).symm, Weak.mkL [1] (by decide) ⟨⟨_, Z, Z⟩, trivial⟩ ⟨tm Z, tm Z, tm Z, tm Z, tm Z, tm Z, tm Z, tm Z, tm Z, tm Z, tm Z, tm Z, trivial⟩⟩
   ·replace h := ite_f (dec_f hb713) h
    refine aw_exit ?_
    obtain rfl := some_of h
    have h := congrArg some (hx656 _ rfl)
    exact ⟨(s655.r, s655.mem), (), (some_of h).symm, Weak.mkL [0] (by decide) ⟨⟨_, Z, Z⟩, trivial⟩ ⟨tm Z, tm Z, trivial⟩⟩

end Go.Pu
