/- Printed by lift.py: the functions come to them. -/
import Derived.Test.YtjbphnophcpdeaaLiftW
import Derived.Test.YtjbphnophcpdeaaMBK1
set_option maxRecDepth 100000
set_option maxHeartbeats 0
namespace Go.Pu
open Go.Lift Go.Proofs.Try Go.RowKit Go.Proofs

theorem mewslaw23.MemberNobody.ok {l : List (List UInt8)} {s_ : List UInt8} {r : Bool} (h : mewslaw23.MemberNobody l s_ = some r) : Go.Lift.Spec prog 3 [.sl .no 1 (l.map AV.str), .str s_] [] (fun v H => v = .bool r ∧ H = []) := by
 unfold mewslaw23.MemberNobody at h
 refine Go.Lift.Spec.of_body (rs := [.tmp 4]) func3 Z Z (nb Z) Z (aw_regNew fun rg => (xr (xa (.bool false) Z (pu_assign Z (AEv.bool _)) (xe (aw_seq ?_)))))
 obtain ⟨s51, s51e, h52⟩ := bind_some h
 refine aw_meet (ν := Unit) (fun v => [(0, .sl .no 1 (l.map AV.str)), (1, .str s_), (13, .bool s51)]) (fun v => [(rg, .abs (regAbs ([] : Reg)))]) ?_ ?_
 ·have h := s51e
  refine aw_region (xm Z Z Z (xc Z (op_buildSlice (xs := ([l] : List (List (List UInt8))).map av_List_List_UInt8) (aparts := [(0, .sl .no 1 (l.map AV.str))]) Z underlying42 sizeOf22 zeroValue22 (by decide) (by decide) ⟨Z, (tm Z), trivial⟩ Z Z Z ?_)))
  obtain ⟨r54, r54e, h⟩ := bind_some h
  refine xc Z (op_call (vs := [.sl .no 1 ([l].map av_List_List_UInt8)]) (H := []) Z call5 ⟨(AEv.le (tm Z) (AV.Le.forget _ _ _)), trivial⟩ (List.Perm.refl _) (mewslaw23.far.ok r54e) ?_)
  rintro _ _ ⟨rfl, rfl⟩
  refine xm Z Z Z ?_
  rcases Bool.eq_false_or_eq_true r54 with hb55 | hb55
  ·replace h := ite_t hb55 h
   refine aops_known 9 Z hb55 (xn Z Z Z (xn Z Z Z (xn Z Z Z (xa (.bool true) Z (pu_pick (b := true) Z (tm Z) (fun _ => (AEv.bool _)) (fun h => nomatch h)) (xe ?_)))))
   obtain rfl := some_of h
   exact ⟨(), Weak.mkL [0] (by decide) ⟨⟨_, Z, Z⟩, trivial⟩ ⟨tm Z, tm Z, tm Z, trivial⟩⟩
  ·replace h := ite_fb hb55 h
   refine aops_known 9 Z hb55 (xq Z Z Z Z (xp (.i (s_.length : Int)) Z Z (pu_strLen Z underlying9 (tm Z)) (xp (.bool (decide (200 < (s_.length : Int)))) Z Z (pu_int (v := .bool (decide (200 < (s_.length : Int)))) Z Z (tm Z) (AEv.int _ _) Z) (xa (.bool (decide (200 < (s_.length : Int)))) Z (pu_pick (b := false) Z (tm Z) (fun h => nomatch h) (fun _ => (tm Z))) (xe ?_)))))
   obtain rfl := some_of h
   exact ⟨(), Weak.mkL [0] (by decide) ⟨⟨_, Z, Z⟩, trivial⟩ ⟨tm Z, tm Z, (AEv.le (tm Z) vr), trivial⟩⟩
 ·intro _
  have h := h52
  refine aw_cond (b := s51) (tm Z) (fun hb96 => ?_) (fun hb96 => ?_)
  ·replace h := ite_t hb96 h
   refine aw_seq (aw_region ?_)
   obtain ⟨r56, r56e, h⟩ := bind_some h
   refine xc Z (op_call (vs := []) (H := []) Z call6 trivial (List.Perm.refl _) (mewslaw23.alive.ok r56e) ?_)
   rintro _ _ ⟨rfl, rfl⟩
   refine xm Z Z Z (xe (aw_ret ?_))
   obtain rfl := some_of h
   exact ⟨[.bool r56], _, [], ⟨(tm Z), trivial⟩, vr, Weak.mkL [] (by decide) trivial trivial, ⟨Z, Z⟩⟩
  ·replace h := ite_fb hb96 h
   refine aw_skip (xr (xa (.rp rg (none : RP)) Z (pu_assign Z (AEv.rpn _)) (xe ?_)))
   obtain ⟨s75, s75e, h76⟩ := bind_some h
   refine aw_meet (ν := Unit) (fun v => [(4, .bool s75.1)]) (fun v => [(rg, .abs (regAbs s75.2))]) ?_ ?_
   ·have h := s75e
    refine aw_region (xm Z Z Z (xm Z Z Z ?_))
    obtain ⟨r78, r78e, h⟩ := bind_some h
    refine xc Z (op_call (vs := [.rp rg (none : RP), .sl .no 1 (l.map AV.str)]) (H := [(rg, .abs (regAbs ([] : Reg)))]) Z call7 ⟨(tm Z), (tm Z), trivial⟩ (List.Perm.refl _) (member.Put.ok r78e rg) ?_)
    rintro _ _ ⟨rfl, rfl⟩
    refine xa (.bool (decide (r78.1 = 0))) Z (pu_int (v := .bool (decide (r78.1 = 0))) Z Z (tm Z) (AEv.int _ _) Z) (xm Z Z Z ?_)
    rcases Bool.eq_false_or_eq_true (decide (r78.1 = 0)) with hb79 | hb79
    ·replace h := ite_t (dec_t hb79) h
     refine aops_known 19 Z hb79 (xq Z Z Z Z (xq Z Z Z Z ?_))
     obtain ⟨r80, r80e, h⟩ := bind_some h
     refine xg Z Z (op_call (vs := [.rp rg (none : RP), .sl .no 1 (l.map AV.str)]) (H := [(rg, .abs (regAbs r78.2))]) Z call8 ⟨(tm Z), (tm Z), trivial⟩ (List.Perm.refl _) (member.Drop.ok r80e rg) ?_)
     rintro _ _ ⟨rfl, rfl⟩
     refine xp (.bool (decide (r80.1 = 0))) Z Z (pu_int (v := .bool (decide (r80.1 = 0))) Z Z (tm Z) (AEv.int _ _) Z) (xa (.bool (decide (r80.1 = 0))) Z (pu_pick (b := true) Z (tm Z) (fun _ => (tm Z)) (fun h => nomatch h)) (xm Z Z Z ?_))
     rcases Bool.eq_false_or_eq_true (decide (r80.1 = 0)) with hb81 | hb81
     ·replace h := ite_t (dec_t hb81) h
      refine aops_known 25 Z hb81 (xq Z Z Z Z (xq Z Z Z Z ?_))
      obtain ⟨r82, r82e, h⟩ := bind_some h
      refine xg Z Z (op_call (vs := [.rp rg (none : RP), .str s_]) (H := [(rg, .abs (regAbs r80.2))]) Z call9 ⟨(tm Z), (tm Z), trivial⟩ (List.Perm.refl _) (member.Has.ok r82e rg) ?_)
      rintro _ _ ⟨rfl, rfl⟩
      refine xp (.bool (!r82)) Z Z (pu_not Z (tm Z)) (xa (.bool (!r82)) Z (pu_pick (b := true) Z (tm Z) (fun _ => (tm Z)) (fun h => nomatch h)) (xm Z Z Z ?_))
      rcases Bool.eq_false_or_eq_true (!r82) with hb83 | hb83
      ·replace h := ite_t hb83 h
       refine aops_known 31 Z hb83 (xq Z Z Z Z ?_)
       obtain ⟨r84, r84e, h⟩ := bind_some h
       refine xg Z Z (op_call (vs := [.rp rg (none : RP)]) (H := [(rg, .abs (regAbs r80.2))]) Z call10 ⟨(tm Z), trivial⟩ (List.Perm.refl _) (member.All.ok r84e rg) ?_)
       rintro _ _ ⟨rfl, rfl⟩
       refine xp (.i (r84.1.length : Int)) Z Z (pu_lenM Z underlying22 (tm Z)) (xp (.bool (decide ((r84.1.length : Int) = 0))) Z Z (pu_int (v := .bool (decide ((r84.1.length : Int) = 0))) Z Z (tm Z) (AEv.int _ _) Z) (xa (.bool (decide ((r84.1.length : Int) = 0))) Z (pu_pick (b := true) Z (tm Z) (fun _ => (tm Z)) (fun h => nomatch h)) (xm Z Z Z ?_)))
       rcases Bool.eq_false_or_eq_true (decide ((r84.1.length : Int) = 0)) with hb85 | hb85
       ·replace h := ite_t (dec_t hb85) h
        refine aops_known 37 Z hb85 ?_
        obtain ⟨r86, r86e, h⟩ := bind_some h
        refine xg Z Z (op_call (vs := [.sl .no 1 (([] : List (List (List UInt8))).map av_List_List_UInt8)]) (H := []) Z call11 ⟨(AEv.le (AEv.nil 1 (by decide)) (AV.Le.forget _ _ _)), trivial⟩ (List.Perm.refl _) (member.Union.ok r86e) ?_)
        rintro _ _ ⟨t87, rfl, rfl⟩
        refine xp (.i (r86.length : Int)) Z Z (pu_lenM Z underlying22 (tm Z)) (xp (.bool (decide ((r86.length : Int) = 0))) Z Z (pu_int (v := .bool (decide ((r86.length : Int) = 0))) Z Z (tm Z) (AEv.int _ _) Z) (xa (.bool (decide ((r86.length : Int) = 0))) Z (pu_pick (b := true) Z (tm Z) (fun _ => (tm Z)) (fun h => nomatch h)) (xm Z Z Z ?_)))
        rcases Bool.eq_false_or_eq_true (decide ((r86.length : Int) = 0)) with hb88 | hb88
        ·replace h := ite_t (dec_t hb88) h
         refine aops_known 42 Z hb88 ?_
         obtain ⟨r89, r89e, h⟩ := bind_some h
         refine xg Z Z (op_call (vs := [.sl .no 1 (([] : List (List (List UInt8))).map av_List_List_UInt8)]) (H := []) Z call12 ⟨(AEv.le (AEv.nil 1 (by decide)) (AV.Le.forget _ _ _)), trivial⟩ (List.Perm.refl _) (member.Inter.ok r89e) ?_)
         rintro _ _ ⟨t90, rfl, rfl⟩
         refine xp (.i (r89.length : Int)) Z Z (pu_lenM Z underlying22 (tm Z)) (xp (.bool (decide ((r89.length : Int) = 0))) Z Z (pu_int (v := .bool (decide ((r89.length : Int) = 0))) Z Z (tm Z) (AEv.int _ _) Z) (xa (.bool (decide ((r89.length : Int) = 0))) Z (pu_pick (b := true) Z (tm Z) (fun _ => (tm Z)) (fun h => nomatch h)) (xm Z Z Z ?_)))
         rcases Bool.eq_false_or_eq_true (decide ((r89.length : Int) = 0)) with hb91 | hb91
         ·replace h := ite_t (dec_t hb91) h
          refine aops_known 47 Z hb91 ?_
          obtain ⟨r92, r92e, h⟩ := bind_some h
          refine xg Z Z (op_call (vs := [.sl .no 1 (([] : List (List (List UInt8))).map av_List_List_UInt8)]) (H := []) Z call13 ⟨(AEv.le (AEv.nil 1 (by decide)) (AV.Le.forget _ _ _)), trivial⟩ (List.Perm.refl _) (member.Diff.ok r92e) ?_)
          rintro _ _ ⟨t93, rfl, rfl⟩
          refine xp (.i (r92.length : Int)) Z Z (pu_lenM Z underlying22 (tm Z)) (xp (.bool (decide ((r92.length : Int) = 0))) Z Z (pu_int (v := .bool (decide ((r92.length : Int) = 0))) Z Z (tm Z) (AEv.int _ _) Z) (xa (.bool (decide ((r92.length : Int) = 0))) Z (pu_pick (b := true) Z (tm Z) (fun _ => (tm Z)) (fun h => nomatch h)) (xm Z Z Z ?_)))
          rcases Bool.eq_false_or_eq_true (decide ((r92.length : Int) = 0)) with hb94 | hb94
          ·replace h := ite_t (dec_t hb94) h
           refine aops_known 52 Z hb94 ?_
           obtain ⟨r95, r95e, h⟩ := bind_some h
           refine xg Z Z (op_call (vs := []) (H := []) Z call6 trivial (List.Perm.refl _) (mewslaw23.alive.ok r95e) ?_)
           rintro _ _ ⟨rfl, rfl⟩
           refine xa (.bool r95) Z (pu_pick (b := true) Z (tm Z) (fun _ => (tm Z)) (fun h => nomatch h)) (xm Z Z Z (xe ?_))
           obtain rfl := some_of h
           exact ⟨(), Weak.mkL [3] (by decide) ⟨⟨_, Z, Z⟩, trivial⟩ ⟨tm Z, trivial⟩⟩
          ·replace h := ite_f (dec_f hb94) h
           refine aops_known 52 Z hb94 (xn Z Z Z (xa (.bool false) Z (pu_pick (b := false) Z (tm Z) (fun h => nomatch h) (fun _ => (AEv.bool _))) (xm Z Z Z (xe ?_))))
           obtain rfl := some_of h
           exact ⟨(), Weak.mkL [3] (by decide) ⟨⟨_, Z, Z⟩, trivial⟩ ⟨tm Z, trivial⟩⟩
         ·replace h := ite_f (dec_f hb91) h
          refine aops_known 47 Z hb91 (xn Z Z Z (xn Z Z Z (xn Z Z Z (xa (.bool false) Z (pu_pick (b := false) Z (tm Z) (fun h => nomatch h) (fun _ => (AEv.bool _))) (xm Z Z Z (xn Z Z Z (xa (.bool false) Z (pu_pick (b := false) Z (tm Z) (fun h => nomatch h) (fun _ => (AEv.bool _))) (xm Z Z Z (xe ?_)))))))))
          obtain rfl := some_of h
          exact ⟨(), Weak.mkL [2] (by decide) ⟨⟨_, Z, Z⟩, trivial⟩ ⟨tm Z, trivial⟩⟩
        ·replace h := ite_f (dec_f hb88) h
         refine aops_known 42 Z hb88 (xn Z Z Z (xn Z Z Z (xn Z Z Z (xa (.bool false) Z (pu_pick (b := false) Z (tm Z) (fun h => nomatch h) (fun _ => (AEv.bool _))) (xm Z Z Z (xn Z Z Z (xn Z Z Z (xn Z Z Z (xa (.bool false) Z (pu_pick (b := false) Z (tm Z) (fun h => nomatch h) (fun _ => (AEv.bool _))) ?_)))))))))
         refine xm Z Z Z (xn Z Z Z (xa (.bool false) Z (pu_pick (b := false) Z (tm Z) (fun h => nomatch h) (fun _ => (AEv.bool _))) (xm Z Z Z (xe ?_))))
         obtain rfl := some_of h
         exact ⟨(), Weak.mkL [1] (by decide) ⟨⟨_, Z, Z⟩, trivial⟩ ⟨tm Z, trivial⟩⟩
       ·replace h := ite_f (dec_f hb85) h
        refine aops_known 37 Z hb85 (xn Z Z Z (xn Z Z Z (xn Z Z Z (xa (.bool false) Z (pu_pick (b := false) Z (tm Z) (fun h => nomatch h) (fun _ => (AEv.bool _))) (xm Z Z Z (xn Z Z Z (xn Z Z Z (xn Z Z Z (xa (.bool false) Z (pu_pick (b := false) Z (tm Z) (fun h => nomatch h) (fun _ => (AEv.bool _))) ?_)))))))))
        refine xm Z Z Z (xn Z Z Z (xn Z Z Z (xn Z Z Z (xa (.bool false) Z (pu_pick (b := false) Z (tm Z) (fun h => nomatch h) (fun _ => (AEv.bool _))) (xm Z Z Z (xn Z Z Z (xa (.bool false) Z (pu_pick (b := false) Z (tm Z) (fun h => nomatch h) (fun _ => (AEv.bool _))) (xm Z Z Z (xe ?_)))))))))
        obtain rfl := some_of h
        exact ⟨(), Weak.mkL [0] (by decide) ⟨⟨_, Z, Z⟩, trivial⟩ ⟨tm Z, trivial⟩⟩
      ·replace h := ite_fb hb83 h
       refine aops_known 31 Z hb83 (xn Z Z Z (xn Z Z Z (xn Z Z Z (xn Z Z Z (xa (.bool false) Z (pu_pick (b := false) Z (tm Z) (fun h => nomatch h) (fun _ => (AEv.bool _))) (xm Z Z Z (xn Z Z Z (xn Z Z Z (xn Z Z Z ?_)))))))))
       refine xa (.bool false) Z (pu_pick (b := false) Z (tm Z) (fun h => nomatch h) (fun _ => (AEv.bool _))) (xm Z Z Z (xn Z Z Z (xn Z Z Z (xn Z Z Z (xa (.bool false) Z (pu_pick (b := false) Z (tm Z) (fun h => nomatch h) (fun _ => (AEv.bool _))) (xm Z Z Z (xn Z Z Z (xn Z Z Z (xn Z Z Z ?_)))))))))
       refine xa (.bool false) Z (pu_pick (b := false) Z (tm Z) (fun h => nomatch h) (fun _ => (AEv.bool _))) (xm Z Z Z (xn Z Z Z (xa (.bool false) Z (pu_pick (b := false) Z (tm Z) (fun h => nomatch h) (fun _ => (AEv.bool _))) (xm Z Z Z (xe ?_)))))
       obtain rfl := some_of h
       exact ⟨(), Weak.mkL [0] (by decide) ⟨⟨_, Z, Z⟩, trivial⟩ ⟨tm Z, trivial⟩⟩
     ·replace h := ite_f (dec_f hb81) h
      refine aops_known 25 Z hb81 (xn Z Z Z (xn Z Z Z (xn Z Z Z (xn Z Z Z (xa (.bool false) Z (pu_pick (b := false) Z (tm Z) (fun h => nomatch h) (fun _ => (AEv.bool _))) (xm Z Z Z (xn Z Z Z (xn Z Z Z (xn Z Z Z ?_)))))))))
      refine xn Z Z Z (xa (.bool false) Z (pu_pick (b := false) Z (tm Z) (fun h => nomatch h) (fun _ => (AEv.bool _))) (xm Z Z Z (xn Z Z Z (xn Z Z Z (xn Z Z Z (xa (.bool false) Z (pu_pick (b := false) Z (tm Z) (fun h => nomatch h) (fun _ => (AEv.bool _))) (xm Z Z Z (xn Z Z Z (xn Z Z Z ?_)))))))))
      refine xn Z Z Z (xa (.bool false) Z (pu_pick (b := false) Z (tm Z) (fun h => nomatch h) (fun _ => (AEv.bool _))) (xm Z Z Z (xn Z Z Z (xn Z Z Z (xn Z Z Z (xa (.bool false) Z (pu_pick (b := false) Z (tm Z) (fun h => nomatch h) (fun _ => (AEv.bool _))) (xm Z Z Z (xn Z Z Z (xa (.bool false) Z (pu_pick (b := false) Z (tm Z) (fun h => nomatch h) (fun _ => (AEv.bool _))) ?_)))))))))
      refine xm Z Z Z (xe ?_)
      obtain rfl := some_of h
      exact ⟨(), Weak.mkL [0] (by decide) ⟨⟨_, Z, Z⟩, trivial⟩ ⟨tm Z, trivial⟩⟩
    ·replace h := ite_f (dec_f hb79) h
     refine aops_known 19 Z hb79 (xn Z Z Z (xn Z Z Z (xn Z Z Z (xn Z Z Z (xa (.bool false) Z (pu_pick (b := false) Z (tm Z) (fun h => nomatch h) (fun _ => (AEv.bool _))) (xm Z Z Z (xn Z Z Z (xn Z Z Z (xn Z Z Z ?_)))))))))
     refine xn Z Z Z (xa (.bool false) Z (pu_pick (b := false) Z (tm Z) (fun h => nomatch h) (fun _ => (AEv.bool _))) (xm Z Z Z (xn Z Z Z (xn Z Z Z (xn Z Z Z (xn Z Z Z (xa (.bool false) Z (pu_pick (b := false) Z (tm Z) (fun h => nomatch h) (fun _ => (AEv.bool _))) (xm Z Z Z (xn Z Z Z ?_)))))))))
     refine xn Z Z Z (xn Z Z Z (xa (.bool false) Z (pu_pick (b := false) Z (tm Z) (fun h => nomatch h) (fun _ => (AEv.bool _))) (xm Z Z Z (xn Z Z Z (xn Z Z Z (xn Z Z Z (xa (.bool false) Z (pu_pick (b := false) Z (tm Z) (fun h => nomatch h) (fun _ => (AEv.bool _))) (xm Z Z Z (xn Z Z Z ?_)))))))))
     refine xn Z Z Z (xn Z Z Z (xa (.bool false) Z (pu_pick (b := false) Z (tm Z) (fun h => nomatch h) (fun _ => (AEv.bool _))) (xm Z Z Z (xn Z Z Z (xa (.bool false) Z (pu_pick (b := false) Z (tm Z) (fun h => nomatch h) (fun _ => (AEv.bool _))) (xm Z Z Z (xe ?_)))))))
     obtain rfl := some_of h
     exact ⟨(), Weak.mkL [0] (by decide) ⟨⟨_, Z, Z⟩, trivial⟩ ⟨tm Z, trivial⟩⟩
   ·intro _
    have h := h76
    refine aw_ret ?_
    obtain rfl := some_of h
    exact ⟨[.bool s75.1], _, [], ⟨(tm Z), trivial⟩, vr, Weak.mkL [] (by decide) trivial trivial, ⟨Z, Z⟩⟩

theorem mewsref23.Drop.ok {l : List (List UInt8)} {members : List (List UInt8)} {r : (List (List UInt8)) × Int} (h : mewsref23.Drop l members = some r) : Go.Lift.Spec prog 15 [.sl .no 1 (l.map AV.str), .sl .no 1 (members.map AV.str)] [] (fun v H => v = .tup [.sl .no 1 (r.1.map AV.str), .i r.2] ∧ H = []) := by
 unfold mewsref23.Drop at h
 refine Go.Lift.Spec.of_body (rs := [.tmp 4, .tmp 5]) func15 Z Z (nb Z) Z (xr (xa (.sl .full 1 (([] : List (List UInt8)).map AV.str)) Z (pu_assign Z (AEv.nil 1 (by decide))) (xa (.i 0) Z (pu_assign Z (AEv.int _ _)) (xe (xr (xa (.i 0) Z (pu_assign Z (AEv.int _ _)) (xe ?_)))))))
 obtain ⟨s1165, s1165e, h1166⟩ := bind_some h
 refine aw_meet (ν := Unit) (fun v => [(0, .sl .no 1 (s1165.1.map AV.str)), (6, .i s1165.2)]) (fun v => []) ?_ ?_
 ·have h := s1165e
  refine xr (xa (.i 0) Z (pu_assign Z (AEv.int _ _)) (xe (aw_block (aw_while (σ := mewsref23.Drop.S0) (ν := Unit) (mewsref23.Drop.body0 members) (fun s1424 v => [(0, .sl .no 1 (s1424.l.map AV.str)), (1, .sl .no 1 (members.map AV.str)), (6, .i s1424.n), (7, .i s1424.i)]) (fun s1424 v => []) ⟨l, 0, 0⟩ () _ h (Weak.mkL [] (by decide) trivial ⟨tm Z, tm Z, tm Z, tm Z, trivial⟩) ?_))))
  rintro s1424 _ x1426 h hx1425
  unfold mewsref23.Drop.body0 at h
  refine aw_seq (xr (xm Z Z Z (xm Z Z Z (xa (.i (members.length : Int)) Z (pu_lenM Z underlying22 (tm Z)) (xa (.bool (decide (s1424.i < (members.length : Int)))) Z (pu_int (v := .bool (decide (s1424.i < (members.length : Int)))) Z Z (tm Z) (tm Z) Z) (xe (aw_cond (b := decide (s1424.i < (members.length : Int))) (tm Z) (fun hb1554 => ?_) (fun hb1554 => ?_))))))))
  ·replace h := ite_t (dec_t hb1554) h
   refine aw_skip (aw_seq (aw_block (xr (xa (.sl .full 1 (([] : List (List UInt8)).map AV.str)) Z (pu_assign Z (AEv.nil 1 (by decide))) (xe ?_)))))
   obtain ⟨s1489, s1489e, h1491⟩ := bind_some h
   refine aw_meet (ν := Nat) (fun v => [(1, .sl .no 1 (members.map AV.str)), (6, .i s1489.1), (7, .i s1424.i), (8, .sl (.own v) 1 (s1489.2.map AV.str))]) (fun v => [(v, .spare)]) ?_ ?_
   ·have h := s1489e
    refine xr (xa (.i 0) Z (pu_assign Z (AEv.int _ _)) (xe (aw_block (aw_claim 8 (tm Z) fun t1553 => (aw_while (σ := mewsref23.Drop.S2) (ν := Nat) (mewsref23.Drop.body2 s1424 members) (fun s1531 v => [(0, .sl .no 1 (s1424.l.map AV.str)), (1, .sl .no 1 (members.map AV.str)), (6, .i s1531.n), (7, .i s1424.i), (8, .sl (.own v) 1 (s1531.out.map AV.str)), (9, .i s1531.k)]) (fun s1531 v => [(v, .spare)]) ⟨s1424.n, ([] : List (List UInt8)), 0⟩ t1553 _ h (Weak.mkL [0] (by decide) ⟨⟨_, Z, Z⟩, trivial⟩ ⟨tm Z, tm Z, tm Z, tm Z, tm Z, tm Z, trivial⟩) ?_)))))
    rintro s1531 n1532 x1534 h hx1533
    unfold mewsref23.Drop.body2 at h
    refine aw_seq (xr (xm Z Z Z (xm Z Z Z (xa (.i (s1424.l.length : Int)) Z (pu_lenM Z underlying22 (tm Z)) (xa (.bool (decide (s1531.k < (s1424.l.length : Int)))) Z (pu_int (v := .bool (decide (s1531.k < (s1424.l.length : Int)))) Z Z (tm Z) (tm Z) Z) (xe (aw_cond (b := decide (s1531.k < (s1424.l.length : Int))) (tm Z) (fun hb1552 => ?_) (fun hb1552 => ?_))))))))
    ·replace h := ite_t (dec_t hb1552) h
     refine aw_skip ?_
     obtain ⟨s1542, s1542e, h1544⟩ := bind_some h
     refine aw_meet (ν := Nat) (fun v => [(0, .sl .no 1 (s1424.l.map AV.str)), (1, .sl .no 1 (members.map AV.str)), (6, .i s1542.1), (7, .i s1424.i), (8, .sl (.own v) 1 (s1542.2.map AV.str)), (9, .i s1531.k)]) (fun v => [(v, .spare)]) ?_ ?_
     ·have h := s1542e
      refine aw_block (aw_seq ?_)
      obtain ⟨c1546, h⟩ := need_of h
      obtain ⟨c1547, h⟩ := need_of h
      refine aw_planR (by decide +kernel) [[], [], [], [], [], [], [], [], []] [[]] [[[(n1532, .spare)]]] [.sl .no 1 (s1424.l.map AV.str), .i s1531.k, .vptr [.str (ix s1424.l s1531.k)], .str (ix s1424.l s1531.k), .sl .no 1 (members.map AV.str), .i s1424.i, .vptr [.str (ix members s1424.i)], .str (ix members s1424.i), .bool (decide ((ix s1424.l s1531.k) = (ix members s1424.i)))] (by decide +kernel) Z Z ?_ ?_
      ·exact ⟨ym Z Z Z, ym Z Z Z, yp Z (pu_indexAddrM Z underlying22 sizeOf9 (tm Z) (tm Z) c1546 Z), stepg_plain Z (op_loadV1 Z isAgg9 (tm Z) Z ⟨Z, Z⟩), ym Z Z Z, ym Z Z Z, yp Z (pu_indexAddrM Z underlying22 sizeOf9 (tm Z) (tm Z) c1547 Z), stepg_plain Z (op_loadV1 Z isAgg9 (tm Z) Z ⟨Z, Z⟩), yp Z (pu_str (v := .bool (decide ((ix s1424.l s1531.k) = (ix members s1424.i)))) Z Z (tm Z) (tm Z) Z), trivial⟩
      refine aw_cond (b := decide ((ix s1424.l s1531.k) = (ix members s1424.i))) (tm Z) (fun hb1551 => ?_) (fun hb1551 => ?_)
      ·replace h := ite_t (dec_t hb1551) h
       refine aw_region (xm Z Z Z (xa (.i (IntKind.wrap .i64 (s1531.n + 1))) Z (pu_int (v := .i (IntKind.wrap .i64 (s1531.n + 1))) Z Z (tm Z) (AEv.int _ _) Z) (xm Z Z Z (xe ?_))))
       obtain rfl := some_of h
       exact ⟨n1532, Weak.mkL [0] (by decide) ⟨⟨_, Z, Z⟩, trivial⟩ ⟨tm Z, tm Z, (AEv.le (tm Z) vr), tm Z, tm Z, tm Z, trivial⟩⟩
      ·replace h := ite_f (dec_f hb1551) h
       refine aw_region (xm Z Z Z (xm Z Z Z (xm Z Z Z ?_)))
       obtain ⟨c1548, h⟩ := need_of h
       refine xa (.vptr [.str (ix s1424.l s1531.k)]) Z (pu_indexAddrM Z underlying22 sizeOf9 (tm Z) (tm Z) c1548 Z) (xc Z (op_loadV1 Z isAgg9 (tm Z) Z (xc Z (op_buildSlice (xs := ([ix s1424.l s1531.k] : List (List UInt8)).map AV.str) (aparts := [(0, .str (ix s1424.l s1531.k))]) Z underlying22 sizeOf9 zeroValue9 (by decide) (by decide) ⟨Z, (tm Z), trivial⟩ Z Z Z ?_))))
       obtain ⟨c1549, h⟩ := need_of h
       refine xc Z (op_appendOM (q := 0) Z underlying22 underlying22 (.inl Z) typeInfo9 Z Z Z (by decide) (tm Z) Z (given_sl (tm Z)) c1549 ?_)
       intro t1550
       refine xm Z Z Z (xe ?_)
       obtain rfl := some_of h
       exact ⟨t1550, Weak.mkL [0] (by decide) ⟨⟨_, Z, Z⟩, trivial⟩ ⟨tm Z, tm Z, tm Z, tm Z, (AEv.le (tm Z) vr), tm Z, trivial⟩⟩
     ·intro n1543
      have h := h1544
      refine aw_region (xm Z Z Z (xa (.i (IntKind.wrap .i64 (s1531.k + 1))) Z (pu_int (v := .i (IntKind.wrap .i64 (s1531.k + 1))) Z Z (tm Z) (AEv.int _ _) Z) (xm Z Z Z (xe ?_))))
      obtain rfl := some_of h
      exact ⟨_, n1543, Z, Weak.mkL [0] (by decide) ⟨⟨_, Z, Z⟩, trivial⟩ ⟨tm Z, tm Z, tm Z, tm Z, tm Z, (AEv.le (tm Z) vr), trivial⟩⟩
    ·replace h := ite_f (dec_f hb1552) h
     refine aw_exit ?_
     obtain rfl := some_of h
     have h := congrArg some (hx1533 _ rfl)
     obtain rfl := some_of h
     exact ⟨n1532, Weak.mkL [0] (by decide) ⟨⟨_, Z, Z⟩, trivial⟩ ⟨tm Z, tm Z, tm Z, tm Z, trivial⟩⟩
   ·intro n1490
    have h := h1491
    refine aw_region (xm Z Z Z (xm Z Z Z (xe (aw_region (xm Z Z Z (xa (.i (IntKind.wrap .i64 (s1424.i + 1))) Z (pu_int (v := .i (IntKind.wrap .i64 (s1424.i + 1))) Z Z (tm Z) (AEv.int _ _) Z) (xm Z Z Z (xe ?_))))))))
    obtain rfl := some_of h
    exact ⟨_, (), Z, Weak.mkL [] (by decide) trivial ⟨(AEv.le (tm Z) (AV.Le.forget _ _ _)), tm Z, tm Z, (AEv.le (tm Z) vr), trivial⟩⟩
  ·replace h := ite_f (dec_f hb1554) h
   refine aw_exit ?_
   obtain rfl := some_of h
   have h := congrArg some (hx1425 _ rfl)
   obtain rfl := some_of h
   exact ⟨(), Weak.mkL [] (by decide) trivial ⟨tm Z, tm Z, trivial⟩⟩
 ·intro _
  have h := h1166
  refine xr (xm Z Z Z (xm Z Z Z (xm Z Z Z (xm Z Z Z (xe (aw_ret ?_))))))
  obtain rfl := some_of h
  exact ⟨[.sl .no 1 (s1165.1.map AV.str), .i s1165.2], _, [], ⟨(tm Z), (tm Z), trivial⟩, vr, Weak.mkL [] (by decide) trivial trivial, ⟨Z, Z⟩⟩

theorem mewsref23.Has.ok {l : List (List UInt8)} {s_ : List UInt8} {r : Bool} (h : mewsref23.Has l s_ = some r) : Go.Lift.Spec prog 18 [.sl .no 1 (l.map AV.str), .str s_] [] (fun v H => v = .bool r ∧ H = []) := by
 unfold mewsref23.Has at h
 refine Go.Lift.Spec.of_body (rs := [.tmp 4]) func18 Z Z (nb Z) Z (xr (xa (.bool false) Z (pu_assign Z (AEv.bool _)) (xe ?_)))
 obtain ⟨s68, s68e, h51⟩ := bind_some h
 refine aw_join (σ := Unit) (ν := Unit) (fun u v => []) (fun u v => []) (fun u => s68 = .inl u) ?_ ?_
 ·intro s50
  intro _
  rintro rfl
  have h := onSum_inl h51
  refine xr (xa (.bool false) Z (pu_assign Z (AEv.bool _)) (xe (aw_ret ?_)))
  obtain rfl := some_of h
  exact ⟨[.bool false], _, [], ⟨(tm Z), trivial⟩, vr, Weak.mkL [] (by decide) trivial trivial, ⟨Z, Z⟩⟩
 ·have h := s68e
  refine xr (xa (.i 0) Z (pu_assign Z (AEv.int _ _)) (xe (aw_block (aw_while (σ := mewsref23.Has.S0) (ν := Unit) (mewsref23.Has.body0 l s_) (fun s61 v => [(0, .sl .no 1 (l.map AV.str)), (1, .str s_), (5, .i s61.i)]) (fun s61 v => []) ⟨0⟩ () _ h (Weak.mkL [] (by decide) trivial ⟨tm Z, tm Z, tm Z, trivial⟩) ?_))))
  rintro s61 _ x63 h hx62
  unfold mewsref23.Has.body0 at h
  refine aw_seq (xr (xm Z Z Z (xm Z Z Z (xa (.i (l.length : Int)) Z (pu_lenM Z underlying22 (tm Z)) (xa (.bool (decide (s61.i < (l.length : Int)))) Z (pu_int (v := .bool (decide (s61.i < (l.length : Int)))) Z Z (tm Z) (tm Z) Z) (xe (aw_cond (b := decide (s61.i < (l.length : Int))) (tm Z) (fun hb67 => ?_) (fun hb67 => ?_))))))))
  ·replace h := ite_t (dec_t hb67) h
   refine aw_skip (aw_seq (aw_block (xr (xm Z Z Z (xm Z Z Z ?_)))))
   obtain ⟨c65, h⟩ := need_of h
   refine xa (.vptr [.str (ix l s61.i)]) Z (pu_indexAddrM Z underlying22 sizeOf9 (tm Z) (tm Z) c65 Z) (xc Z (op_loadV1 Z isAgg9 (tm Z) Z (xm Z Z Z (xa (.bool (decide ((ix l s61.i) = s_))) Z (pu_str (v := .bool (decide ((ix l s61.i) = s_))) Z Z (tm Z) (tm Z) Z) (xe (aw_cond (b := decide ((ix l s61.i) = s_)) (tm Z) (fun hb66 => ?_) (fun hb66 => ?_)))))))
   ·replace h := ite_t (dec_t hb66) h
    refine xr (xa (.bool true) Z (pu_assign Z (AEv.bool _)) (xe (aw_ret ?_)))
    obtain rfl := some_of h
    have h := congrArg some (hx62 _ rfl)
    obtain rfl := some_of h
    have h := onSum_inr h51
    obtain rfl := some_of h
    exact ⟨[.bool true], _, [], ⟨(tm Z), trivial⟩, vr, Weak.mkL [] (by decide) trivial trivial, ⟨Z, Z⟩⟩
   ·replace h := ite_f (dec_f hb66) h
    refine aw_skip (aw_region (xm Z Z Z (xa (.i (IntKind.wrap .i64 (s61.i + 1))) Z (pu_int (v := .i (IntKind.wrap .i64 (s61.i + 1))) Z Z (tm Z) (AEv.int _ _) Z) (xm Z Z Z (xe ?_)))))
    obtain rfl := some_of h
    exact ⟨_, (), Z, Weak.mkL [] (by decide) trivial ⟨tm Z, tm Z, (AEv.le (tm Z) vr), trivial⟩⟩
  ·replace h := ite_f (dec_f hb67) h
   refine aw_exit ?_
   obtain rfl := some_of h
   have h := congrArg some (hx62 _ rfl)
   exact ⟨(), (), (some_of h).symm, Weak.mkL [] (by decide) trivial trivial⟩

theorem mewsref19.With.ok {l : List (List UInt8)} {s_ : List UInt8} {r : List (List UInt8)} (h : mewsref19.With l s_ = some r) : Go.Lift.Spec prog 31 [.sl .no 1 (l.map AV.str), .str s_] [] (fun v H => v = .sl .no 1 (r.map AV.str) ∧ H = []) := by
 unfold mewsref19.With at h
 refine Go.Lift.Spec.of_body (rs := [.tmp 4]) func31 Z Z (nb Z) Z (xr (xa (.sl .full 1 (([] : List (List UInt8)).map AV.str)) Z (pu_assign Z (AEv.nil 1 (by decide))) (xe (xr (xa (.i 0) Z (pu_assign Z (AEv.int _ _)) (xe ?_))))))
 obtain ⟨s110, s110e, h111⟩ := bind_some h
 refine aw_meet (ν := Unit) (fun v => [(0, .sl .no 1 (l.map AV.str)), (1, .str s_), (5, .i s110)]) (fun v => []) ?_ ?_
 ·have h := s110e
  refine aw_block (aw_while (σ := mewsref19.With.S0) (ν := Unit) (mewsref19.With.body0 l s_) (fun s131 v => [(0, .sl .no 1 (l.map AV.str)), (1, .str s_), (5, .i s131.i)]) (fun s131 v => []) ⟨0⟩ () _ h (Weak.mkL [] (by decide) trivial ⟨tm Z, tm Z, tm Z, trivial⟩) ?_)
  rintro s131 _ x133 h hx132
  unfold mewsref19.With.body0 at h
  refine aw_seq ?_
  obtain ⟨s137, s137e, h138⟩ := bind_some h
  refine aw_meet (ν := Unit) (fun v => [(0, .sl .no 1 (l.map AV.str)), (1, .str s_), (5, .i s131.i), (18, .bool s137)]) (fun v => []) ?_ ?_
  ·have h := s137e
   refine aw_region (xm Z Z Z (xm Z Z Z (xa (.i (l.length : Int)) Z (pu_lenM Z underlying22 (tm Z)) (xa (.bool (decide (s131.i < (l.length : Int)))) Z (pu_int (v := .bool (decide (s131.i < (l.length : Int)))) Z Z (tm Z) (tm Z) Z) (xm Z Z Z ?_)))))
   rcases Bool.eq_false_or_eq_true (decide (s131.i < (l.length : Int))) with hb140 | hb140
   ·replace h := ite_t (dec_t hb140) h
    refine aops_known 11 Z hb140 (xq Z Z Z Z (xq Z Z Z Z ?_))
    obtain ⟨c141, h⟩ := need_of h
    refine xp (.vptr [.str (ix l s131.i)]) Z Z (pu_indexAddrM Z underlying22 sizeOf9 (tm Z) (tm Z) c141 Z) (xg Z Z (op_loadV1 Z isAgg9 (tm Z) Z (xq Z Z Z Z (xp (.bool (strLt (ix l s131.i) s_)) Z Z (pu_str (v := .bool (strLt (ix l s131.i) s_)) Z Z (tm Z) (tm Z) Z) (xa (.bool (strLt (ix l s131.i) s_)) Z (pu_pick (b := true) Z (tm Z) (fun _ => (tm Z)) (fun h => nomatch h)) (xe ?_))))))
    obtain rfl := some_of h
    exact ⟨(), Weak.mkL [] (by decide) trivial ⟨tm Z, tm Z, tm Z, (AEv.le (tm Z) vr), trivial⟩⟩
   ·replace h := ite_f (dec_f hb140) h
    refine aops_known 11 Z hb140 (xn Z Z Z (xn Z Z Z (xn Z Z Z (xn Z Z Z (xn Z Z Z (xn Z Z Z (xa (.bool false) Z (pu_pick (b := false) Z (tm Z) (fun h => nomatch h) (fun _ => (AEv.bool _))) (xe ?_))))))))
    obtain rfl := some_of h
    exact ⟨(), Weak.mkL [] (by decide) trivial ⟨tm Z, tm Z, tm Z, tm Z, trivial⟩⟩
  ·intro _
   have h := h138
   refine aw_cond (b := s137) (tm Z) (fun hb142 => ?_) (fun hb142 => ?_)
   ·replace h := ite_t hb142 h
    refine aw_skip (aw_block (aw_region (xm Z Z Z (xa (.i (IntKind.wrap .i64 (s131.i + 1))) Z (pu_int (v := .i (IntKind.wrap .i64 (s131.i + 1))) Z Z (tm Z) (AEv.int _ _) Z) (xm Z Z Z (xe ?_))))))
    obtain rfl := some_of h
    exact ⟨_, (), Z, Weak.mkL [] (by decide) trivial ⟨tm Z, tm Z, (AEv.le (tm Z) vr), trivial⟩⟩
   ·replace h := ite_fb hb142 h
    refine aw_exit ?_
    obtain rfl := some_of h
    have h := congrArg some (hx132 _ rfl)
    obtain rfl := some_of h
    exact ⟨(), Weak.mkL [] (by decide) trivial ⟨tm Z, tm Z, tm Z, trivial⟩⟩
 ·intro _
  have h := h111
  refine aw_seq ?_
  obtain ⟨s145, s145e, h146⟩ := bind_some h
  refine aw_meet (ν := Unit) (fun v => [(0, .sl .no 1 (l.map AV.str)), (1, .str s_), (5, .i s110), (32, .bool s145)]) (fun v => []) ?_ ?_
  ·have h := s145e
   refine aw_region (xm Z Z Z (xm Z Z Z (xa (.i (l.length : Int)) Z (pu_lenM Z underlying22 (tm Z)) (xa (.bool (decide (s110 < (l.length : Int)))) Z (pu_int (v := .bool (decide (s110 < (l.length : Int)))) Z Z (tm Z) (tm Z) Z) (xm Z Z Z ?_)))))
   rcases Bool.eq_false_or_eq_true (decide (s110 < (l.length : Int))) with hb148 | hb148
   ·replace h := ite_t (dec_t hb148) h
    refine aops_known 25 Z hb148 (xq Z Z Z Z (xq Z Z Z Z ?_))
    obtain ⟨c149, h⟩ := need_of h
    refine xp (.vptr [.str (ix l s110)]) Z Z (pu_indexAddrM Z underlying22 sizeOf9 (tm Z) (tm Z) c149 Z) (xg Z Z (op_loadV1 Z isAgg9 (tm Z) Z (xq Z Z Z Z (xp (.bool (decide ((ix l s110) = s_))) Z Z (pu_str (v := .bool (decide ((ix l s110) = s_))) Z Z (tm Z) (tm Z) Z) (xa (.bool (decide ((ix l s110) = s_))) Z (pu_pick (b := true) Z (tm Z) (fun _ => (tm Z)) (fun h => nomatch h)) (xe ?_))))))
    obtain rfl := some_of h
    exact ⟨(), Weak.mkL [] (by decide) trivial ⟨tm Z, tm Z, tm Z, (AEv.le (tm Z) vr), trivial⟩⟩
   ·replace h := ite_f (dec_f hb148) h
    refine aops_known 25 Z hb148 (xn Z Z Z (xn Z Z Z (xn Z Z Z (xn Z Z Z (xn Z Z Z (xn Z Z Z (xa (.bool false) Z (pu_pick (b := false) Z (tm Z) (fun h => nomatch h) (fun _ => (AEv.bool _))) (xe ?_))))))))
    obtain rfl := some_of h
    exact ⟨(), Weak.mkL [] (by decide) trivial ⟨tm Z, tm Z, tm Z, tm Z, trivial⟩⟩
  ·intro _
   have h := h146
   refine aw_cond (b := s145) (tm Z) (fun hb158 => ?_) (fun hb158 => ?_)
   ·replace h := ite_t hb158 h
    refine xr (xm Z Z Z (xm Z Z Z (xe (aw_ret ?_))))
    obtain rfl := some_of h
    exact ⟨[.sl .no 1 (l.map AV.str)], _, [], ⟨(tm Z), trivial⟩, vr, Weak.mkL [] (by decide) trivial trivial, ⟨Z, Z⟩⟩
   ·replace h := ite_fb hb158 h
    refine aw_skip (xr (xm Z Z Z (xm Z Z Z ?_)))
    obtain ⟨c150, h⟩ := need_of h
    refine xa (.sl .no 1 ((sub l 0 s110).map AV.str)) Z (pu_sliceM Z underlying22 sizeOf9 (tm Z) Z ⟨_, (tm Z)⟩ c150) ?_
    obtain ⟨c151, h⟩ := need_of h
    refine xc Z (op_appendFM Z underlying22 underlying22 (.inl Z) typeInfo9 Z Z Z (by decide) (AEv.nil 1 (by decide)) (given_sl (tm Z)) c151 ?_)
    intro t152
    refine xm Z Z Z (xe (xr (xm Z Z Z (xm Z Z Z (xc Z (op_buildSlice (xs := ([s_] : List (List UInt8)).map AV.str) (aparts := [(0, .str s_)]) Z underlying22 sizeOf9 zeroValue9 (by decide) (by decide) ⟨Z, (tm Z), trivial⟩ Z Z Z ?_))))))
    obtain ⟨c153, h⟩ := need_of h
    refine xc Z (op_appendOM (q := 0) Z underlying22 underlying22 (.inl Z) typeInfo9 Z Z Z (by decide) (tm Z) Z (given_sl (tm Z)) c153 ?_)
    intro t154
    refine xm Z Z Z (xe (xr (xm Z Z Z (xm Z Z Z (xm Z Z Z ?_)))))
    obtain ⟨c155, h⟩ := need_of h
    refine xa (.sl .no 1 ((sub l s110 (l.length : Int)).map AV.str)) Z (pu_sliceM Z underlying22 sizeOf9 (tm Z) ⟨_, (tm Z)⟩ Z c155) ?_
    obtain ⟨c156, h⟩ := need_of h
    refine xc Z (op_appendOM (q := 0) Z underlying22 underlying22 (.inl Z) typeInfo9 Z Z Z (by decide) (tm Z) Z (given_sl (tm Z)) c156 ?_)
    intro t157
    refine xm Z Z Z (xe (aw_ret ?_))
    obtain rfl := some_of h
    exact ⟨[.sl .no 1 ((((([] : List (List UInt8)) ++ (sub l 0 s110)) ++ [s_]) ++ (sub l s110 (l.length : Int))).map AV.str)], _, [], ⟨(AEv.le (tm Z) (AV.Le.forget _ _ _)), trivial⟩, vr, Weak.mkL [] (by decide) trivial trivial, ⟨Z, Z⟩⟩

theorem mewsref23.Put.ok {l : List (List UInt8)} {members : List (List UInt8)} {r : (List (List UInt8)) × Int} (h : mewsref23.Put l members = some r) : Go.Lift.Spec prog 16 [.sl .no 1 (l.map AV.str), .sl .no 1 (members.map AV.str)] [] (fun v H => v = .tup [.sl .no 1 (r.1.map AV.str), .i r.2] ∧ H = []) := by
 unfold mewsref23.Put at h
 refine Go.Lift.Spec.of_body (rs := [.tmp 4, .tmp 5]) func16 Z Z (nb Z) Z (xr (xa (.sl .full 1 (([] : List (List UInt8)).map AV.str)) Z (pu_assign Z (AEv.nil 1 (by decide))) (xa (.i 0) Z (pu_assign Z (AEv.int _ _)) (xe (xr (xa (.i 0) Z (pu_assign Z (AEv.int _ _)) (xe ?_)))))))
 obtain ⟨s148, s148e, h149⟩ := bind_some h
 refine aw_meet (ν := Unit) (fun v => [(0, .sl .no 1 (s148.1.map AV.str)), (6, .i s148.2)]) (fun v => []) ?_ ?_
 ·have h := s148e
  refine xr (xa (.i 0) Z (pu_assign Z (AEv.int _ _)) (xe (aw_block (aw_while (σ := mewsref23.Put.S0) (ν := Unit) (mewsref23.Put.body0 members) (fun s181 v => [(0, .sl .no 1 (s181.l.map AV.str)), (1, .sl .no 1 (members.map AV.str)), (6, .i s181.n), (7, .i s181.i)]) (fun s181 v => []) ⟨l, 0, 0⟩ () _ h (Weak.mkL [] (by decide) trivial ⟨tm Z, tm Z, tm Z, tm Z, trivial⟩) ?_))))
  rintro s181 _ x183 h hx182
  unfold mewsref23.Put.body0 at h
  refine aw_seq (xr (xm Z Z Z (xm Z Z Z (xa (.i (members.length : Int)) Z (pu_lenM Z underlying22 (tm Z)) (xa (.bool (decide (s181.i < (members.length : Int)))) Z (pu_int (v := .bool (decide (s181.i < (members.length : Int)))) Z Z (tm Z) (tm Z) Z) (xe (aw_cond (b := decide (s181.i < (members.length : Int))) (tm Z) (fun hb198 => ?_) (fun hb198 => ?_))))))))
  ·replace h := ite_t (dec_t hb198) h
   refine aw_skip ?_
   obtain ⟨s190, s190e, h191⟩ := bind_some h
   refine aw_meet (ν := Unit) (fun v => [(0, .sl .no 1 (s190.1.map AV.str)), (1, .sl .no 1 (members.map AV.str)), (6, .i s190.2), (7, .i s181.i)]) (fun v => []) ?_ ?_
   ·have h := s190e
    refine aw_block (xr (xm Z Z Z (xm Z Z Z (xm Z Z Z ?_))))
    obtain ⟨c193, h⟩ := need_of h
    refine xa (.vptr [.str (ix members s181.i)]) Z (pu_indexAddrM Z underlying22 sizeOf9 (tm Z) (tm Z) c193 Z) (xc Z (op_loadV1 Z isAgg9 (tm Z) Z ?_))
    obtain ⟨r194, r194e, h⟩ := bind_some h
    refine xc Z (op_call (vs := [.sl .no 1 (s181.l.map AV.str), .str (ix members s181.i)]) (H := []) Z call18 ⟨(tm Z), (tm Z), trivial⟩ (List.Perm.refl _) (mewsref23.Has.ok r194e) ?_)
    rintro _ _ ⟨rfl, rfl⟩
    refine xa (.bool (!r194)) Z (pu_not Z (tm Z)) (xe (aw_cond (b := (!r194)) (tm Z) (fun hb197 => ?_) (fun hb197 => ?_)))
    ·replace h := ite_t hb197 h
     refine xr (xm Z Z Z (xa (.i (IntKind.wrap .i64 (s181.n + 1))) Z (pu_int (v := .i (IntKind.wrap .i64 (s181.n + 1))) Z Z (tm Z) (AEv.int _ _) Z) (xm Z Z Z (xe (aw_region (xm Z Z Z (xm Z Z Z (xm Z Z Z ?_))))))))
     obtain ⟨c195, h⟩ := need_of h
     refine xa (.vptr [.str (ix members s181.i)]) Z (pu_indexAddrM Z underlying22 sizeOf9 (tm Z) (tm Z) c195 Z) (xc Z (op_loadV1 Z isAgg9 (tm Z) Z ?_))
     obtain ⟨r196, r196e, h⟩ := bind_some h
     refine xc Z (op_call (vs := [.sl .no 1 (s181.l.map AV.str), .str (ix members s181.i)]) (H := []) Z call31 ⟨(tm Z), (tm Z), trivial⟩ (List.Perm.refl _) (mewsref19.With.ok r196e) ?_)
     rintro _ _ ⟨rfl, rfl⟩
     refine xm Z Z Z (xe ?_)
     obtain rfl := some_of h
     exact ⟨(), Weak.mkL [] (by decide) trivial ⟨tm Z, tm Z, (AEv.le (tm Z) vr), tm Z, trivial⟩⟩
    ·replace h := ite_fb hb197 h
     refine aw_skip ?_
     obtain rfl := some_of h
     exact ⟨(), Weak.mkL [] (by decide) trivial ⟨tm Z, tm Z, tm Z, tm Z, trivial⟩⟩
   ·intro _
    have h := h191
    refine aw_region (xm Z Z Z (xa (.i (IntKind.wrap .i64 (s181.i + 1))) Z (pu_int (v := .i (IntKind.wrap .i64 (s181.i + 1))) Z Z (tm Z) (AEv.int _ _) Z) (xm Z Z Z (xe ?_))))
    obtain rfl := some_of h
    exact ⟨_, (), Z, Weak.mkL [] (by decide) trivial ⟨tm Z, tm Z, tm Z, (AEv.le (tm Z) vr), trivial⟩⟩
  ·replace h := ite_f (dec_f hb198) h
   refine aw_exit ?_
   obtain rfl := some_of h
   have h := congrArg some (hx182 _ rfl)
   obtain rfl := some_of h
   exact ⟨(), Weak.mkL [] (by decide) trivial ⟨tm Z, tm Z, trivial⟩⟩
 ·intro _
  have h := h149
  refine xr (xm Z Z Z (xm Z Z Z (xm Z Z Z (xm Z Z Z (xe (aw_ret ?_))))))
  obtain rfl := some_of h
  exact ⟨[.sl .no 1 (s148.1.map AV.str), .i s148.2], _, [], ⟨(tm Z), (tm Z), trivial⟩, vr, Weak.mkL [] (by decide) trivial trivial, ⟨Z, Z⟩⟩

theorem dict.Table_bool.Len.ok {t_ : RP} {mem : Reg} {r : Int} (h : dict.Table_bool.Len t_ mem = some r) (rg : Nat) : Go.Lift.Spec prog 19 [.rp rg t_] [(rg, .abs (regAbs mem))] (fun v H => v = .i r ∧ H = [(rg, .abs (regAbs mem))]) := by
 unfold dict.Table_bool.Len at h
 refine Go.Lift.Spec.of_body (rs := [.tmp 2]) func19 Z Z (nb Z) Z (xr (xa (.i 0) Z (pu_assign Z (AEv.int _ _)) (xe (aw_seq (xr (xm Z Z Z (xa (.bool t_.isNone) Z (pu_regNil Z underlying25 (tm Z) AEv.nilp) ?_)))))))
 refine xe (aw_cond (b := t_.isNone) (tm Z) (fun hb6 => ?_) (fun hb6 => ?_))
 ·replace h := ite_t hb6 h
  refine xr (xa (.i 0) Z (pu_assign Z (AEv.int _ _)) (xe (aw_ret ?_)))
  obtain rfl := some_of h
  exact ⟨[.i 0], _, [(rg, .abs (regAbs mem))], ⟨(tm Z), trivial⟩, vr, Weak.mkL [0] (by decide) ⟨⟨_, Z, Z⟩, trivial⟩ trivial, ⟨Z, Z⟩⟩
 ·replace h := ite_fb hb6 h
  refine aw_skip (xr (xm Z Z Z ?_))
  obtain ⟨c4, h⟩ := need_of h
  refine xa (.rp rg t_) Z (pu_regCheck Z (tm Z) c4) (xa (.rp rg (rpAdd t_ 7)) Z (pu_regField Z underlying57 Z sizeOf3 (by decide) (tm Z) c4 Z) ?_)
  obtain ⟨r5, r5e, h⟩ := bind_some h
  refine xc Z (op_regLoad (i := 0) (av := .i r5) Z isAgg3 (tm Z) Z (rLdI_eq r5e) Z (xm Z Z Z (xe (aw_ret ?_))))
  obtain rfl := some_of h
  exact ⟨[.i r5], _, [(rg, .abs (regAbs mem))], ⟨(tm Z), trivial⟩, vr, Weak.mkL [0] (by decide) ⟨⟨_, Z, Z⟩, trivial⟩ trivial, ⟨Z, Z⟩⟩

theorem member.Make.ok {seed : Int} {members : List (List UInt8)} {mem : Reg} {r : RP × Reg} (h : member.Make seed members mem = some r) (rg : Nat) : Go.Lift.Spec prog 20 [.int .u64 seed, .sl .no 1 (members.map AV.str)] [(rg, .abs (regAbs mem))] (fun v H => v = .rp rg r.1 ∧ H = [(rg, .abs (regAbs r.2))]) := by
 unfold member.Make at h
 refine Go.Lift.Spec.of_body (rs := [.tmp 4]) func20 Z Z (nb Z) Z (xr (xa (.rp rg (none : RP)) Z (pu_assign Z (AEv.rpn _)) (xe (xr (xm Z Z Z ?_)))))
 obtain ⟨r3, r3e, h⟩ := bind_some h
 refine xc Z (op_call (vs := [.int .u64 seed]) (H := [(rg, .abs (regAbs mem))]) Z call14 ⟨(tm Z), trivial⟩ (List.Perm.refl _) (dict.New_bool.ok r3e rg) ?_)
 rintro _ _ ⟨rfl, rfl⟩
 refine xm Z Z Z (xe (xr (xm Z Z Z (xm Z Z Z ?_))))
 obtain ⟨r4, r4e, h⟩ := bind_some h
 refine xc Z (op_call (vs := [.rp rg r3.1, .sl .no 1 (members.map AV.str)]) (H := [(rg, .abs (regAbs r3.2))]) Z call7 ⟨(tm Z), (tm Z), trivial⟩ (List.Perm.refl _) (member.Put.ok r4e rg) ?_)
 rintro _ _ ⟨rfl, rfl⟩
 refine xe (xr (xm Z Z Z (xm Z Z Z (xe (aw_ret ?_)))))
 obtain rfl := some_of h
 exact ⟨[.rp rg r3.1], _, [(rg, .abs (regAbs r4.2))], ⟨(tm Z), trivial⟩, vr, Weak.mkL [0] (by decide) ⟨⟨_, Z, Z⟩, trivial⟩ trivial, ⟨Z, Z⟩⟩

theorem mewslaw23.MemberPlays.ok {seed : Int} {l : List mewslaw23.Op} {s_ : List UInt8} {r : Bool} (h : mewslaw23.MemberPlays seed l s_ = some r) : Go.Lift.Spec prog 4 [.int .u64 seed, .sl .no 2 (l.map mewslaw23.Op.av), .str s_] [] (fun v H => v = .bool r ∧ H = []) := by
 unfold mewslaw23.MemberPlays at h
 refine Go.Lift.Spec.of_body (rs := [.tmp 6]) func4 Z Z (nb Z) Z (aw_regNew fun rg => (xr (xa (.bool false) Z (pu_assign Z (AEv.bool _)) (xe (xr (xm Z Z Z ?_))))))
 obtain ⟨r272, r272e, h⟩ := bind_some h
 refine xc Z (op_call (vs := [.int .u64 seed]) (H := [(rg, .abs (regAbs ([] : Reg)))]) Z call14 ⟨(tm Z), trivial⟩ (List.Perm.refl _) (dict.New_bool.ok r272e rg) ?_)
 rintro _ _ ⟨rfl, rfl⟩
 refine xm Z Z Z (xe (xr (xa (.sl .full 1 (([] : List (List UInt8)).map AV.str)) Z (pu_assign Z (AEv.nil 1 (by decide))) (xe (aw_seq ?_)))))
 obtain ⟨s274, s274e, h275⟩ := letO_of h
 refine aw_meet (ν := Unit) (fun v => [(0, .int .u64 seed), (1, .sl .no 2 (l.map mewslaw23.Op.av)), (2, .str s_), (7, .rp rg r272.1), (8, .sl .full 1 (([] : List (List UInt8)).map AV.str)), (22, .bool s274)]) (fun v => [(rg, .abs (regAbs r272.2))]) ?_ ?_
 ·have h := s274e.symm
  refine aw_region (xm Z Z Z (xa (.i (l.length : Int)) Z (pu_lenM Z underlying32 (tm Z)) (xa (.bool (decide (50 < (l.length : Int)))) Z (pu_int (v := .bool (decide (50 < (l.length : Int)))) Z Z (tm Z) (AEv.int _ _) Z) (xm Z Z Z ?_))))
  rcases Bool.eq_false_or_eq_true (decide (50 < (l.length : Int))) with hb277 | hb277
  ·replace h := ite_t (dec_t hb277) h
   refine aops_known 18 Z hb277 (xn Z Z Z (xn Z Z Z (xn Z Z Z (xa (.bool true) Z (pu_pick (b := true) Z (tm Z) (fun _ => (AEv.bool _)) (fun h => nomatch h)) (xe ?_)))))
   subst h
   exact ⟨(), Weak.mkL [0] (by decide) ⟨⟨_, Z, Z⟩, trivial⟩ ⟨tm Z, tm Z, tm Z, tm Z, tm Z, tm Z, trivial⟩⟩
  ·replace h := ite_f (dec_f hb277) h
   refine aops_known 18 Z hb277 (xq Z Z Z Z (xp (.i (s_.length : Int)) Z Z (pu_strLen Z underlying9 (tm Z)) (xp (.bool (decide (200 < (s_.length : Int)))) Z Z (pu_int (v := .bool (decide (200 < (s_.length : Int)))) Z Z (tm Z) (AEv.int _ _) Z) (xa (.bool (decide (200 < (s_.length : Int)))) Z (pu_pick (b := false) Z (tm Z) (fun h => nomatch h) (fun _ => (tm Z))) (xe ?_)))))
   subst h
   exact ⟨(), Weak.mkL [0] (by decide) ⟨⟨_, Z, Z⟩, trivial⟩ ⟨tm Z, tm Z, tm Z, tm Z, tm Z, (AEv.le (tm Z) vr), trivial⟩⟩
 ·intro _
  have h := h275
  refine aw_cond (b := s274) (tm Z) (fun hb542 => ?_) (fun hb542 => ?_)
  ·replace h := ite_t hb542 h
   refine aw_seq (aw_region ?_)
   obtain ⟨r278, r278e, h⟩ := bind_some h
   refine xc Z (op_call (vs := []) (H := []) Z call6 trivial (List.Perm.refl _) (mewslaw23.alive.ok r278e) ?_)
   rintro _ _ ⟨rfl, rfl⟩
   refine xm Z Z Z (xe (aw_ret ?_))
   obtain rfl := some_of h
   exact ⟨[.bool r278], _, [], ⟨(tm Z), trivial⟩, vr, Weak.mkL [] (by decide) trivial trivial, ⟨Z, Z⟩⟩
  ·replace h := ite_fb hb542 h
   refine aw_skip ?_
   obtain ⟨s541, s541e, h403⟩ := bind_some h
   refine aw_join (σ := (List (List UInt8)) × Reg) (ν := Unit) (fun u v => [(0, .int .u64 seed), (8, .sl .no 1 (u.1.map AV.str))]) (fun u v => [(rg, .abs (regAbs u.2))]) (fun u => s541 = .inl u) ?_ ?_
   ·intro s402
    intro _
    rintro rfl
    have h := onSum_inl h403
    obtain ⟨s533, s533e, h534⟩ := bind_some h
    refine aw_meet (ν := Unit) (fun v => [(6, .bool s533.1)]) (fun v => [(rg, .abs (regAbs s533.2))]) ?_ ?_
    ·have h := s533e
     refine aw_region (xm Z Z Z (xa (.int .u64 (IntKind.wrap .u64 (seed + 1))) Z (pu_int (v := .int .u64 (IntKind.wrap .u64 (seed + 1))) Z Z (tm Z) (AEv.int _ _) Z) (xm Z Z Z ?_)))
     obtain ⟨r536, r536e, h⟩ := bind_some h
     refine xc Z (op_call (vs := [.int .u64 (IntKind.wrap .u64 (seed + 1)), .sl .no 1 (s402.1.map AV.str)]) (H := [(rg, .abs (regAbs s402.2))]) Z call20 ⟨(tm Z), (tm Z), trivial⟩ (List.Perm.refl _) (member.Make.ok r536e rg) ?_)
     rintro _ _ ⟨rfl, rfl⟩
     obtain ⟨r537, r537e, h⟩ := bind_some h
     refine xc Z (op_call (vs := [.rp rg r536.1]) (H := [(rg, .abs (regAbs r536.2))]) Z call10 ⟨(tm Z), trivial⟩ (List.Perm.refl _) (member.All.ok r537e rg) ?_)
     rintro _ _ ⟨rfl, rfl⟩
     refine xm Z Z Z ?_
     obtain ⟨r538, r538e, h⟩ := bind_some h
     refine xc Z (op_call (vs := [.sl .no 1 (r537.1.map AV.str), .sl .no 1 (s402.1.map AV.str)]) (H := []) Z call17 ⟨(tm Z), (tm Z), trivial⟩ (List.Perm.refl _) (mewsref02.Same.ok r538e) ?_)
     rintro _ _ ⟨rfl, rfl⟩
     refine xm Z Z Z ?_
     rcases Bool.eq_false_or_eq_true r538 with hb539 | hb539
     ·replace h := ite_t hb539 h
      refine aops_known 93 Z hb539 ?_
      obtain ⟨r540, r540e, h⟩ := bind_some h
      refine xg Z Z (op_call (vs := []) (H := []) Z call6 trivial (List.Perm.refl _) (mewslaw23.alive.ok r540e) ?_)
      rintro _ _ ⟨rfl, rfl⟩
      refine xa (.bool r540) Z (pu_pick (b := true) Z (tm Z) (fun _ => (tm Z)) (fun h => nomatch h)) (xm Z Z Z (xe ?_))
      obtain rfl := some_of h
      exact ⟨(), Weak.mkL [0] (by decide) ⟨⟨_, Z, Z⟩, trivial⟩ ⟨tm Z, trivial⟩⟩
     ·replace h := ite_fb hb539 h
      refine aops_known 93 Z hb539 (xn Z Z Z (xa (.bool false) Z (pu_pick (b := false) Z (tm Z) (fun h => nomatch h) (fun _ => (AEv.bool _))) (xm Z Z Z (xe ?_))))
      obtain rfl := some_of h
      exact ⟨(), Weak.mkL [0] (by decide) ⟨⟨_, Z, Z⟩, trivial⟩ ⟨tm Z, trivial⟩⟩
    ·intro _
     have h := h534
     refine aw_ret ?_
     obtain rfl := some_of h
     exact ⟨[.bool s533.1], _, [], ⟨(tm Z), trivial⟩, vr, Weak.mkL [] (by decide) trivial trivial, ⟨Z, Z⟩⟩
   ·have h := s541e
    refine xr (xm Z Z Z (xa (.i (l.length : Int)) Z (pu_lenM Z underlying32 (tm Z)) (xa (.i 0) Z (pu_move Z (AEv.int _ _)) (xe (aw_block (aw_while (σ := mewslaw23.MemberPlays.S0) (ν := Unit) (mewslaw23.MemberPlays.body0 l r272 s_) (fun s485 v => [(0, .int .u64 seed), (2, .str s_), (7, .rp rg r272.1), (8, .sl .no 1 (s485.r.map AV.str)), (24, .sl .no 2 (l.map mewslaw23.Op.av)), (25, .i (l.length : Int)), (26, .i s485.t26)]) (fun s485 v => [(rg, .abs (regAbs s485.mem))]) ⟨([] : List (List UInt8)), 0, r272.2⟩ () _ h (Weak.mkL [0] (by decide) ⟨⟨_, Z, Z⟩, trivial⟩ ⟨tm Z, tm Z, tm Z, (AEv.le (tm Z) (AV.Le.forget _ _ _)), tm Z, tm Z, tm Z, trivial⟩) ?_))))))
    rintro s485 _ x487 h hx486
    unfold mewslaw23.MemberPlays.body0 at h
    refine xr (xa (.bool (decide (s485.t26 < (l.length : Int)))) Z (pu_int (v := .bool (decide (s485.t26 < (l.length : Int)))) Z Z (tm Z) (tm Z) Z) (xe (aw_seq (aw_cond (b := decide (s485.t26 < (l.length : Int))) (tm Z) (fun hb527 => ?_) (fun hb527 => ?_)))))
    ·replace h := ite_t (dec_t hb527) h
     refine aw_skip (aw_seq (aw_block (aw_seq (aw_region ?_))))
     obtain ⟨c489, h⟩ := need_of h
     refine xa (.vptr [.bool (ix l s485.t26).Drop, .sl .no 1 ((ix l s485.t26).Members.map AV.str)]) Z (pu_indexAddrM Z underlying32 sizeOf35 (tm Z) (tm Z) c489 Z) (xc Z (op_loadVN Z isAgg35 sizeOf35 (tm Z) (nb Z) Z (xc Z (op_alloc (cs := [.bool false, .sl .full 1 (([] : List (List UInt8)).map AV.str)]) (v := .agg [.bool false, .sl .full 1 (([] : List (List UInt8)).map AV.str)]) Z zeroValue35 Z Z Z ?_))))
     intro p490
     refine ac0 Z Z (op_store (i := 0) (cs' := [.bool (ix l s485.t26).Drop, .sl .no 1 ((ix l s485.t26).Members.map AV.str)]) Z sizeOf35 (tm Z) (v := .agg [.bool (ix l s485.t26).Drop, .sl .no 1 ((ix l s485.t26).Members.map AV.str)]) (tm Z) Z Z Z (nb Z) Z (xe (aw_seq (xr (xa (.ptr p490 1) Z (fa Z underlying35 Z sizeOf22 Z Z Z) (xc Z (op_load1 (i := 0) Z isAgg22 (tm Z) Z Z (xc Z (op_buildSlice (xs := ([(ix l s485.t26).Members] : List (List (List UInt8))).map av_List_List_UInt8) (aparts := [(0, .sl .no 1 ((ix l s485.t26).Members.map AV.str))]) Z underlying42 sizeOf22 zeroValue22 (by decide) (by decide) ⟨Z, (tm Z), trivial⟩ Z Z Z ?_)))))))))
     obtain ⟨r491, r491e, h⟩ := bind_some h
     refine xc Z (op_call (vs := [.sl .no 1 ([(ix l s485.t26).Members].map av_List_List_UInt8)]) (H := []) Z call5 ⟨(AEv.le (tm Z) (AV.Le.forget _ _ _)), trivial⟩ (List.Perm.refl _) (mewslaw23.far.ok r491e) ?_)
     rintro _ _ ⟨rfl, rfl⟩
     refine xe (aw_cond (b := r491) (tm Z) (fun hb526 => ?_) (fun hb526 => ?_))
     ·replace h := ite_t hb526 h
      refine aw_seq (aw_region ?_)
      obtain ⟨r492, r492e, h⟩ := bind_some h
      refine xc Z (op_call (vs := []) (H := []) Z call6 trivial (List.Perm.refl _) (mewslaw23.alive.ok r492e) ?_)
      rintro _ _ ⟨rfl, rfl⟩
      refine xm Z Z Z (xe (aw_ret ?_))
      obtain rfl := some_of h
      have h := congrArg some (hx486 _ rfl)
      obtain rfl := some_of h
      have h := onSum_inr h403
      obtain rfl := some_of h
      exact ⟨[.bool r492], _, [], ⟨(tm Z), trivial⟩, vr, Weak.mkL [] (by decide) trivial trivial, ⟨Z, Z⟩⟩
     ·replace h := ite_fb hb526 h
      refine aw_skip (xr (xa (.i 0) Z (pu_assign Z (AEv.int _ _)) (xa (.i 0) Z (pu_assign Z (AEv.int _ _)) (xe ?_))))
      obtain ⟨s498, s498e, h499⟩ := bind_some h
      refine aw_meet (ν := Unit) (fun v => [(0, .int .u64 seed), (2, .str s_), (7, .rp rg r272.1), (8, .sl .no 1 (s498.1.map AV.str)), (11, .i s498.2.1), (12, .i s498.2.2.1), (24, .sl .no 2 (l.map mewslaw23.Op.av)), (25, .i (l.length : Int)), (26, .i s485.t26)]) (fun v => [(rg, .abs (regAbs s498.2.2.2))]) ?_ ?_
      ·have h := s498e
       refine xr (xa (.ptr p490 0) Z (fa Z underlying35 Z sizeOf4 Z Z Z) (xc Z (op_load1 (i := 0) Z isAgg4 (tm Z) Z Z (xe (aw_cond (b := (ix l s485.t26).Drop) (tm Z) (fun hb505 => ?_) (fun hb505 => ?_))))))
       ·replace h := ite_t hb505 h
        refine xr (xm Z Z Z (xa (.ptr p490 1) Z (fa Z underlying35 Z sizeOf22 Z Z Z) (xc Z (op_load1 (i := 0) Z isAgg22 (tm Z) Z Z ?_))))
        obtain ⟨r501, r501e, h⟩ := bind_some h
        refine aops_weak (weak_pick [1, 0] (by decide) Z) (xc Z (op_call (vs := [.rp rg r272.1, .sl .no 1 ((ix l s485.t26).Members.map AV.str)]) (H := [(rg, .abs (regAbs s485.mem))]) Z call8 ⟨(tm Z), (tm Z), trivial⟩ (List.Perm.refl _) (member.Drop.ok r501e rg) ?_))
        rintro _ _ ⟨rfl, rfl⟩
        refine xm Z Z Z (xe (aw_region (xm Z Z Z (xa (.ptr p490 1) Z (fa Z underlying35 Z sizeOf22 Z Z Z) (xc Z (op_load1 (i := 1) Z isAgg22 (tm Z) Z Z ?_))))))
        obtain ⟨r502, r502e, h⟩ := bind_some h
        refine xc Z (op_call (vs := [.sl .no 1 (s485.r.map AV.str), .sl .no 1 ((ix l s485.t26).Members.map AV.str)]) (H := []) Z call15 ⟨(tm Z), (tm Z), trivial⟩ (List.Perm.refl _) (mewsref23.Drop.ok r502e) ?_)
        rintro _ _ ⟨rfl, rfl⟩
        refine xm Z Z Z (xa (.sl .no 1 (r502.1.map AV.str)) Z (pu_extract Z (tm Z) (nb Z) Z) (xa (.i r502.2) Z (pu_extract Z (tm Z) (nb Z) Z) (xm Z Z Z (xm Z Z Z (xe ?_)))))
        obtain rfl := some_of h
        exact ⟨(), Weak.mkL [0] (by decide) ⟨⟨_, Z, Z⟩, trivial⟩ ⟨tm Z, tm Z, tm Z, tm Z, tm Z, tm Z, tm Z, tm Z, tm Z, trivial⟩⟩
       ·replace h := ite_fb hb505 h
        refine xr (xm Z Z Z (xa (.ptr p490 1) Z (fa Z underlying35 Z sizeOf22 Z Z Z) (xc Z (op_load1 (i := 0) Z isAgg22 (tm Z) Z Z ?_))))
        obtain ⟨r503, r503e, h⟩ := bind_some h
        refine aops_weak (weak_pick [1, 0] (by decide) Z) (xc Z (op_call (vs := [.rp rg r272.1, .sl .no 1 ((ix l s485.t26).Members.map AV.str)]) (H := [(rg, .abs (regAbs s485.mem))]) Z call7 ⟨(tm Z), (tm Z), trivial⟩ (List.Perm.refl _) (member.Put.ok r503e rg) ?_))
        rintro _ _ ⟨rfl, rfl⟩
        refine xm Z Z Z (xe (aw_region (xm Z Z Z (xa (.ptr p490 1) Z (fa Z underlying35 Z sizeOf22 Z Z Z) (xc Z (op_load1 (i := 1) Z isAgg22 (tm Z) Z Z ?_))))))
        obtain ⟨r504, r504e, h⟩ := bind_some h
        refine xc Z (op_call (vs := [.sl .no 1 (s485.r.map AV.str), .sl .no 1 ((ix l s485.t26).Members.map AV.str)]) (H := []) Z call16 ⟨(tm Z), (tm Z), trivial⟩ (List.Perm.refl _) (mewsref23.Put.ok r504e) ?_)
        rintro _ _ ⟨rfl, rfl⟩
        refine xm Z Z Z (xa (.sl .no 1 (r504.1.map AV.str)) Z (pu_extract Z (tm Z) (nb Z) Z) (xa (.i r504.2) Z (pu_extract Z (tm Z) (nb Z) Z) (xm Z Z Z (xm Z Z Z (xe ?_)))))
        obtain rfl := some_of h
        exact ⟨(), Weak.mkL [0] (by decide) ⟨⟨_, Z, Z⟩, trivial⟩ ⟨tm Z, tm Z, tm Z, tm Z, tm Z, tm Z, tm Z, tm Z, tm Z, trivial⟩⟩
      ·intro _
       have h := h499
       obtain ⟨s514, s514e, h515⟩ := bind_some h
       refine aw_meet (ν := Unit) (fun v => [(0, .int .u64 seed), (2, .str s_), (7, .rp rg r272.1), (8, .sl .no 1 (s498.1.map AV.str)), (24, .sl .no 2 (l.map mewslaw23.Op.av)), (25, .i (l.length : Int)), (26, .i s485.t26), (84, .bool s514.1)]) (fun v => [(rg, .abs (regAbs s514.2))]) ?_ ?_
       ·have h := s514e
        refine aw_region (xm Z Z Z (xm Z Z Z (xa (.bool (!decide (s498.2.1 = s498.2.2.1))) Z (pu_int (v := .bool (!decide (s498.2.1 = s498.2.2.1))) Z Z (tm Z) (tm Z) Z) (xm Z Z Z ?_))))
        rcases Bool.eq_false_or_eq_true (!decide (s498.2.1 = s498.2.2.1)) with hb517 | hb517
        ·replace h := ite_f (ndec_t hb517) h
         refine aops_known 62 Z hb517 (xn Z Z Z (xn Z Z Z (xn Z Z Z (xn Z Z Z (xn Z Z Z (xa (.bool true) Z (pu_pick (b := true) Z (tm Z) (fun _ => (AEv.bool _)) (fun h => nomatch h)) (xm Z Z Z (xn Z Z Z (xn Z Z Z ?_)))))))))
         refine xn Z Z Z (xn Z Z Z (xn Z Z Z (xn Z Z Z (xn Z Z Z (xa (.bool true) Z (pu_pick (b := true) Z (tm Z) (fun _ => (AEv.bool _)) (fun h => nomatch h)) (xm Z Z Z (xn Z Z Z (xn Z Z Z (xn Z Z Z ?_)))))))))
         refine xn Z Z Z (xn Z Z Z (xa (.bool true) Z (pu_pick (b := true) Z (tm Z) (fun _ => (AEv.bool _)) (fun h => nomatch h)) (xe ?_)))
         obtain rfl := some_of h
         exact ⟨(), Weak.mkL [0] (by decide) ⟨⟨_, Z, Z⟩, trivial⟩ ⟨tm Z, tm Z, tm Z, tm Z, tm Z, tm Z, tm Z, tm Z, trivial⟩⟩
        ·replace h := ite_t (ndec_f hb517) h
         refine aops_known 62 Z hb517 (xq Z Z Z Z ?_)
         obtain ⟨r518, r518e, h⟩ := bind_some h
         refine xg Z Z (op_call (vs := [.rp rg r272.1]) (H := [(rg, .abs (regAbs s498.2.2.2))]) Z call10 ⟨(tm Z), trivial⟩ (List.Perm.refl _) (member.All.ok r518e rg) ?_)
         rintro _ _ ⟨rfl, rfl⟩
         refine xq Z Z Z Z ?_
         obtain ⟨r519, r519e, h⟩ := bind_some h
         refine xg Z Z (op_call (vs := [.sl .no 1 (r518.1.map AV.str), .sl .no 1 (s498.1.map AV.str)]) (H := []) Z call17 ⟨(tm Z), (tm Z), trivial⟩ (List.Perm.refl _) (mewsref02.Same.ok r519e) ?_)
         rintro _ _ ⟨rfl, rfl⟩
         refine xp (.bool (!r519)) Z Z (pu_not Z (tm Z)) (xa (.bool (!r519)) Z (pu_pick (b := false) Z (tm Z) (fun h => nomatch h) (fun _ => (tm Z))) (xm Z Z Z ?_))
         rcases Bool.eq_false_or_eq_true (!r519) with hb520 | hb520
         ·replace h := ite_t hb520 h
          refine aops_known 69 Z hb520 (xn Z Z Z (xn Z Z Z (xn Z Z Z (xn Z Z Z (xn Z Z Z (xn Z Z Z (xn Z Z Z (xa (.bool true) Z (pu_pick (b := true) Z (tm Z) (fun _ => (AEv.bool _)) (fun h => nomatch h)) (xm Z Z Z ?_)))))))))
          refine xn Z Z Z (xn Z Z Z (xn Z Z Z (xn Z Z Z (xn Z Z Z (xa (.bool true) Z (pu_pick (b := true) Z (tm Z) (fun _ => (AEv.bool _)) (fun h => nomatch h)) (xe ?_))))))
          obtain rfl := some_of h
          exact ⟨(), Weak.mkL [0] (by decide) ⟨⟨_, Z, Z⟩, trivial⟩ ⟨tm Z, tm Z, tm Z, tm Z, tm Z, tm Z, tm Z, tm Z, trivial⟩⟩
         ·replace h := ite_fb hb520 h
          refine aops_known 69 Z hb520 (xq Z Z Z Z (xq Z Z Z Z ?_))
          obtain ⟨r521, r521e, h⟩ := bind_some h
          refine xg Z Z (op_call (vs := [.rp rg r272.1, .str s_]) (H := [(rg, .abs (regAbs r518.2))]) Z call9 ⟨(tm Z), (tm Z), trivial⟩ (List.Perm.refl _) (member.Has.ok r521e rg) ?_)
          rintro _ _ ⟨rfl, rfl⟩
          refine xq Z Z Z Z (xq Z Z Z Z ?_)
          obtain ⟨r522, r522e, h⟩ := bind_some h
          refine xg Z Z (op_call (vs := [.sl .no 1 (s498.1.map AV.str), .str s_]) (H := []) Z call18 ⟨(tm Z), (tm Z), trivial⟩ (List.Perm.refl _) (mewsref23.Has.ok r522e) ?_)
          rintro _ _ ⟨rfl, rfl⟩
          refine xp (.bool (!(r521 == r522))) Z Z (pu_boolNe Z underlying4 (tm Z) (tm Z)) (xa (.bool (!(r521 == r522))) Z (pu_pick (b := false) Z (tm Z) (fun h => nomatch h) (fun _ => (tm Z))) (xm Z Z Z ?_))
          rcases Bool.eq_false_or_eq_true (!(r521 == r522)) with hb523 | hb523
          ·replace h := ite_t hb523 h
           refine aops_known 78 Z hb523 (xn Z Z Z (xn Z Z Z (xn Z Z Z (xn Z Z Z (xn Z Z Z (xa (.bool true) Z (pu_pick (b := true) Z (tm Z) (fun _ => (AEv.bool _)) (fun h => nomatch h)) (xe ?_)))))))
           obtain rfl := some_of h
           exact ⟨(), Weak.mkL [0] (by decide) ⟨⟨_, Z, Z⟩, trivial⟩ ⟨tm Z, tm Z, tm Z, tm Z, tm Z, tm Z, tm Z, tm Z, trivial⟩⟩
          ·replace h := ite_fb hb523 h
           refine aops_known 78 Z hb523 (xq Z Z Z Z ?_)
           obtain ⟨r524, r524e, h⟩ := bind_some h
           refine xg Z Z (op_call (vs := [.rp rg r272.1]) (H := [(rg, .abs (regAbs r518.2))]) Z call19 ⟨(tm Z), trivial⟩ (List.Perm.refl _) (dict.Table_bool.Len.ok r524e rg) ?_)
           rintro _ _ ⟨rfl, rfl⟩
           refine xq Z Z Z Z (xp (.i (s498.1.length : Int)) Z Z (pu_lenM Z underlying22 (tm Z)) (xp (.bool (!decide (r524 = (s498.1.length : Int)))) Z Z (pu_int (v := .bool (!decide (r524 = (s498.1.length : Int)))) Z Z (tm Z) (tm Z) Z) (xa (.bool (!decide (r524 = (s498.1.length : Int)))) Z (pu_pick (b := false) Z (tm Z) (fun h => nomatch h) (fun _ => (tm Z))) (xe ?_))))
           obtain rfl := some_of h
           exact ⟨(), Weak.mkL [0] (by decide) ⟨⟨_, Z, Z⟩, trivial⟩ ⟨tm Z, tm Z, tm Z, tm Z, tm Z, tm Z, tm Z, tm Z, trivial⟩⟩
       ·intro _
        have h := h515
        refine aw_cond (b := s514.1) (tm Z) (fun hb525 => ?_) (fun hb525 => ?_)
        ·replace h := ite_t hb525 h
         refine xr (xa (.bool false) Z (pu_assign Z (AEv.bool _)) (xe (aw_ret ?_)))
         obtain rfl := some_of h
         have h := congrArg some (hx486 _ rfl)
         obtain rfl := some_of h
         have h := onSum_inr h403
         obtain rfl := some_of h
         exact ⟨[.bool false], _, [], ⟨(tm Z), trivial⟩, vr, Weak.mkL [] (by decide) trivial trivial, ⟨Z, Z⟩⟩
        ·replace h := ite_fb hb525 h
         refine aw_skip (aw_region (xa (.i (IntKind.wrap .i64 (s485.t26 + 1))) Z (pu_int (v := .i (IntKind.wrap .i64 (s485.t26 + 1))) Z Z (tm Z) (AEv.int _ _) Z) (xm Z Z Z (xe ?_))))
         obtain rfl := some_of h
         exact ⟨_, (), Z, Weak.mkL [0] (by decide) ⟨⟨_, Z, Z⟩, trivial⟩ ⟨tm Z, tm Z, tm Z, tm Z, tm Z, tm Z, (AEv.le (tm Z) vr), trivial⟩⟩
    ·replace h := ite_f (dec_f hb527) h
     refine aw_exit ?_
     obtain rfl := some_of h
     have h := congrArg some (hx486 _ rfl)
     exact ⟨(s485.r, s485.mem), (), (some_of h).symm, Weak.mkL [0] (by decide) ⟨⟨_, Z, Z⟩, trivial⟩ ⟨tm Z, tm Z, trivial⟩⟩

end Go.Pu
