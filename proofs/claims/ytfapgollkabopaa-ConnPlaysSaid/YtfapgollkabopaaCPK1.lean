/- Printed by lift.py: the functions come to them. -/
import Derived.Test.YtfapgollkabopaaLiftW
import Derived.Test.YtfapgollkabopaaCPK0
set_option maxRecDepth 100000
set_option maxHeartbeats 0
namespace Go.Pu
open Go.Lift Go.Proofs.Try Go.RowKit Go.Proofs

theorem parse.parser.line.ok {p_ : parse.parser} {r : Bool × parse.parser} (h : parse.parser.line p_ = some r) (o0 q0 q1 : Nat) : Go.Lift.Spec prog 75 [.ptr o0 0] [(o0, .cells (parse.parser.ct (.own q0) (.own q1) p_)), (q0, .spare), (q1, .spare)] (fun v H => ∃ n0 n1, v = .bool r.1 ∧ H = [(o0, .cells [.str r.2.in_.Rest, .sl (.own n0) 1 (r.2.in_.Args.map AV.str), .i r.2.in_.Left, .i r.2.in_.Size, .bool r.2.in_.Body, .i r.2.in_.Need, .i r.2.in_.Dead, .str r.2.s, .i r.2.l.Args, .i r.2.l.Bulk, .i r.2.l.Line, .sl (.own n1) 2 (r.2.out.map api.Request.av)]), (n0, .spare), (n1, .spare)]) := by
 unfold parse.parser.line at h
 refine Go.Lift.Spec.of_body (rs := [.tmp 2]) func75 Z Z (nb Z) Z (xr (xc Z (op_box (cs := [.ptr o0 0]) (v := .ptr o0 0) Z (tm Z) Z Z ?_)))
 intro p35
 refine xa (.bool false) Z (pu_assign Z (AEv.bool _)) (xe (xr (xc Z (op_load1 (i := 0) Z isAgg91 (tm Z) Z Z (xa (.ptr o0 0) Z (pu_nilCheck Z (tm Z) Z) (xa (.ptr o0 7) Z (fa Z underlying93 Z sizeOf9 Z Z Z) (xc Z (op_load1 (i := 1) Z isAgg9 (tm Z) Z Z ?_))))))))
 obtain ⟨r36, r36e, h⟩ := bind_some h
 refine xc Z (op_call (vs := [.str p_.s, .int .u8 10]) (H := []) Z call87 ⟨(tm Z), (AEv.int _ _), trivial⟩ (List.Perm.refl _) (strings.IndexByte.ok r36e) ?_)
 rintro _ _ ⟨rfl, rfl⟩
 refine xm Z Z Z (xe (aw_seq ?_))
 obtain ⟨s39, s39e, h40⟩ := letO_of h
 refine aw_meet (ν := Unit) (fun v => [(1, .ptr p35 0), (3, .i r36), (35, .bool s39)]) (fun v => [(p35, .cells [.ptr o0 0]), (o0, .cells (parse.parser.ct (.own q0) (.own q1) p_)), (q0, .spare), (q1, .spare)]) ?_ ?_
 ·have h := s39e.symm
  rcases Bool.eq_false_or_eq_true (decide (r36 < 0)) with hb42 | hb42
  ·replace h := ite_t (dec_t hb42) h
   rcases Bool.eq_false_or_eq_true (decide (p_.l.Line < (p_.s.length : Int))) with hb43 | hb43
   ·replace h := ite_t (dec_t hb43) h
    refine aw_planR (by decide +kernel) [[], [], [], [(0, 0, false)], [], [], [(1, 0, false)], [], [(0, 0, false)], [], [], [], [(1, 0, false)], [], [], [], [], [], [], [], [], [], [], []] [[], [], [], []] [[[(p35, .cells [.ptr o0 0])]], [[(o0, .cells (parse.parser.ct (.own q0) (.own q1) p_))]], [[(q0, .spare)]], [[(q1, .spare)]]] [.i r36, .bool (decide (r36 < 0)), .bool true, .ptr o0 0, .ptr o0 0, .ptr o0 7, .str p_.s, .i (p_.s.length : Int), .ptr o0 0, .ptr o0 0, .ptr o0 8, .ptr o0 10, .i p_.l.Line, .bool (decide (p_.l.Line < (p_.s.length : Int))), .bool (decide (p_.l.Line < (p_.s.length : Int))), .bool true, .lit undef, .lit undef, .lit undef, .lit undef, .lit undef, .lit undef, .lit undef, .bool true] (by decide +kernel) Z Z ?_ ?_
    ·exact ⟨ym Z Z Z, yp Z (pu_int (v := .bool (decide (r36 < 0))) Z Z (tm Z) (AEv.int _ _) Z), AStepG.cast (ym Z Z Z) (congrArg AV.bool hb42), yg Z Z (op_load1 (i := 0) Z isAgg91 (tm Z) Z Z ⟨Z, Z⟩), yq Z Z (pu_nilCheck Z (tm Z) Z), yq Z Z (fa Z underlying93 Z sizeOf9 Z Z Z), yg Z Z (op_load1 (i := 0) Z isAgg9 (tm Z) Z Z ⟨Z, Z⟩), yq Z Z (pu_strLen Z underlying9 (tm Z)), yg Z Z (op_load1 (i := 0) Z isAgg91 (tm Z) Z Z ⟨Z, Z⟩), yq Z Z (pu_nilCheck Z (tm Z) Z), yq Z Z (fa Z underlying93 Z sizeOf23 Z Z Z), yq Z Z (fa Z underlying23 Z sizeOf3 Z Z Z), yg Z Z (op_load1 (i := 0) Z isAgg3 (tm Z) Z Z ⟨Z, Z⟩), yq Z Z (pu_int (v := .bool (decide (p_.l.Line < (p_.s.length : Int)))) Z Z (tm Z) (tm Z) Z), yp Z (pu_pick (b := true) Z (tm Z) (fun _ => (tm Z)) (fun h => nomatch h)), AStepG.cast (ym Z Z Z) (congrArg AV.bool hb43), yx Z Z Z, yx Z Z Z, yx Z Z Z, yx Z Z Z, yx Z Z Z, yx Z Z Z, yx Z Z Z, yp Z (pu_pick (b := true) Z (tm Z) (fun _ => (AEv.bool _)) (fun h => nomatch h)), trivial⟩
    subst h
    exact ⟨(), Weak.mkL [0, 1, 2, 3] (by decide) ⟨⟨_, Z, ⟨vr, trivial⟩, Z⟩, ⟨_, Z, cr, Z⟩, ⟨_, Z, Z⟩, ⟨_, Z, Z⟩, trivial⟩ ⟨tm Z, tm Z, tm Z, trivial⟩⟩
   ·replace h := ite_f (dec_f hb43) h
    refine aw_planR (by decide +kernel) [[], [], [], [(0, 0, false)], [], [], [(1, 0, false)], [], [(0, 0, false)], [], [], [], [(1, 0, false)], [], [], [], [], [(0, 0, false)], [], [], [], [(1, 0, false)], [], []] [[], [], [], []] [[[(p35, .cells [.ptr o0 0])]], [[(o0, .cells (parse.parser.ct (.own q0) (.own q1) p_))]], [[(q0, .spare)]], [[(q1, .spare)]]] [.i r36, .bool (decide (r36 < 0)), .bool true, .ptr o0 0, .ptr o0 0, .ptr o0 7, .str p_.s, .i (p_.s.length : Int), .ptr o0 0, .ptr o0 0, .ptr o0 8, .ptr o0 10, .i p_.l.Line, .bool (decide (p_.l.Line < (p_.s.length : Int))), .bool (decide (p_.l.Line < (p_.s.length : Int))), .bool false, .i r36, .ptr o0 0, .ptr o0 0, .ptr o0 8, .ptr o0 10, .i p_.l.Line, .bool (decide (p_.l.Line < r36)), .bool (decide (p_.l.Line < r36))] (by decide +kernel) Z Z ?_ ?_
    ·exact ⟨ym Z Z Z, yp Z (pu_int (v := .bool (decide (r36 < 0))) Z Z (tm Z) (AEv.int _ _) Z), AStepG.cast (ym Z Z Z) (congrArg AV.bool hb42), yg Z Z (op_load1 (i := 0) Z isAgg91 (tm Z) Z Z ⟨Z, Z⟩), yq Z Z (pu_nilCheck Z (tm Z) Z), yq Z Z (fa Z underlying93 Z sizeOf9 Z Z Z), yg Z Z (op_load1 (i := 0) Z isAgg9 (tm Z) Z Z ⟨Z, Z⟩), yq Z Z (pu_strLen Z underlying9 (tm Z)), yg Z Z (op_load1 (i := 0) Z isAgg91 (tm Z) Z Z ⟨Z, Z⟩), yq Z Z (pu_nilCheck Z (tm Z) Z), yq Z Z (fa Z underlying93 Z sizeOf23 Z Z Z), yq Z Z (fa Z underlying23 Z sizeOf3 Z Z Z), yg Z Z (op_load1 (i := 0) Z isAgg3 (tm Z) Z Z ⟨Z, Z⟩), yq Z Z (pu_int (v := .bool (decide (p_.l.Line < (p_.s.length : Int)))) Z Z (tm Z) (tm Z) Z), yp Z (pu_pick (b := true) Z (tm Z) (fun _ => (tm Z)) (fun h => nomatch h)), AStepG.cast (ym Z Z Z) (congrArg AV.bool hb43), yq Z Z (pu_move Z (tm Z)), yg Z Z (op_load1 (i := 0) Z isAgg91 (tm Z) Z Z ⟨Z, Z⟩), yq Z Z (pu_nilCheck Z (tm Z) Z), yq Z Z (fa Z underlying93 Z sizeOf23 Z Z Z), yq Z Z (fa Z underlying23 Z sizeOf3 Z Z Z), yg Z Z (op_load1 (i := 0) Z isAgg3 (tm Z) Z Z ⟨Z, Z⟩), yq Z Z (pu_int (v := .bool (decide (p_.l.Line < r36))) Z Z (tm Z) (tm Z) Z), yp Z (pu_pick (b := false) Z (tm Z) (fun h => nomatch h) (fun _ => (tm Z))), trivial⟩
    subst h
    exact ⟨(), Weak.mkL [0, 1, 2, 3] (by decide) ⟨⟨_, Z, ⟨vr, trivial⟩, Z⟩, ⟨_, Z, cr, Z⟩, ⟨_, Z, Z⟩, ⟨_, Z, Z⟩, trivial⟩ ⟨tm Z, tm Z, (AEv.le (tm Z) vr), trivial⟩⟩
  ·replace h := ite_f (dec_f hb42) h
   refine aw_planR (by decide +kernel) [[], [], [], [], [], [], [], [], [], [], [], [], [], [], [], [], [], [(0, 0, false)], [], [], [], [(1, 0, false)], [], []] [[], [], [], []] [[[(p35, .cells [.ptr o0 0])]], [[(o0, .cells (parse.parser.ct (.own q0) (.own q1) p_))]], [[(q0, .spare)]], [[(q1, .spare)]]] [.i r36, .bool (decide (r36 < 0)), .bool false, .lit undef, .lit undef, .lit undef, .lit undef, .lit undef, .lit undef, .lit undef, .lit undef, .lit undef, .lit undef, .lit undef, .bool false, .bool false, .i r36, .ptr o0 0, .ptr o0 0, .ptr o0 8, .ptr o0 10, .i p_.l.Line, .bool (decide (p_.l.Line < r36)), .bool (decide (p_.l.Line < r36))] (by decide +kernel) Z Z ?_ ?_
   ·exact ⟨ym Z Z Z, yp Z (pu_int (v := .bool (decide (r36 < 0))) Z Z (tm Z) (AEv.int _ _) Z), AStepG.cast (ym Z Z Z) (congrArg AV.bool hb42), yx Z Z Z, yx Z Z Z, yx Z Z Z, yx Z Z Z, yx Z Z Z, yx Z Z Z, yx Z Z Z, yx Z Z Z, yx Z Z Z, yx Z Z Z, yx Z Z Z, yp Z (pu_pick (b := false) Z (tm Z) (fun h => nomatch h) (fun _ => (AEv.bool _))), ym Z Z Z, yq Z Z (pu_move Z (tm Z)), yg Z Z (op_load1 (i := 0) Z isAgg91 (tm Z) Z Z ⟨Z, Z⟩), yq Z Z (pu_nilCheck Z (tm Z) Z), yq Z Z (fa Z underlying93 Z sizeOf23 Z Z Z), yq Z Z (fa Z underlying23 Z sizeOf3 Z Z Z), yg Z Z (op_load1 (i := 0) Z isAgg3 (tm Z) Z Z ⟨Z, Z⟩), yq Z Z (pu_int (v := .bool (decide (p_.l.Line < r36))) Z Z (tm Z) (tm Z) Z), yp Z (pu_pick (b := false) Z (tm Z) (fun h => nomatch h) (fun _ => (tm Z))), trivial⟩
   subst h
   exact ⟨(), Weak.mkL [0, 1, 2, 3] (by decide) ⟨⟨_, Z, ⟨vr, trivial⟩, Z⟩, ⟨_, Z, cr, Z⟩, ⟨_, Z, Z⟩, ⟨_, Z, Z⟩, trivial⟩ ⟨tm Z, tm Z, (AEv.le (tm Z) vr), trivial⟩⟩
 ·intro _
  have h := h40
  refine aw_cond (b := s39) (tm Z) (fun hb73 => ?_) (fun hb73 => ?_)
  ·replace h := ite_t hb73 h
   refine xr (xc Z (op_load1 (i := 0) Z isAgg91 (tm Z) Z Z ?_))
   obtain ⟨r44, r44e, h⟩ := bind_some h
   refine aops_weak (weak_pick [1, 2, 3, 0] (by decide) Z) (xc Z (op_call (vs := [.ptr o0 0, .i 6]) (H := [(o0, .cells (parse.parser.ct (.own q0) (.own q1) p_)), (q0, .spare), (q1, .spare)]) Z call85 ⟨(tm Z), (AEv.int _ _), trivial⟩ (List.Perm.refl _) (parse.parser.dies.ok r44e o0 q0 q1) ?_))
   rintro _ _ ⟨t45, rfl, rfl⟩
   refine xm Z Z Z (xe (aw_claimCell 0 1 Z Z fun t46 => (aw_ret ?_)))
   obtain rfl := some_of h
   exact ⟨[.bool r44.1], _, [(o0, .cells (parse.parser.ct (.own t46) (.own t45) r44.2)), (t46, .spare), (t45, .spare)], ⟨(tm Z), trivial⟩, vr, Weak.mkL [1, 0, 2] (by decide) ⟨⟨_, Z, cr, Z⟩, ⟨_, Z, Z⟩, ⟨_, Z, Z⟩, trivial⟩ trivial, ⟨t46, t45, Z, Z⟩⟩
  ·replace h := ite_fb hb73 h
   refine aw_skip (aw_seq (xr (xm Z Z Z (xa (.bool (decide (r36 < 0))) Z (pu_int (v := .bool (decide (r36 < 0))) Z Z (tm Z) (AEv.int _ _) Z) (xe (aw_cond (b := decide (r36 < 0)) (tm Z) (fun hb72 => ?_) (fun hb72 => ?_)))))))
   ·replace h := ite_t (dec_t hb72) h
    refine xr (xa (.bool false) Z (pu_assign Z (AEv.bool _)) (xe (aw_ret ?_)))
    obtain rfl := some_of h
    exact ⟨[.bool false], _, [(o0, .cells (parse.parser.ct (.own q0) (.own q1) p_)), (q0, .spare), (q1, .spare)], ⟨(tm Z), trivial⟩, vr, Weak.mkL [1, 2, 3] (by decide) ⟨⟨_, Z, cr, Z⟩, ⟨_, Z, Z⟩, ⟨_, Z, Z⟩, trivial⟩ trivial, ⟨q0, q1, Z, Z⟩⟩
   ·replace h := ite_f (dec_f hb72) h
    refine aw_skip (xr (xc Z (op_load1 (i := 0) Z isAgg91 (tm Z) Z Z (xa (.ptr o0 0) Z (pu_nilCheck Z (tm Z) Z) (xa (.ptr o0 7) Z (fa Z underlying93 Z sizeOf9 Z Z Z) (xc Z (op_load1 (i := 1) Z isAgg9 (tm Z) Z Z (xm Z Z Z ?_))))))))
    obtain ⟨c47, h⟩ := need_of h
    refine xa (.str (sub p_.s 0 r36)) Z (pu_strSliceM Z underlying9 (tm Z) Z ⟨_, (tm Z)⟩ c47) ?_
    obtain ⟨r48, r48e, h⟩ := bind_some h
    refine xc Z (op_call (vs := [.str (sub p_.s 0 r36), .str [13]]) (H := []) Z call89 ⟨(tm Z), (AEv.const Z), trivial⟩ (List.Perm.refl _) (strings.TrimSuffix.ok r48e) ?_)
    rintro _ _ ⟨rfl, rfl⟩
    obtain ⟨r49, r49e, h⟩ := bind_some h
    refine xc Z (op_call (vs := [.str r48]) (H := []) Z call88 ⟨(tm Z), trivial⟩ (List.Perm.refl _) (line.Split.ok r49e) ?_)
    rintro _ _ ⟨t50, rfl, rfl⟩
    refine xm Z Z Z (xa (.sl (.own t50) 1 (r49.1.map AV.str)) Z (pu_extract Z (tm Z) (nb Z) Z) (xa (.bool r49.2) Z (pu_extract Z (tm Z) (nb Z) Z) (xm Z Z Z (xm Z Z Z (xe (xr (xa (.fn 90 [.ptr p35 0]) Z (pu_makeFunc Z ⟨(tm Z), trivial⟩) (xm Z Z Z ?_))))))))
    refine xe (aw_seq (aw_block (xr (xm Z Z Z (xa (.bool (!r49.2)) Z (pu_not Z (tm Z)) (xm Z Z Z (xe (aw_cond (b := (!r49.2)) (tm Z) (fun hb71 => ?_) (fun hb71 => ?_)))))))))
    ·replace h := ite_t hb71 h
     refine xr (xc Z (op_load1 (i := 1) Z isAgg91 (tm Z) Z Z ?_))
     obtain ⟨r51, r51e, h⟩ := bind_some h
     refine aops_weak (weak_pick [2, 3, 4, 0, 1] (by decide) Z) (xc Z (op_call (vs := [.ptr o0 0, .i 16]) (H := [(o0, .cells (parse.parser.ct (.own q0) (.own q1) p_)), (q0, .spare), (q1, .spare)]) Z call85 ⟨(tm Z), (AEv.int _ _), trivial⟩ (List.Perm.refl _) (parse.parser.dies.ok r51e o0 q0 q1) ?_))
     rintro _ _ ⟨t52, rfl, rfl⟩
     refine xm Z Z Z (xe (aw_claimCell 0 1 Z Z fun t53 => (aw_ret ?_)))
     obtain rfl := some_of h
     exact ⟨[.bool r51.1], _, [(o0, .cells (parse.parser.ct (.own t53) (.own t52) r51.2)), (t53, .spare), (t52, .spare)], ⟨(tm Z), trivial⟩, vr, Weak.mkL [1, 0, 2] (by decide) ⟨⟨_, Z, cr, Z⟩, ⟨_, Z, Z⟩, ⟨_, Z, Z⟩, trivial⟩ trivial, ⟨t53, t52, Z, Z⟩⟩
    ·replace h := ite_fb hb71 h
     refine xr (xm Z Z Z (xa (.i (r49.1.length : Int)) Z (pu_lenM Z underlying26 (tm Z)) (xc Z (op_load1 (i := 1) Z isAgg91 (tm Z) Z Z (xa (.ptr o0 0) Z (pu_nilCheck Z (tm Z) Z) (xa (.ptr o0 8) Z (fa Z underlying93 Z sizeOf23 Z Z Z) (xa (.ptr o0 8) Z (fa Z underlying23 Z sizeOf3 Z Z Z) (xc Z (op_load1 (i := 2) Z isAgg3 (tm Z) Z Z (xa (.bool (decide (p_.l.Args < (r49.1.length : Int)))) Z (pu_int (v := .bool (decide (p_.l.Args < (r49.1.length : Int)))) Z Z (tm Z) (tm Z) Z) ?_))))))))))
     refine xm Z Z Z (xe (aw_cond (b := decide (p_.l.Args < (r49.1.length : Int))) (tm Z) (fun hb70 => ?_) (fun hb70 => ?_)))
     ·replace h := ite_t (dec_t hb70) h
      refine xr (xc Z (op_load1 (i := 1) Z isAgg91 (tm Z) Z Z ?_))
      obtain ⟨r54, r54e, h⟩ := bind_some h
      refine aops_weak (weak_pick [2, 3, 4, 0, 1] (by decide) Z) (xc Z (op_call (vs := [.ptr o0 0, .i 7]) (H := [(o0, .cells (parse.parser.ct (.own q0) (.own q1) p_)), (q0, .spare), (q1, .spare)]) Z call85 ⟨(tm Z), (AEv.int _ _), trivial⟩ (List.Perm.refl _) (parse.parser.dies.ok r54e o0 q0 q1) ?_))
      rintro _ _ ⟨t55, rfl, rfl⟩
      refine xm Z Z Z (xe (aw_claimCell 0 1 Z Z fun t56 => (aw_ret ?_)))
      obtain rfl := some_of h
      exact ⟨[.bool r54.1], _, [(o0, .cells (parse.parser.ct (.own t56) (.own t55) r54.2)), (t56, .spare), (t55, .spare)], ⟨(tm Z), trivial⟩, vr, Weak.mkL [1, 0, 2] (by decide) ⟨⟨_, Z, cr, Z⟩, ⟨_, Z, Z⟩, ⟨_, Z, Z⟩, trivial⟩ trivial, ⟨t56, t55, Z, Z⟩⟩
     ·replace h := ite_f (dec_f hb70) h
      refine xr (xm Z Z Z (xm Z Z Z ?_))
      obtain ⟨r57, r57e, h⟩ := bind_some h
      refine aops_weak (weak_pick [1, 2, 3, 4, 0] (by decide) Z) (xc Z (op_call (vs := [.sl .no 1 (r49.1.map AV.str), .fn 90 [.ptr p35 0]]) (H := [(p35, .cells [.ptr o0 0]), (o0, .cells (parse.parser.ct (.own q0) (.own q1) p_)), (q0, .spare), (q1, .spare)]) Z call91 ⟨(AEv.le (tm Z) (AV.Le.forget _ _ _)), (tm Z), trivial⟩ (List.Perm.refl _) (slices.ContainsFunc_string_parse_parser_line_1.ok r57e p35 o0 q0 q1) ?_))
      rintro _ _ ⟨t58, t59, rfl, rfl⟩
      refine xm Z Z Z (xe (aw_cond (b := r57) (tm Z) (fun hb69 => ?_) (fun hb69 => ?_)))
      ·replace h := ite_t hb69 h
       refine xr (xc Z (op_load1 (i := 0) Z isAgg91 (tm Z) Z Z ?_))
       obtain ⟨r60, r60e, h⟩ := bind_some h
       refine aops_weak (weak_pick [1, 2, 3, 0, 4] (by decide) Z) (xc Z (op_call (vs := [.ptr o0 0, .i 6]) (H := [(o0, .cells (parse.parser.ct (.own t58) (.own t59) p_)), (t58, .spare), (t59, .spare)]) Z call85 ⟨(tm Z), (AEv.int _ _), trivial⟩ (List.Perm.refl _) (parse.parser.dies.ok r60e o0 t58 t59) ?_))
       rintro _ _ ⟨t61, rfl, rfl⟩
       refine xm Z Z Z (xe (aw_claimCell 0 1 Z Z fun t62 => (aw_ret ?_)))
       obtain rfl := some_of h
       exact ⟨[.bool r60.1], _, [(o0, .cells (parse.parser.ct (.own t62) (.own t61) r60.2)), (t62, .spare), (t61, .spare)], ⟨(tm Z), trivial⟩, vr, Weak.mkL [1, 0, 2] (by decide) ⟨⟨_, Z, cr, Z⟩, ⟨_, Z, Z⟩, ⟨_, Z, Z⟩, trivial⟩ trivial, ⟨t62, t61, Z, Z⟩⟩
      ·replace h := ite_fb hb69 h
       refine aw_skip (xr (xc Z (op_load1 (i := 0) Z isAgg91 (tm Z) Z Z (xm Z Z Z (xa (.i (IntKind.wrap .i64 (r36 + 1))) Z (pu_int (v := .i (IntKind.wrap .i64 (r36 + 1))) Z Z (tm Z) (AEv.int _ _) Z) ?_)))))
       obtain ⟨r63, r63e, h⟩ := bind_some h
       refine aops_weak (weak_pick [1, 2, 3, 0, 4] (by decide) Z) (xc Z (op_call (vs := [.ptr o0 0, .i (IntKind.wrap .i64 (r36 + 1))]) (H := [(o0, .cells (parse.parser.ct (.own t58) (.own t59) p_)), (t58, .spare), (t59, .spare)]) Z call86 ⟨(tm Z), (tm Z), trivial⟩ (List.Perm.refl _) (parse.parser.past.ok r63e o0 t58 t59) ?_))
       rintro _ _ ⟨t64, t65, rfl, rfl⟩
       refine xe (xr (xc Z (op_load1 (i := 3) Z isAgg91 (tm Z) Z Z (xm Z Z Z ?_))))
       obtain ⟨r66, r66e, h⟩ := bind_some h
       refine xc Z (op_call (vs := [.ptr o0 0, .sl .no 1 (r49.1.map AV.str)]) (H := [(o0, .cells (parse.parser.ct (.own t64) (.own t65) r63)), (t64, .spare), (t65, .spare)]) Z call76 ⟨(tm Z), (AEv.le (tm Z) (AV.Le.forget _ _ _)), trivial⟩ (List.Perm.refl _) (parse.parser.whole.ok r66e o0 t64 t65) ?_)
       rintro _ _ ⟨t67, rfl, rfl⟩
       refine xe (xr (xa (.bool true) Z (pu_assign Z (AEv.bool _)) (xe (aw_claimCell 0 1 Z Z fun t68 => (aw_ret ?_)))))
       obtain rfl := some_of h
       exact ⟨[.bool true], _, [(o0, .cells (parse.parser.ct (.own t68) (.own t67) r66)), (t68, .spare), (t67, .spare)], ⟨(tm Z), trivial⟩, vr, Weak.mkL [1, 0, 2] (by decide) ⟨⟨_, Z, cr, Z⟩, ⟨_, Z, Z⟩, ⟨_, Z, Z⟩, trivial⟩ trivial, ⟨t68, t67, Z, Z⟩⟩

theorem parse.parser.step.ok {p_ : parse.parser} {r : Bool × parse.parser} (h : parse.parser.step p_ = some r) (o0 q0 q1 : Nat) : Go.Lift.Spec prog 51 [.ptr o0 0] [(o0, .cells (parse.parser.ct (.own q0) (.own q1) p_)), (q0, .spare), (q1, .spare)] (fun v H => ∃ n0 n1, v = .bool r.1 ∧ H = [(o0, .cells [.str r.2.in_.Rest, .sl (.own n0) 1 (r.2.in_.Args.map AV.str), .i r.2.in_.Left, .i r.2.in_.Size, .bool r.2.in_.Body, .i r.2.in_.Need, .i r.2.in_.Dead, .str r.2.s, .i r.2.l.Args, .i r.2.l.Bulk, .i r.2.l.Line, .sl (.own n1) 2 (r.2.out.map api.Request.av)]), (n0, .spare), (n1, .spare)]) := by
 unfold parse.parser.step at h
 refine Go.Lift.Spec.of_body (rs := [.tmp 2]) func51 Z Z (nb Z) Z (xr (xa (.bool false) Z (pu_assign Z (AEv.bool _)) (xe (aw_seq (aw_block (xr (xm Z Z Z ?_)))))))
 refine xa (.ptr o0 0) Z (pu_nilCheck Z (tm Z) Z) (xa (.ptr o0 0) Z (fa Z underlying93 Z sizeOf29 Z Z Z) (xa (.ptr o0 4) Z (fa Z underlying29 Z sizeOf4 Z Z Z) (xc Z (op_load1 (i := 0) Z isAgg4 (tm Z) Z Z (xm Z Z Z (xe (aw_cond (b := p_.in_.Body) (tm Z) (fun hb98 => ?_) (fun hb98 => ?_))))))))
 ·replace h := ite_t hb98 h
  refine xr (xm Z Z Z ?_)
  obtain ⟨r50, r50e, h⟩ := bind_some h
  refine xc Z (op_call (vs := [.ptr o0 0]) (H := [(o0, .cells (parse.parser.ct (.own q0) (.own q1) p_)), (q0, .spare), (q1, .spare)]) Z call73 ⟨(tm Z), trivial⟩ (List.Perm.refl _) (parse.parser.body.ok r50e o0 q0 q1) ?_)
  rintro _ _ ⟨t51, t52, rfl, rfl⟩
  refine xm Z Z Z (xe (aw_ret ?_))
  obtain rfl := some_of h
  exact ⟨[.bool r50.1], _, [(o0, .cells (parse.parser.ct (.own t51) (.own t52) r50.2)), (t51, .spare), (t52, .spare)], ⟨(tm Z), trivial⟩, vr, Weak.mkL [0, 1, 2] (by decide) ⟨⟨_, Z, cr, Z⟩, ⟨_, Z, Z⟩, ⟨_, Z, Z⟩, trivial⟩ trivial, ⟨t51, t52, Z, Z⟩⟩
 ·replace h := ite_fb hb98 h
  refine xr (xm Z Z Z (xa (.ptr o0 0) Z (pu_nilCheck Z (tm Z) Z) (xa (.ptr o0 0) Z (fa Z underlying93 Z sizeOf29 Z Z Z) (xa (.ptr o0 2) Z (fa Z underlying29 Z sizeOf3 Z Z Z) (xc Z (op_load1 (i := 0) Z isAgg3 (tm Z) Z Z (xa (.bool (decide (0 < p_.in_.Left))) Z (pu_int (v := .bool (decide (0 < p_.in_.Left))) Z Z (tm Z) (AEv.int _ _) Z) (xm Z Z Z (xe ?_)))))))))
  refine aw_cond (b := decide (0 < p_.in_.Left)) (tm Z) (fun hb97 => ?_) (fun hb97 => ?_)
  ·replace h := ite_t (dec_t hb97) h
   refine xr (xm Z Z Z (xm Z Z Z (xa (.ptr o0 0) Z (pu_nilCheck Z (tm Z) Z) (xa (.ptr o0 8) Z (fa Z underlying93 Z sizeOf23 Z Z Z) (xa (.ptr o0 9) Z (fa Z underlying23 Z sizeOf3 Z Z Z) (xc Z (op_load1 (i := 0) Z isAgg3 (tm Z) Z Z ?_)))))))
   obtain ⟨r53, r53e, h⟩ := bind_some h
   refine xc Z (op_call (vs := [.ptr o0 0, .int .u8 36, .i p_.l.Bulk, .i 6]) (H := [(o0, .cells (parse.parser.ct (.own q0) (.own q1) p_)), (q0, .spare), (q1, .spare)]) Z call74 ⟨(tm Z), (AEv.int _ _), (tm Z), (AEv.int _ _), trivial⟩ (List.Perm.refl _) (parse.parser.header.ok r53e o0 q0 q1) ?_)
   rintro _ _ ⟨t54, t55, rfl, rfl⟩
   refine xm Z Z Z (xa (.i r53.1) Z (pu_extract Z (tm Z) (nb Z) Z) (xa (.bool r53.2.1) Z (pu_extract Z (tm Z) (nb Z) Z) (xm Z Z Z (xm Z Z Z (xe ?_)))))
   obtain ⟨s57, s57e, h58⟩ := letO_of h
   refine aw_meet (ν := Unit) (fun v => [(4, .bool r53.2.1)]) (fun v => [(o0, .cells (parse.parser.ct (.own t54) (.own t55) { r53.2.2 with in_ := { r53.2.2.in_ with Body := s57.1, Need := s57.2 } })), (t54, .spare), (t55, .spare)]) ?_ ?_
   ·have h := s57e.symm
    refine xr (xm Z Z Z (xe (aw_cond (b := r53.2.1) (tm Z) (fun hb60 => ?_) (fun hb60 => ?_))))
    ·replace h := ite_t hb60 h
     refine aw_region (xm Z Z Z (xm Z Z Z (xm Z Z Z (xa (.ptr o0 0) Z (pu_nilCheck Z (tm Z) Z) (xa (.ptr o0 0) Z (fa Z underlying93 Z sizeOf29 Z Z Z) (xa (.ptr o0 4) Z (fa Z underlying29 Z sizeOf4 Z Z Z) (ac0 Z Z (op_store (i := 0) (cs' := (parse.parser.ct (.own t54) (.own t55) { r53.2.2 with in_ := { r53.2.2.in_ with Body := true } })) Z sizeOf4 (tm Z) (v := .bool true) (AEv.bool _) Z Z Z (nb Z) Z (xa (.ptr o0 0) Z (pu_nilCheck Z (tm Z) Z) (xa (.ptr o0 0) Z (fa Z underlying93 Z sizeOf29 Z Z Z) ?_))))))))))
     refine xa (.ptr o0 5) Z (fa Z underlying29 Z sizeOf3 Z Z Z) (ac0 Z Z (op_store (i := 0) (cs' := (parse.parser.ct (.own t54) (.own t55) { r53.2.2 with in_ := { r53.2.2.in_ with Body := true, Need := r53.1 } })) Z sizeOf3 (tm Z) (v := .i r53.1) (tm Z) Z Z Z (nb Z) Z (xe ?_)))
     subst h
     exact ⟨(), Weak.mkL [0, 1, 2] (by decide) ⟨⟨_, Z, cr, Z⟩, ⟨_, Z, Z⟩, ⟨_, Z, Z⟩, trivial⟩ ⟨tm Z, trivial⟩⟩
    ·replace h := ite_fb hb60 h
     refine aw_skip ?_
     subst h
     exact ⟨(), Weak.mkL [0, 1, 2] (by decide) ⟨⟨_, Z, cr, Z⟩, ⟨_, Z, Z⟩, ⟨_, Z, Z⟩, trivial⟩ ⟨tm Z, trivial⟩⟩
   ·intro _
    have h := h58
    refine xr (xm Z Z Z (xm Z Z Z (xe (aw_ret ?_))))
    obtain rfl := some_of h
    exact ⟨[.bool r53.2.1], _, [(o0, .cells (parse.parser.ct (.own t54) (.own t55) { r53.2.2 with in_ := { r53.2.2.in_ with Body := s57.1, Need := s57.2 } })), (t54, .spare), (t55, .spare)], ⟨(tm Z), trivial⟩, vr, Weak.mkL [0, 1, 2] (by decide) ⟨⟨_, Z, cr, Z⟩, ⟨_, Z, Z⟩, ⟨_, Z, Z⟩, trivial⟩ trivial, ⟨t54, t55, Z, Z⟩⟩
  ·replace h := ite_f (dec_f hb97) h
   refine xr (xm Z Z Z (xa (.ptr o0 0) Z (pu_nilCheck Z (tm Z) Z) (xa (.ptr o0 7) Z (fa Z underlying93 Z sizeOf9 Z Z Z) (xc Z (op_load1 (i := 0) Z isAgg9 (tm Z) Z Z (xa (.bool (decide (p_.s = ([] : List UInt8)))) Z (pu_str (v := .bool (decide (p_.s = ([] : List UInt8)))) Z Z (tm Z) (AEv.const Z) Z) (xm Z Z Z (xe (aw_cond (b := decide (p_.s = ([] : List UInt8))) (tm Z) (fun hb96 => ?_) (fun hb96 => ?_))))))))))
   ·replace h := ite_t (dec_t hb96) h
    refine xr (xa (.bool false) Z (pu_assign Z (AEv.bool _)) (xe (aw_ret ?_)))
    obtain rfl := some_of h
    exact ⟨[.bool false], _, [(o0, .cells (parse.parser.ct (.own q0) (.own q1) p_)), (q0, .spare), (q1, .spare)], ⟨(tm Z), trivial⟩, vr, Weak.mkL [0, 1, 2] (by decide) ⟨⟨_, Z, cr, Z⟩, ⟨_, Z, Z⟩, ⟨_, Z, Z⟩, trivial⟩ trivial, ⟨q0, q1, Z, Z⟩⟩
   ·replace h := ite_f (dec_f hb96) h
    refine xr (xm Z Z Z (xa (.ptr o0 0) Z (pu_nilCheck Z (tm Z) Z) (xa (.ptr o0 7) Z (fa Z underlying93 Z sizeOf9 Z Z Z) (xc Z (op_load1 (i := 0) Z isAgg9 (tm Z) Z Z ?_)))))
    obtain ⟨c61, h⟩ := need_of h
    refine xa (.int .u8 (bix p_.s 0)) Z (pu_strIdxM Z underlying9 (tm Z) (AEv.int _ _) c61) (xa (.bool (!decide ((bix p_.s 0) = 42))) Z (pu_int (v := .bool (!decide ((bix p_.s 0) = 42))) Z Z (tm Z) (AEv.int _ _) Z) (xm Z Z Z (xe (aw_cond (b := (!decide ((bix p_.s 0) = 42))) (tm Z) (fun hb95 => ?_) (fun hb95 => ?_)))))
    ·replace h := ite_f (ndec_t hb95) h
     refine xr (xm Z Z Z ?_)
     obtain ⟨r62, r62e, h⟩ := bind_some h
     refine xc Z (op_call (vs := [.ptr o0 0]) (H := [(o0, .cells (parse.parser.ct (.own q0) (.own q1) p_)), (q0, .spare), (q1, .spare)]) Z call75 ⟨(tm Z), trivial⟩ (List.Perm.refl _) (parse.parser.line.ok r62e o0 q0 q1) ?_)
     rintro _ _ ⟨t63, t64, rfl, rfl⟩
     refine xm Z Z Z (xe (aw_ret ?_))
     obtain rfl := some_of h
     exact ⟨[.bool r62.1], _, [(o0, .cells (parse.parser.ct (.own t63) (.own t64) r62.2)), (t63, .spare), (t64, .spare)], ⟨(tm Z), trivial⟩, vr, Weak.mkL [0, 1, 2] (by decide) ⟨⟨_, Z, cr, Z⟩, ⟨_, Z, Z⟩, ⟨_, Z, Z⟩, trivial⟩ trivial, ⟨t63, t64, Z, Z⟩⟩
    ·replace h := ite_t (ndec_f hb95) h
     refine aw_skip (xr (xm Z Z Z (xm Z Z Z (xa (.ptr o0 0) Z (pu_nilCheck Z (tm Z) Z) (xa (.ptr o0 8) Z (fa Z underlying93 Z sizeOf23 Z Z Z) (xa (.ptr o0 8) Z (fa Z underlying23 Z sizeOf3 Z Z Z) (xc Z (op_load1 (i := 0) Z isAgg3 (tm Z) Z Z ?_))))))))
     obtain ⟨r65, r65e, h⟩ := bind_some h
     refine xc Z (op_call (vs := [.ptr o0 0, .int .u8 42, .i p_.l.Args, .i 7]) (H := [(o0, .cells (parse.parser.ct (.own q0) (.own q1) p_)), (q0, .spare), (q1, .spare)]) Z call74 ⟨(tm Z), (AEv.int _ _), (tm Z), (AEv.int _ _), trivial⟩ (List.Perm.refl _) (parse.parser.header.ok r65e o0 q0 q1) ?_)
     rintro _ _ ⟨t66, t67, rfl, rfl⟩
     refine xm Z Z Z (xa (.i r65.1) Z (pu_extract Z (tm Z) (nb Z) Z) (xa (.bool r65.2.1) Z (pu_extract Z (tm Z) (nb Z) Z) (xm Z Z Z (xm Z Z Z (xe ?_)))))
     obtain ⟨s69, s69e, h70⟩ := letO_of h
     refine aw_meet (ν := Unit) (fun v => [(0, .ptr o0 0), (5, .i r65.1), (6, .bool r65.2.1)]) (fun v => [(o0, .cells (parse.parser.ct (.own t66) (.own t67) { r65.2.2 with in_ := { r65.2.2.in_ with Left := s69 } })), (t66, .spare), (t67, .spare)]) ?_ ?_
     ·have h := s69e.symm
      refine xr (xm Z Z Z (xe (aw_cond (b := r65.2.1) (tm Z) (fun hb72 => ?_) (fun hb72 => ?_))))
      ·replace h := ite_t hb72 h
       refine aw_region (xm Z Z Z (xm Z Z Z (xa (.ptr o0 0) Z (pu_nilCheck Z (tm Z) Z) (xa (.ptr o0 0) Z (fa Z underlying93 Z sizeOf29 Z Z Z) (xa (.ptr o0 2) Z (fa Z underlying29 Z sizeOf3 Z Z Z) (ac0 Z Z (op_store (i := 0) (cs' := (parse.parser.ct (.own t66) (.own t67) { r65.2.2 with in_ := { r65.2.2.in_ with Left := r65.1 } })) Z sizeOf3 (tm Z) (v := .i r65.1) (tm Z) Z Z Z (nb Z) Z (xe ?_))))))))
       subst h
       exact ⟨(), Weak.mkL [0, 1, 2] (by decide) ⟨⟨_, Z, cr, Z⟩, ⟨_, Z, Z⟩, ⟨_, Z, Z⟩, trivial⟩ ⟨tm Z, tm Z, tm Z, trivial⟩⟩
      ·replace h := ite_fb hb72 h
       refine aw_skip ?_
       subst h
       exact ⟨(), Weak.mkL [0, 1, 2] (by decide) ⟨⟨_, Z, cr, Z⟩, ⟨_, Z, Z⟩, ⟨_, Z, Z⟩, trivial⟩ ⟨tm Z, tm Z, tm Z, trivial⟩⟩
     ·intro _
      have h := h70
      obtain ⟨s81, s81e, h84⟩ := bind_some h
      refine aw_meet (ν := Nat × Nat) (fun v => [(6, .bool r65.2.1)]) (fun v => [(o0, .cells [.str s81.1, .sl (.own v.1) 1 (s81.2.1.map AV.str), .i s81.2.2.1, .i s81.2.2.2.1, .bool s81.2.2.2.2.1, .i s81.2.2.2.2.2.1, .i s81.2.2.2.2.2.2.1, .str s81.2.2.2.2.2.2.2.1, .i s81.2.2.2.2.2.2.2.2.1, .i s81.2.2.2.2.2.2.2.2.2.1, .i s81.2.2.2.2.2.2.2.2.2.2.1, .sl (.own v.2) 2 (s81.2.2.2.2.2.2.2.2.2.2.2.map api.Request.av)]), (v.1, .spare), (v.2, .spare)]) ?_ ?_
      ·have h := s81e
       refine aw_upd ?_
       obtain ⟨s87, s87e, h88⟩ := letO_of h
       refine aw_meet (ν := Unit) (fun v => [(0, .ptr o0 0), (6, .bool r65.2.1), (78, .bool s87)]) (fun v => [(o0, .cells (parse.parser.ct (.own t66) (.own t67) { r65.2.2 with in_ := { r65.2.2.in_ with Left := s69 } })), (t66, .spare), (t67, .spare)]) ?_ ?_
       ·have h := s87e.symm
        refine aw_region (xm Z Z Z (xm Z Z Z ?_))
        rcases Bool.eq_false_or_eq_true r65.2.1 with hb90 | hb90
        ·replace h := ite_t hb90 h
         refine aops_known 75 Z hb90 (xq Z Z Z Z (xp (.bool (decide (r65.1 = 0))) Z Z (pu_int (v := .bool (decide (r65.1 = 0))) Z Z (tm Z) (AEv.int _ _) Z) (xa (.bool (decide (r65.1 = 0))) Z (pu_pick (b := true) Z (tm Z) (fun _ => (tm Z)) (fun h => nomatch h)) (xe ?_))))
         subst h
         exact ⟨(), Weak.mkL [0, 1, 2] (by decide) ⟨⟨_, Z, cr, Z⟩, ⟨_, Z, Z⟩, ⟨_, Z, Z⟩, trivial⟩ ⟨tm Z, tm Z, (AEv.le (tm Z) vr), trivial⟩⟩
        ·replace h := ite_fb hb90 h
         refine aops_known 75 Z hb90 (xn Z Z Z (xn Z Z Z (xa (.bool false) Z (pu_pick (b := false) Z (tm Z) (fun h => nomatch h) (fun _ => (AEv.bool _))) (xe ?_))))
         subst h
         exact ⟨(), Weak.mkL [0, 1, 2] (by decide) ⟨⟨_, Z, cr, Z⟩, ⟨_, Z, Z⟩, ⟨_, Z, Z⟩, trivial⟩ ⟨tm Z, tm Z, tm Z, trivial⟩⟩
       ·intro _
        have h := h88
        refine aw_cond (b := s87) (tm Z) (fun hb94 => ?_) (fun hb94 => ?_)
        ·replace h := ite_t hb94 h
         refine aw_region (xm Z Z Z ?_)
         obtain ⟨r91, r91e, h⟩ := bind_some h
         refine xc Z (op_call (vs := [.ptr o0 0, .sl .no 1 (([] : List (List UInt8)).map AV.str)]) (H := [(o0, .cells (parse.parser.ct (.own t66) (.own t67) { r65.2.2 with in_ := { r65.2.2.in_ with Left := s69 } })), (t66, .spare), (t67, .spare)]) Z call76 ⟨(tm Z), (AEv.le (AEv.nil 1 (by decide)) (AV.Le.forget _ _ _)), trivial⟩ (List.Perm.refl _) (parse.parser.whole.ok r91e o0 t66 t67) ?_)
         rintro _ _ ⟨t92, rfl, rfl⟩
         refine xe (upd_claimCell 0 1 Z Z fun t93 => (upd_done ?_))
         obtain rfl := some_of h
         exact ⟨(t93, t92), Weak.mkL [1, 0, 2] (by decide) ⟨⟨_, Z, cr, Z⟩, ⟨_, Z, Z⟩, ⟨_, Z, Z⟩, trivial⟩ ⟨tm Z, trivial⟩⟩
        ·replace h := ite_fb hb94 h
         refine aw_skip (upd_done ?_)
         obtain rfl := some_of h
         exact ⟨(t66, t67), Weak.mkL [0, 1, 2] (by decide) ⟨⟨_, Z, cr, Z⟩, ⟨_, Z, Z⟩, ⟨_, Z, Z⟩, trivial⟩ ⟨tm Z, trivial⟩⟩
      ·rintro ⟨n82, n83⟩
       have h := h84
       refine xr (xm Z Z Z (xm Z Z Z (xe (aw_ret ?_))))
       obtain rfl := some_of h
       exact ⟨[.bool r65.2.1], _, [(o0, .cells [.str s81.1, .sl (.own n82) 1 (s81.2.1.map AV.str), .i s81.2.2.1, .i s81.2.2.2.1, .bool s81.2.2.2.2.1, .i s81.2.2.2.2.2.1, .i s81.2.2.2.2.2.2.1, .str s81.2.2.2.2.2.2.2.1, .i s81.2.2.2.2.2.2.2.2.1, .i s81.2.2.2.2.2.2.2.2.2.1, .i s81.2.2.2.2.2.2.2.2.2.2.1, .sl (.own n83) 2 (s81.2.2.2.2.2.2.2.2.2.2.2.map api.Request.av)]), (n82, .spare), (n83, .spare)], ⟨(tm Z), trivial⟩, vr, Weak.mkL [0, 1, 2] (by decide) ⟨⟨_, Z, cr, Z⟩, ⟨_, Z, Z⟩, ⟨_, Z, Z⟩, trivial⟩ trivial, ⟨n82, n83, Z, Z⟩⟩

theorem parse.Feed.ok {in_ : api.Input} {b : List UInt8} {l : api.Limits} {r : api.Input × (List api.Request) × Int} (h : parse.Feed in_ b l = some r) : Go.Lift.Spec prog 15 [.agg (api.Input.ct .no in_), .str b, .agg [.i l.Args, .i l.Bulk, .i l.Line]] [] (fun v H => ∃ n0, v = .tup [.agg [.str r.1.Rest, .sl .no 1 (r.1.Args.map AV.str), .i r.1.Left, .i r.1.Size, .bool r.1.Body, .i r.1.Need, .i r.1.Dead], .sl (.own n0) 2 (r.2.1.map api.Request.av), .i r.2.2] ∧ H = [(n0, .spare)]) := by
 unfold parse.Feed at h
 refine Go.Lift.Spec.of_body (rs := [.cell 6 29, .tmp 7, .tmp 8]) func15 Z Z (nb Z) Z (xr (xc Z (op_box (cs := (api.Input.ct .no in_)) (v := .agg (api.Input.ct .no in_)) Z (tm Z) Z Z ?_)))
 intro p64
 refine xc Z (op_box (cs := [.i l.Args, .i l.Bulk, .i l.Line]) (v := .agg [.i l.Args, .i l.Bulk, .i l.Line]) Z (tm Z) Z Z ?_)
 intro p65
 refine xc Z (op_alloc (cs := [.str ([] : List UInt8), .sl .full 1 (([] : List (List UInt8)).map AV.str), .i 0, .i 0, .bool false, .i 0, .i 0]) (v := .agg [.str ([] : List UInt8), .sl .full 1 (([] : List (List UInt8)).map AV.str), .i 0, .i 0, .bool false, .i 0, .i 0]) Z zeroValue29 Z Z Z ?_)
 intro p66
 refine xa (.sl .full 2 (([] : List api.Request).map api.Request.av)) Z (pu_assign Z (AEv.nil 2 (by decide))) (xa (.i 0) Z (pu_assign Z (AEv.int _ _)) (xe (aw_seq (xr (xa (.ptr p64 6) Z (fa Z underlying29 Z sizeOf27 Z Z Z) (xc Z (op_load1 (i := 2) Z isAgg27 (tm Z) Z Z (xa (.bool (!decide (in_.Dead = 0))) Z (pu_int (v := .bool (!decide (in_.Dead = 0))) Z Z (tm Z) (AEv.int _ _) Z) (xe ?_)))))))))
 refine aw_cond (b := (!decide (in_.Dead = 0))) (tm Z) (fun hb127 => ?_) (fun hb127 => ?_)
 ·replace h := ite_f (ndec_t hb127) h
  refine aw_seq (aw_planR (by decide +kernel) [[], [(2, 0, false)], [], [], [(2, 0, false)], [(0, 0, true)], [], []] [[5], [], []] [[[(p66, .cells [.str ([] : List UInt8), .sl .full 1 (([] : List (List UInt8)).map AV.str), .i 0, .i 0, .bool false, .i 0, .i 0])], [(p66, .cells [.str ([] : List UInt8), .sl .full 1 (([] : List (List UInt8)).map AV.str), .i 0, .i 0, .bool false, .i 0, .i in_.Dead])]], [[(p65, .cells [.i l.Args, .i l.Bulk, .i l.Line])]], [[(p64, .cells (api.Input.ct .no in_))]]] [.ptr p64 6, .i in_.Dead, .agg [.str ([] : List UInt8), .sl .full 1 (([] : List (List UInt8)).map AV.str), .i 0, .i 0, .bool false, .i 0, .i in_.Dead], .ptr p64 6, .i in_.Dead, .un, .sl .full 2 (([] : List api.Request).map api.Request.av), .i in_.Dead] (by decide +kernel) Z Z ?_ ?_)
  ·exact ⟨yp Z (fa Z underlying29 Z sizeOf27 Z Z Z), stepg_plain Z (op_load1 (i := 0) Z isAgg27 (tm Z) Z Z ⟨Z, Z⟩), yp Z (pu_build (zs := [.str ([] : List UInt8), .sl .full 1 (([] : List (List UInt8)).map AV.str), .i 0, .i 0, .bool false, .i 0, .i 0]) (szs := [1, 1, 1, 1, 1, 1, 1]) (aparts := [(6, .i in_.Dead)]) (cs := [.str ([] : List UInt8), .sl .full 1 (([] : List (List UInt8)).map AV.str), .i 0, .i 0, .bool false, .i 0, .i in_.Dead]) Z underlying29 zeroValue29 Z ⟨sizeOf9, sizeOf26, sizeOf3, sizeOf3, sizeOf4, sizeOf3, sizeOf27, trivial⟩ ⟨Z, (tm Z), trivial⟩ Z), yp Z (fa Z underlying29 Z sizeOf27 Z Z Z), stepg_plain Z (op_load1 (i := 0) Z isAgg27 (tm Z) Z Z ⟨Z, Z⟩), stepg_plain Z (op_store (i := 0) (cs' := [.str ([] : List UInt8), .sl .full 1 (([] : List (List UInt8)).map AV.str), .i 0, .i 0, .bool false, .i 0, .i in_.Dead]) Z sizeOf29 (tm Z) (v := .agg [.str ([] : List UInt8), .sl .full 1 (([] : List (List UInt8)).map AV.str), .i 0, .i 0, .bool false, .i 0, .i in_.Dead]) (tm Z) Z Z Z (nb Z) Z ⟨Z, Z⟩), yp Z (pu_assign Z (AEv.nil 2 (by decide))), ym Z Z Z, trivial⟩
  refine aw_claim 7 (tm Z) fun t67 => (aw_ret ?_)
  obtain rfl := some_of h
  exact ⟨[.agg [.str ([] : List UInt8), .sl .full 1 (([] : List (List UInt8)).map AV.str), .i 0, .i 0, .bool false, .i 0, .i in_.Dead], .sl (.own t67) 2 (([] : List api.Request).map api.Request.av), .i in_.Dead], .tup [.agg [.str ([] : List UInt8), .sl .no 1 (([] : List (List UInt8)).map AV.str), .i 0, .i 0, .bool false, .i 0, .i in_.Dead], .sl (.own t67) 2 (([] : List api.Request).map api.Request.av), .i in_.Dead], [(t67, .spare)], ⟨(CellOk.agg 1 (tm Z) Z isAgg29 sizeOf29 (nb Z) Z), (tm Z), (tm Z), trivial⟩, (AV.Le.tup ⟨(AV.Le.agg ⟨vr, (AV.Le.forget _ _ _), vr, vr, vr, vr, vr, trivial⟩), vr, vr, trivial⟩), Weak.mkL [0] (by decide) ⟨⟨_, Z, Z⟩, trivial⟩ trivial, ⟨t67, Z, Z⟩⟩
 ·replace h := ite_t (ndec_f hb127) h
  refine aw_skip (aw_seq ?_)
  obtain ⟨c68, h⟩ := need_of h
  obtain ⟨r69, r69e, h⟩ := bind_some h
  refine aw_reserve fun p70 => (aw_planR (by decide +kernel) [[(3, 0, false)], [], [(3, 0, false)], [], [], [(2, 0, false)], [], [], [(0, 0, true)], []] [[8], [], [], []] [[[(p70, .resv)], [(p70, .cells (parse.parser.ct .no .full ({ in_ := in_, s := in_.Rest ++ b, l := r69, out := ([] : List api.Request) } : parse.parser)))]], [[(p66, .cells [.str ([] : List UInt8), .sl .full 1 (([] : List (List UInt8)).map AV.str), .i 0, .i 0, .bool false, .i 0, .i 0])]], [[(p65, .cells [.i l.Args, .i l.Bulk, .i l.Line])]], [[(p64, .cells (api.Input.ct .no in_))]]] [.agg (api.Input.ct .no in_), .ptr p64 0, .str in_.Rest, .str b, .str (in_.Rest ++ b), .agg [.i l.Args, .i l.Bulk, .i l.Line], .agg [.i r69.Args, .i r69.Bulk, .i r69.Line], .agg (parse.parser.ct .no .full ({ in_ := in_, s := in_.Rest ++ b, l := r69, out := ([] : List api.Request) } : parse.parser)), .ptr p70 0, .ptr p70 0] (by decide +kernel) Z Z ?_ ?_)
  ·exact ⟨stepg_plain Z (op_loadN (i := 0) Z isAgg29 sizeOf29 (tm Z) Z (nb Z) Z ⟨Z, Z⟩), yp Z (fa Z underlying29 Z sizeOf9 Z Z Z), stepg_plain Z (op_load1 (i := 0) Z isAgg9 (tm Z) Z Z ⟨Z, Z⟩), ym Z Z Z, yp Z (pu_strAdd Z (tm Z) (tm Z) c68), stepg_plain Z (op_loadN (i := 0) Z isAgg23 sizeOf23 (tm Z) Z (nb Z) Z ⟨Z, Z⟩), stepg_plain Z (op_call (vs := [.agg [.i l.Args, .i l.Bulk, .i l.Line]]) (H := []) Z call19 ⟨(tm Z), trivial⟩ (R := []) (List.Perm.refl _) (parse.Limits.ok r69e) (by rintro _ _ ⟨rfl, rfl⟩; exact ⟨Z, Z⟩)), yp Z (pu_build (zs := [.str ([] : List UInt8), .sl .full 1 (([] : List (List UInt8)).map AV.str), .i 0, .i 0, .bool false, .i 0, .i 0, .str ([] : List UInt8), .i 0, .i 0, .i 0, .sl .full 2 (([] : List api.Request).map api.Request.av)]) (szs := [7, 1, 3, 1]) (aparts := [(0, .agg (api.Input.ct .no in_)), (1, .str (in_.Rest ++ b)), (2, .agg [.i r69.Args, .i r69.Bulk, .i r69.Line])]) (cs := [.str in_.Rest, .sl .no 1 (in_.Args.map AV.str), .i in_.Left, .i in_.Size, .bool in_.Body, .i in_.Need, .i in_.Dead, .str (in_.Rest ++ b), .i r69.Args, .i r69.Bulk, .i r69.Line, .sl .full 2 (([] : List api.Request).map api.Request.av)]) Z underlying93 zeroValue93 Z ⟨sizeOf29, sizeOf9, sizeOf23, sizeOf30, trivial⟩ ⟨Z, (tm Z), ⟨Z, (tm Z), ⟨Z, (tm Z), trivial⟩⟩⟩ Z), stepg_plain Z (aop_settleP (op_box (cs := (parse.parser.ct .no .full ({ in_ := in_, s := in_.Rest ++ b, l := r69, out := ([] : List api.Request) } : parse.parser))) (v := .agg (parse.parser.ct .no .full ({ in_ := in_, s := in_.Rest ++ b, l := r69, out := ([] : List api.Request) } : parse.parser))) Z (tm Z) Z Z fun t => ⟨t, Z, Z⟩) ⟨Z, Z⟩), ym Z Z Z, trivial⟩
  refine xr (xm Z Z Z (xm Z Z Z (xa (.ptr p64 1) Z (fa Z underlying29 Z sizeOf26 Z Z Z) (xc Z (op_load1 (i := 3) Z isAgg26 (tm Z) Z Z ?_)))))
  obtain ⟨r71, r71e, h⟩ := bind_some h
  refine xc Z (op_call (vs := [.sl .no 1 (in_.Args.map AV.str)]) (H := []) Z call50 ⟨(tm Z), trivial⟩ (List.Perm.refl _) (slices.Clone_string.ok r71e) ?_)
  rintro _ _ ⟨t72, rfl, rfl⟩
  refine xa (.ptr p70 0) Z (pu_nilCheck Z (tm Z) Z) (xa (.ptr p70 0) Z (fa Z underlying93 Z sizeOf29 Z Z Z) (xa (.ptr p70 1) Z (fa Z underlying29 Z sizeOf26 Z Z Z) (ac0 Z Z (op_store (i := 1) (cs' := (parse.parser.ct (.own t72) .full ({ in_ := { in_ with Args := r71 }, s := in_.Rest ++ b, l := r69, out := ([] : List api.Request) } : parse.parser))) Z sizeOf26 (tm Z) (v := .sl (.own t72) 1 (r71.map AV.str)) (tm Z) Z Z Z (nb Z) Z (xa (.ptr p70 0) Z (pu_nilCheck Z (tm Z) Z) (xa (.ptr p70 0) Z (fa Z underlying93 Z sizeOf29 Z Z Z) (xa (.ptr p70 0) Z (fa Z underlying29 Z sizeOf9 Z Z Z) (ac0 Z Z (op_store (i := 1) (cs' := (parse.parser.ct (.own t72) .full ({ in_ := { in_ with Rest := ([] : List UInt8), Args := r71 }, s := in_.Rest ++ b, l := r69, out := ([] : List api.Request) } : parse.parser))) Z sizeOf9 (tm Z) (v := .str ([] : List UInt8)) (AEv.const Z) Z Z Z (nb Z) Z (xe ?_))))))))))
  obtain ⟨s97, s97e, h100⟩ := bind_some h
  refine aw_meet (ν := Nat × Nat) (fun v => [(6, .ptr p66 0), (9, .ptr p70 0)]) (fun v => [(p66, .cells [.str ([] : List UInt8), .sl .full 1 (([] : List (List UInt8)).map AV.str), .i 0, .i 0, .bool false, .i 0, .i 0]), (p70, .cells [.str s97.1, .sl (.own v.1) 1 (s97.2.1.map AV.str), .i s97.2.2.1, .i s97.2.2.2.1, .bool s97.2.2.2.2.1, .i s97.2.2.2.2.2.1, .i s97.2.2.2.2.2.2.1, .str s97.2.2.2.2.2.2.2.1, .i s97.2.2.2.2.2.2.2.2.1, .i s97.2.2.2.2.2.2.2.2.2.1, .i s97.2.2.2.2.2.2.2.2.2.2.1, .sl (.own v.2) 2 (s97.2.2.2.2.2.2.2.2.2.2.2.map api.Request.av)]), (v.1, .spare), (v.2, .spare)]) ?_ ?_
  ·have h := s97e
   refine aw_block (aw_claimCell 1 11 Z Z fun t125 => (aw_while (σ := parse.Feed.S0) (ν := Nat × Nat) (parse.Feed.body0 in_ l) (fun s115 v => [(6, .ptr p66 0), (9, .ptr p70 0)]) (fun s115 v => [(p66, .cells [.str ([] : List UInt8), .sl .full 1 (([] : List (List UInt8)).map AV.str), .i 0, .i 0, .bool false, .i 0, .i 0]), (p70, .cells [.str s115.c, .sl (.own v.1) 1 (s115.c2.map AV.str), .i s115.c3, .i s115.c4, .bool s115.c5, .i s115.c6, .i s115.c7, .str s115.c8, .i s115.c9, .i s115.c10, .i s115.c11, .sl (.own v.2) 2 (s115.c12.map api.Request.av)]), (v.1, .spare), (v.2, .spare)]) ⟨([] : List UInt8), r71, in_.Left, in_.Size, in_.Body, in_.Need, in_.Dead, in_.Rest ++ b, r69.Args, r69.Bulk, r69.Line, ([] : List api.Request)⟩ (t72, t125) _ h (Weak.mkL [3, 2, 1, 0] (by decide) ⟨⟨_, Z, cr, Z⟩, ⟨_, Z, ⟨vr, vr, vr, vr, vr, vr, vr, vr, vr, vr, vr, vr, trivial⟩, Z⟩, ⟨_, Z, Z⟩, ⟨_, Z, Z⟩, trivial⟩ ⟨tm Z, tm Z, trivial⟩) ?_))
   rintro s115 ⟨n116, n117⟩ x119 h hx118
   unfold parse.Feed.body0 at h
   refine aw_seq (xr (xm Z Z Z ?_))
   obtain ⟨r121, r121e, h⟩ := bind_some h
   refine aops_weak (weak_pick [1, 2, 3, 0] (by decide) Z) (xc Z (op_call (vs := [.ptr p70 0]) (H := [(p70, .cells [.str s115.c, .sl (.own n116) 1 (s115.c2.map AV.str), .i s115.c3, .i s115.c4, .bool s115.c5, .i s115.c6, .i s115.c7, .str s115.c8, .i s115.c9, .i s115.c10, .i s115.c11, .sl (.own n117) 2 (s115.c12.map api.Request.av)]), (n116, .spare), (n117, .spare)]) Z call51 ⟨(tm Z), trivial⟩ (List.Perm.refl _) (parse.parser.step.ok r121e p70 n116 n117) ?_))
   rintro _ _ ⟨t122, t123, rfl, rfl⟩
   refine xe (aw_cond (b := r121.1) (tm Z) (fun hb124 => ?_) (fun hb124 => ?_))
   ·replace h := ite_t hb124 h
    refine aw_skip (aw_block (aw_skip ?_))
    obtain rfl := some_of h
    exact ⟨_, (t122, t123), Z, Weak.mkL [3, 0, 1, 2] (by decide) ⟨⟨_, Z, cr, Z⟩, ⟨_, Z, cr, Z⟩, ⟨_, Z, Z⟩, ⟨_, Z, Z⟩, trivial⟩ ⟨tm Z, tm Z, trivial⟩⟩
   ·replace h := ite_fb hb124 h
    refine aw_exit ?_
    obtain rfl := some_of h
    have h := congrArg some (hx118 _ rfl)
    obtain rfl := some_of h
    exact ⟨(t122, t123), Weak.mkL [3, 0, 1, 2] (by decide) ⟨⟨_, Z, cr, Z⟩, ⟨_, Z, cr, Z⟩, ⟨_, Z, Z⟩, ⟨_, Z, Z⟩, trivial⟩ ⟨tm Z, tm Z, trivial⟩⟩
  ·rintro ⟨n98, n99⟩
   have h := h100
   refine xr (xm Z Z Z (xm Z Z Z (xa (.ptr p70 0) Z (pu_nilCheck Z (tm Z) Z) (xa (.ptr p70 7) Z (fa Z underlying93 Z sizeOf9 Z Z Z) (xc Z (op_load1 (i := 1) Z isAgg9 (tm Z) Z Z ?_))))))
   obtain ⟨r126, r126e, h⟩ := bind_some h
   refine xc Z (op_call (vs := [.str s97.2.2.2.2.2.2.2.1]) (H := []) Z call52 ⟨(tm Z), trivial⟩ (List.Perm.refl _) (strings.Clone.ok r126e) ?_)
   rintro _ _ ⟨rfl, rfl⟩
   refine xa (.ptr p70 0) Z (pu_nilCheck Z (tm Z) Z) (xa (.ptr p70 0) Z (fa Z underlying93 Z sizeOf29 Z Z Z) (xa (.ptr p70 0) Z (fa Z underlying29 Z sizeOf9 Z Z Z) (ac0 Z Z (op_store (i := 1) (cs' := [.str r126, .sl (.own n98) 1 (s97.2.1.map AV.str), .i s97.2.2.1, .i s97.2.2.2.1, .bool s97.2.2.2.2.1, .i s97.2.2.2.2.2.1, .i s97.2.2.2.2.2.2.1, .str s97.2.2.2.2.2.2.2.1, .i s97.2.2.2.2.2.2.2.2.1, .i s97.2.2.2.2.2.2.2.2.2.1, .i s97.2.2.2.2.2.2.2.2.2.2.1, .sl (.own n99) 2 (s97.2.2.2.2.2.2.2.2.2.2.2.map api.Request.av)]) Z sizeOf9 (tm Z) (v := .str r126) (tm Z) Z Z Z (nb Z) Z (xe (aw_seq (aw_planR (by decide +kernel) [[], [], [], [(1, 0, false)], [], [], [], [(1, 0, false)], [], [], [], [], [(1, 0, false)], [(0, 0, true)], [], []] [[13], [], [], []] [[[(p66, .cells [.str ([] : List UInt8), .sl .full 1 (([] : List (List UInt8)).map AV.str), .i 0, .i 0, .bool false, .i 0, .i 0])], [(p66, .cells [.str r126, .sl (.own n98) 1 (s97.2.1.map AV.str), .i s97.2.2.1, .i s97.2.2.2.1, .bool s97.2.2.2.2.1, .i s97.2.2.2.2.2.1, .i s97.2.2.2.2.2.2.1])]], [[(p70, .cells [.str r126, .sl (.own n98) 1 (s97.2.1.map AV.str), .i s97.2.2.1, .i s97.2.2.2.1, .bool s97.2.2.2.2.1, .i s97.2.2.2.2.2.1, .i s97.2.2.2.2.2.2.1, .str s97.2.2.2.2.2.2.2.1, .i s97.2.2.2.2.2.2.2.2.1, .i s97.2.2.2.2.2.2.2.2.2.1, .i s97.2.2.2.2.2.2.2.2.2.2.1, .sl (.own n99) 2 (s97.2.2.2.2.2.2.2.2.2.2.2.map api.Request.av)])]], [[(n98, .spare)]], [[(n99, .spare)]]] [.ptr p70 0, .ptr p70 0, .ptr p70 0, .agg [.str r126, .sl (.own n98) 1 (s97.2.1.map AV.str), .i s97.2.2.1, .i s97.2.2.2.1, .bool s97.2.2.2.2.1, .i s97.2.2.2.2.2.1, .i s97.2.2.2.2.2.2.1], .ptr p70 0, .ptr p70 0, .ptr p70 11, .sl (.own n99) 2 (s97.2.2.2.2.2.2.2.2.2.2.2.map api.Request.av), .ptr p70 0, .ptr p70 0, .ptr p70 0, .ptr p70 6, .i s97.2.2.2.2.2.2.1, .un, .sl (.own n99) 2 (s97.2.2.2.2.2.2.2.2.2.2.2.map api.Request.av), .i s97.2.2.2.2.2.2.1] (by decide +kernel) Z Z ?_ ?_)))))))
   ·exact ⟨ym Z Z Z, yp Z (pu_nilCheck Z (tm Z) Z), yp Z (fa Z underlying93 Z sizeOf29 Z Z Z), stepg_plain Z (op_loadN (i := 0) Z isAgg29 sizeOf29 (tm Z) Z (nb Z) Z ⟨Z, Z⟩), ym Z Z Z, yp Z (pu_nilCheck Z (tm Z) Z), yp Z (fa Z underlying93 Z sizeOf30 Z Z Z), stepg_plain Z (op_load1 (i := 0) Z isAgg30 (tm Z) Z Z ⟨Z, Z⟩), ym Z Z Z, yp Z (pu_nilCheck Z (tm Z) Z), yp Z (fa Z underlying93 Z sizeOf29 Z Z Z), yp Z (fa Z underlying29 Z sizeOf27 Z Z Z), stepg_plain Z (op_load1 (i := 0) Z isAgg27 (tm Z) Z Z ⟨Z, Z⟩), stepg_plain Z (op_store (i := 0) (cs' := [.str r126, .sl (.own n98) 1 (s97.2.1.map AV.str), .i s97.2.2.1, .i s97.2.2.2.1, .bool s97.2.2.2.2.1, .i s97.2.2.2.2.2.1, .i s97.2.2.2.2.2.2.1]) Z sizeOf29 (tm Z) (v := .agg [.str r126, .sl (.own n98) 1 (s97.2.1.map AV.str), .i s97.2.2.1, .i s97.2.2.2.1, .bool s97.2.2.2.2.1, .i s97.2.2.2.2.2.1, .i s97.2.2.2.2.2.2.1]) (tm Z) Z Z Z (nb Z) Z ⟨Z, Z⟩), ym Z Z Z, ym Z Z Z, trivial⟩
   refine aw_ret ?_
   obtain rfl := some_of h
   exact ⟨[.agg [.str r126, .sl (.own n98) 1 (s97.2.1.map AV.str), .i s97.2.2.1, .i s97.2.2.2.1, .bool s97.2.2.2.2.1, .i s97.2.2.2.2.2.1, .i s97.2.2.2.2.2.2.1], .sl (.own n99) 2 (s97.2.2.2.2.2.2.2.2.2.2.2.map api.Request.av), .i s97.2.2.2.2.2.2.1], .tup [.agg [.str r126, .sl .no 1 (s97.2.1.map AV.str), .i s97.2.2.1, .i s97.2.2.2.1, .bool s97.2.2.2.2.1, .i s97.2.2.2.2.2.1, .i s97.2.2.2.2.2.2.1], .sl (.own n99) 2 (s97.2.2.2.2.2.2.2.2.2.2.2.map api.Request.av), .i s97.2.2.2.2.2.2.1], [(n99, .spare)], ⟨(CellOk.agg 0 (tm Z) Z isAgg29 sizeOf29 (nb Z) Z), (tm Z), (tm Z), trivial⟩, (AV.Le.tup ⟨(AV.Le.agg ⟨vr, (AV.Le.forget _ _ _), vr, vr, vr, vr, vr, trivial⟩), vr, vr, trivial⟩), Weak.mkL [3] (by decide) ⟨⟨_, Z, Z⟩, trivial⟩ trivial, ⟨n99, Z, Z⟩⟩

theorem mewsref05.texts.ok {a : List (List UInt8)} {b : List (List UInt8)} {r : Bool} (h : mewsref05.texts a b = some r) : Go.Lift.Spec prog 55 [.sl .no 1 (a.map AV.str), .sl .no 1 (b.map AV.str)] [] (fun v H => v = .bool r ∧ H = []) := by
 unfold mewsref05.texts at h
 refine Go.Lift.Spec.of_body (rs := [.tmp 4]) func55 Z Z (nb Z) Z (xr (xa (.bool false) Z (pu_assign Z (AEv.bool _)) (xe (aw_seq (xr (xm Z Z Z (xa (.i (a.length : Int)) Z (pu_lenM Z underlying26 (tm Z)) ?_)))))))
 refine xm Z Z Z (xa (.i (b.length : Int)) Z (pu_lenM Z underlying26 (tm Z)) (xa (.bool (!decide ((a.length : Int) = (b.length : Int)))) Z (pu_int (v := .bool (!decide ((a.length : Int) = (b.length : Int)))) Z Z (tm Z) (tm Z) Z) (xe (aw_cond (b := (!decide ((a.length : Int) = (b.length : Int)))) (tm Z) (fun hb82 => ?_) (fun hb82 => ?_)))))
 ·replace h := ite_f (ndec_t hb82) h
  refine xr (xa (.bool false) Z (pu_assign Z (AEv.bool _)) (xe (aw_ret ?_)))
  obtain rfl := some_of h
  exact ⟨[.bool false], _, [], ⟨(tm Z), trivial⟩, vr, Weak.mkL [] (by decide) trivial trivial, ⟨Z, Z⟩⟩
 ·replace h := ite_t (ndec_f hb82) h
  refine aw_skip ?_
  obtain ⟨s81, s81e, h61⟩ := bind_some h
  refine aw_join (σ := Unit) (ν := Unit) (fun u v => []) (fun u v => []) (fun u => s81 = .inl u) ?_ ?_
  ·intro s60
   intro _
   rintro rfl
   have h := onSum_inl h61
   refine xr (xa (.bool true) Z (pu_assign Z (AEv.bool _)) (xe (aw_ret ?_)))
   obtain rfl := some_of h
   exact ⟨[.bool true], _, [], ⟨(tm Z), trivial⟩, vr, Weak.mkL [] (by decide) trivial trivial, ⟨Z, Z⟩⟩
  ·have h := s81e
   refine xr (xa (.i 0) Z (pu_assign Z (AEv.int _ _)) (xe (aw_block (aw_while (σ := mewsref05.texts.S0) (ν := Unit) (mewsref05.texts.body0 a b) (fun s73 v => [(0, .sl .no 1 (a.map AV.str)), (1, .sl .no 1 (b.map AV.str)), (5, .i s73.i)]) (fun s73 v => []) ⟨0⟩ () _ h (Weak.mkL [] (by decide) trivial ⟨tm Z, tm Z, tm Z, trivial⟩) ?_))))
   rintro s73 _ x75 h hx74
   unfold mewsref05.texts.body0 at h
   refine aw_seq (xr (xm Z Z Z (xm Z Z Z (xa (.i (a.length : Int)) Z (pu_lenM Z underlying26 (tm Z)) (xa (.bool (decide (s73.i < (a.length : Int)))) Z (pu_int (v := .bool (decide (s73.i < (a.length : Int)))) Z Z (tm Z) (tm Z) Z) (xe (aw_cond (b := decide (s73.i < (a.length : Int))) (tm Z) (fun hb80 => ?_) (fun hb80 => ?_))))))))
   ·replace h := ite_t (dec_t hb80) h
    refine aw_skip (aw_seq (aw_block (aw_seq ?_)))
    obtain ⟨c77, h⟩ := need_of h
    obtain ⟨c78, h⟩ := need_of h
    refine aw_planR (by decide +kernel) [[], [], [], [], [], [], [], [], []] [] [] [.sl .no 1 (a.map AV.str), .i s73.i, .vptr [.str (ix a s73.i)], .str (ix a s73.i), .sl .no 1 (b.map AV.str), .i s73.i, .vptr [.str (ix b s73.i)], .str (ix b s73.i), .bool (!decide ((ix a s73.i) = (ix b s73.i)))] (by decide +kernel) Z Z ?_ ?_
    ·exact ⟨ym Z Z Z, ym Z Z Z, yp Z (pu_indexAddrM Z underlying26 sizeOf9 (tm Z) (tm Z) c77 Z), stepg_plain Z (op_loadV1 Z isAgg9 (tm Z) Z ⟨Z, Z⟩), ym Z Z Z, ym Z Z Z, yp Z (pu_indexAddrM Z underlying26 sizeOf9 (tm Z) (tm Z) c78 Z), stepg_plain Z (op_loadV1 Z isAgg9 (tm Z) Z ⟨Z, Z⟩), yp Z (pu_str (v := .bool (!decide ((ix a s73.i) = (ix b s73.i)))) Z Z (tm Z) (tm Z) Z), trivial⟩
    refine aw_cond (b := (!decide ((ix a s73.i) = (ix b s73.i)))) (tm Z) (fun hb79 => ?_) (fun hb79 => ?_)
    ·replace h := ite_f (ndec_t hb79) h
     refine xr (xa (.bool false) Z (pu_assign Z (AEv.bool _)) (xe (aw_ret ?_)))
     obtain rfl := some_of h
     have h := congrArg some (hx74 _ rfl)
     obtain rfl := some_of h
     have h := onSum_inr h61
     obtain rfl := some_of h
     exact ⟨[.bool false], _, [], ⟨(tm Z), trivial⟩, vr, Weak.mkL [] (by decide) trivial trivial, ⟨Z, Z⟩⟩
    ·replace h := ite_t (ndec_f hb79) h
     refine aw_skip (aw_region (xm Z Z Z (xa (.i (IntKind.wrap .i64 (s73.i + 1))) Z (pu_int (v := .i (IntKind.wrap .i64 (s73.i + 1))) Z Z (tm Z) (AEv.int _ _) Z) (xm Z Z Z (xe ?_)))))
     obtain rfl := some_of h
     exact ⟨_, (), Z, Weak.mkL [] (by decide) trivial ⟨tm Z, tm Z, (AEv.le (tm Z) vr), trivial⟩⟩
   ·replace h := ite_f (dec_f hb80) h
    refine aw_exit ?_
    obtain rfl := some_of h
    have h := congrArg some (hx74 _ rfl)
    exact ⟨(), (), (some_of h).symm, Weak.mkL [] (by decide) trivial trivial⟩

theorem mewsref05.Same.ok {a : List api.Request} {b : List api.Request} {r : Bool} (h : mewsref05.Same a b = some r) : Go.Lift.Spec prog 18 [.sl .no 2 (a.map api.Request.av), .sl .no 2 (b.map api.Request.av)] [] (fun v H => v = .bool r ∧ H = []) := by
 unfold mewsref05.Same at h
 refine Go.Lift.Spec.of_body (rs := [.tmp 4]) func18 Z Z (nb Z) Z (xr (xa (.bool false) Z (pu_assign Z (AEv.bool _)) (xe (aw_seq (xr (xm Z Z Z (xa (.i (a.length : Int)) Z (pu_lenM Z underlying30 (tm Z)) ?_)))))))
 refine xm Z Z Z (xa (.i (b.length : Int)) Z (pu_lenM Z underlying30 (tm Z)) (xa (.bool (!decide ((a.length : Int) = (b.length : Int)))) Z (pu_int (v := .bool (!decide ((a.length : Int) = (b.length : Int)))) Z Z (tm Z) (tm Z) Z) (xe (aw_cond (b := (!decide ((a.length : Int) = (b.length : Int)))) (tm Z) (fun hb238 => ?_) (fun hb238 => ?_)))))
 ·replace h := ite_f (ndec_t hb238) h
  refine xr (xa (.bool false) Z (pu_assign Z (AEv.bool _)) (xe (aw_ret ?_)))
  obtain rfl := some_of h
  exact ⟨[.bool false], _, [], ⟨(tm Z), trivial⟩, vr, Weak.mkL [] (by decide) trivial trivial, ⟨Z, Z⟩⟩
 ·replace h := ite_t (ndec_f hb238) h
  refine aw_skip ?_
  obtain ⟨s237, s237e, h178⟩ := bind_some h
  refine aw_join (σ := Unit) (ν := Unit) (fun u v => []) (fun u v => []) (fun u => s237 = .inl u) ?_ ?_
  ·intro s177
   intro _
   rintro rfl
   have h := onSum_inl h178
   refine xr (xa (.bool true) Z (pu_assign Z (AEv.bool _)) (xe (aw_ret ?_)))
   obtain rfl := some_of h
   exact ⟨[.bool true], _, [], ⟨(tm Z), trivial⟩, vr, Weak.mkL [] (by decide) trivial trivial, ⟨Z, Z⟩⟩
  ·have h := s237e
   refine xr (xa (.i 0) Z (pu_assign Z (AEv.int _ _)) (xe (aw_block (aw_while (σ := mewsref05.Same.S0) (ν := Unit) (mewsref05.Same.body0 a b) (fun s216 v => [(0, .sl .no 2 (a.map api.Request.av)), (1, .sl .no 2 (b.map api.Request.av)), (5, .i s216.i)]) (fun s216 v => []) ⟨0⟩ () _ h (Weak.mkL [] (by decide) trivial ⟨tm Z, tm Z, tm Z, trivial⟩) ?_))))
   rintro s216 _ x218 h hx217
   unfold mewsref05.Same.body0 at h
   refine aw_seq (xr (xm Z Z Z (xm Z Z Z (xa (.i (a.length : Int)) Z (pu_lenM Z underlying30 (tm Z)) (xa (.bool (decide (s216.i < (a.length : Int)))) Z (pu_int (v := .bool (decide (s216.i < (a.length : Int)))) Z Z (tm Z) (tm Z) Z) (xe (aw_cond (b := decide (s216.i < (a.length : Int))) (tm Z) (fun hb236 => ?_) (fun hb236 => ?_))))))))
   ·replace h := ite_t (dec_t hb236) h
    refine aw_skip (aw_seq (aw_block ?_))
    obtain ⟨s226, s226e, h227⟩ := bind_some h
    refine aw_meet (ν := Unit) (fun v => [(0, .sl .no 2 (a.map api.Request.av)), (1, .sl .no 2 (b.map api.Request.av)), (5, .i s216.i), (41, .bool s226)]) (fun v => []) ?_ ?_
    ·have h := s226e
     obtain ⟨c229, h⟩ := need_of h
     obtain ⟨c230, h⟩ := need_of h
     rcases Bool.eq_false_or_eq_true (!decide ((ix a s216.i).Size = (ix b s216.i).Size)) with hb231 | hb231
     ·replace h := ite_f (ndec_t hb231) h
      refine aw_planR (by decide +kernel) [[], [], [], [], [], [], [], [], [], [], [], [], [], [], [], [], [], [], [], [], [], [], [], [], []] [] [] [.sl .no 2 (a.map api.Request.av), .i s216.i, .vptr [.sl .no 1 ((ix a s216.i).Args.map AV.str), .i (ix a s216.i).Size], .vptr [.i (ix a s216.i).Size], .i (ix a s216.i).Size, .sl .no 2 (b.map api.Request.av), .i s216.i, .vptr [.sl .no 1 ((ix b s216.i).Args.map AV.str), .i (ix b s216.i).Size], .vptr [.i (ix b s216.i).Size], .i (ix b s216.i).Size, .bool (!decide ((ix a s216.i).Size = (ix b s216.i).Size)), .bool true, .lit undef, .lit undef, .lit undef, .lit undef, .lit undef, .lit undef, .lit undef, .lit undef, .lit undef, .lit undef, .lit undef, .lit undef, .bool true] (by decide +kernel) Z Z ?_ ?_
      ·exact ⟨ym Z Z Z, ym Z Z Z, yp Z (pu_indexAddrM Z underlying30 sizeOf44 (tm Z) (tm Z) c229 Z), yp Z (fa Z underlying44 Z sizeOf3 Z Z Z), stepg_plain Z (op_loadV1 Z isAgg3 (tm Z) Z ⟨Z, Z⟩), ym Z Z Z, ym Z Z Z, yp Z (pu_indexAddrM Z underlying30 sizeOf44 (tm Z) (tm Z) c230 Z), yp Z (fa Z underlying44 Z sizeOf3 Z Z Z), stepg_plain Z (op_loadV1 Z isAgg3 (tm Z) Z ⟨Z, Z⟩), yp Z (pu_int (v := .bool (!decide ((ix a s216.i).Size = (ix b s216.i).Size))) Z Z (tm Z) (tm Z) Z), AStepG.cast (ym Z Z Z) (congrArg AV.bool hb231), yx Z Z Z, yx Z Z Z, yx Z Z Z, yx Z Z Z, yx Z Z Z, yx Z Z Z, yx Z Z Z, yx Z Z Z, yx Z Z Z, yx Z Z Z, yx Z Z Z, yx Z Z Z, yp Z (pu_pick (b := true) Z (tm Z) (fun _ => (AEv.bool _)) (fun h => nomatch h)), trivial⟩
      obtain rfl := some_of h
      exact ⟨(), Weak.mkL [] (by decide) trivial ⟨tm Z, tm Z, tm Z, tm Z, trivial⟩⟩
     ·replace h := ite_t (ndec_f hb231) h
      obtain ⟨c232, h⟩ := need_of h
      obtain ⟨c233, h⟩ := need_of h
      obtain ⟨r234, r234e, h⟩ := bind_some h
      refine aw_planR (by decide +kernel) [[], [], [], [], [], [], [], [], [], [], [], [], [], [], [], [], [], [], [], [], [], [], [], [], []] [] [] [.sl .no 2 (a.map api.Request.av), .i s216.i, .vptr [.sl .no 1 ((ix a s216.i).Args.map AV.str), .i (ix a s216.i).Size], .vptr [.i (ix a s216.i).Size], .i (ix a s216.i).Size, .sl .no 2 (b.map api.Request.av), .i s216.i, .vptr [.sl .no 1 ((ix b s216.i).Args.map AV.str), .i (ix b s216.i).Size], .vptr [.i (ix b s216.i).Size], .i (ix b s216.i).Size, .bool (!decide ((ix a s216.i).Size = (ix b s216.i).Size)), .bool false, .sl .no 2 (a.map api.Request.av), .i s216.i, .vptr [.sl .no 1 ((ix a s216.i).Args.map AV.str), .i (ix a s216.i).Size], .vptr [.sl .no 1 ((ix a s216.i).Args.map AV.str), .i (ix a s216.i).Size], .sl .no 1 ((ix a s216.i).Args.map AV.str), .sl .no 2 (b.map api.Request.av), .i s216.i, .vptr [.sl .no 1 ((ix b s216.i).Args.map AV.str), .i (ix b s216.i).Size], .vptr [.sl .no 1 ((ix b s216.i).Args.map AV.str), .i (ix b s216.i).Size], .sl .no 1 ((ix b s216.i).Args.map AV.str), .bool r234, .bool (!r234), .bool (!r234)] (by decide +kernel) Z Z ?_ ?_
      ·exact ⟨ym Z Z Z, ym Z Z Z, yp Z (pu_indexAddrM Z underlying30 sizeOf44 (tm Z) (tm Z) c229 Z), yp Z (fa Z underlying44 Z sizeOf3 Z Z Z), stepg_plain Z (op_loadV1 Z isAgg3 (tm Z) Z ⟨Z, Z⟩), ym Z Z Z, ym Z Z Z, yp Z (pu_indexAddrM Z underlying30 sizeOf44 (tm Z) (tm Z) c230 Z), yp Z (fa Z underlying44 Z sizeOf3 Z Z Z), stepg_plain Z (op_loadV1 Z isAgg3 (tm Z) Z ⟨Z, Z⟩), yp Z (pu_int (v := .bool (!decide ((ix a s216.i).Size = (ix b s216.i).Size))) Z Z (tm Z) (tm Z) Z), AStepG.cast (ym Z Z Z) (congrArg AV.bool hb231), yq Z Z (pu_move Z (tm Z)), yq Z Z (pu_move Z (tm Z)), yq Z Z (pu_indexAddrM Z underlying30 sizeOf44 (tm Z) (tm Z) c232 Z), yq Z Z (fa Z underlying44 Z sizeOf26 Z Z Z), yg Z Z (op_loadV1 Z isAgg26 (tm Z) Z ⟨Z, Z⟩), yq Z Z (pu_move Z (tm Z)), yq Z Z (pu_move Z (tm Z)), yq Z Z (pu_indexAddrM Z underlying30 sizeOf44 (tm Z) (tm Z) c233 Z), yq Z Z (fa Z underlying44 Z sizeOf26 Z Z Z), yg Z Z (op_loadV1 Z isAgg26 (tm Z) Z ⟨Z, Z⟩), yg Z Z (op_call (vs := [.sl .no 1 ((ix a s216.i).Args.map AV.str), .sl .no 1 ((ix b s216.i).Args.map AV.str)]) (H := []) Z call55 ⟨(tm Z), (tm Z), trivial⟩ (R := []) (List.Perm.refl _) (mewsref05.texts.ok r234e) (by rintro _ _ ⟨rfl, rfl⟩; exact ⟨Z, Z⟩)), yq Z Z (pu_not Z (tm Z)), yp Z (pu_pick (b := false) Z (tm Z) (fun h => nomatch h) (fun _ => (tm Z))), trivial⟩
      obtain rfl := some_of h
      exact ⟨(), Weak.mkL [] (by decide) trivial ⟨tm Z, tm Z, tm Z, tm Z, trivial⟩⟩
    ·intro _
     have h := h227
     refine aw_cond (b := s226) (tm Z) (fun hb235 => ?_) (fun hb235 => ?_)
     ·replace h := ite_t hb235 h
      refine xr (xa (.bool false) Z (pu_assign Z (AEv.bool _)) (xe (aw_ret ?_)))
      obtain rfl := some_of h
      have h := congrArg some (hx217 _ rfl)
      obtain rfl := some_of h
      have h := onSum_inr h178
      obtain rfl := some_of h
      exact ⟨[.bool false], _, [], ⟨(tm Z), trivial⟩, vr, Weak.mkL [] (by decide) trivial trivial, ⟨Z, Z⟩⟩
     ·replace h := ite_fb hb235 h
      refine aw_skip (aw_region (xm Z Z Z (xa (.i (IntKind.wrap .i64 (s216.i + 1))) Z (pu_int (v := .i (IntKind.wrap .i64 (s216.i + 1))) Z Z (tm Z) (AEv.int _ _) Z) (xm Z Z Z (xe ?_)))))
      obtain rfl := some_of h
      exact ⟨_, (), Z, Weak.mkL [] (by decide) trivial ⟨tm Z, tm Z, (AEv.le (tm Z) vr), trivial⟩⟩
   ·replace h := ite_f (dec_f hb236) h
    refine aw_exit ?_
    obtain rfl := some_of h
    have h := congrArg some (hx217 _ rfl)
    exact ⟨(), (), (some_of h).symm, Weak.mkL [] (by decide) trivial trivial⟩

theorem mewsref05.between.ok {n_ : Int} {most : Int} {r : Int} (h : mewsref05.between n_ most = some r) : Go.Lift.Spec prog 56 [.i n_, .i most] [] (fun v H => v = .i r ∧ H = []) := by
 unfold mewsref05.between at h
 refine Go.Lift.Spec.of_body (rs := [.tmp 4]) func56 Z Z (nb Z) Z (xr (xa (.i 0) Z (pu_assign Z (AEv.int _ _)) (xe (aw_seq (xr (xm Z Z Z (xa (.bool (decide (n_ < 1))) Z (pu_int (v := .bool (decide (n_ < 1))) Z Z (tm Z) (AEv.int _ _) Z) ?_)))))))
 refine xe (aw_cond (b := decide (n_ < 1)) (tm Z) (fun hb4 => ?_) (fun hb4 => ?_))
 ·replace h := ite_t (dec_t hb4) h
  refine xr (xa (.i 1) Z (pu_assign Z (AEv.int _ _)) (xe (aw_ret ?_)))
  obtain rfl := some_of h
  exact ⟨[.i 1], _, [], ⟨(tm Z), trivial⟩, vr, Weak.mkL [] (by decide) trivial trivial, ⟨Z, Z⟩⟩
 ·replace h := ite_f (dec_f hb4) h
  refine aw_skip (aw_seq (xr (xm Z Z Z (xm Z Z Z (xa (.bool (decide (most < n_))) Z (pu_int (v := .bool (decide (most < n_))) Z Z (tm Z) (tm Z) Z) (xe (aw_cond (b := decide (most < n_)) (tm Z) (fun hb3 => ?_) (fun hb3 => ?_))))))))
  ·replace h := ite_t (dec_t hb3) h
   refine xr (xm Z Z Z (xm Z Z Z (xe (aw_ret ?_))))
   obtain rfl := some_of h
   exact ⟨[.i most], _, [], ⟨(tm Z), trivial⟩, vr, Weak.mkL [] (by decide) trivial trivial, ⟨Z, Z⟩⟩
  ·replace h := ite_f (dec_f hb3) h
   refine aw_skip (xr (xm Z Z Z (xm Z Z Z (xe (aw_ret ?_)))))
   obtain rfl := some_of h
   exact ⟨[.i n_], _, [], ⟨(tm Z), trivial⟩, vr, Weak.mkL [] (by decide) trivial trivial, ⟨Z, Z⟩⟩

theorem mewsref05.Limits.ok {l : api.Limits} {r : api.Limits} (h : mewsref05.Limits l = some r) : Go.Lift.Spec prog 20 [.agg [.i l.Args, .i l.Bulk, .i l.Line]] [] (fun v H => v = .agg [.i r.Args, .i r.Bulk, .i r.Line] ∧ H = []) := by
 unfold mewsref05.Limits at h
 refine Go.Lift.Spec.of_body (rs := [.cell 2 23]) func20 Z Z (nb Z) Z (xr (xc Z (op_box (cs := [.i l.Args, .i l.Bulk, .i l.Line]) (v := .agg [.i l.Args, .i l.Bulk, .i l.Line]) Z (tm Z) Z Z ?_)))
 intro p6
 refine xc Z (op_alloc (cs := [.i 0, .i 0, .i 0]) (v := .agg [.i 0, .i 0, .i 0]) Z zeroValue23 Z Z Z ?_)
 intro p7
 refine xe (aw_seq ?_)
 obtain ⟨r8, r8e, h⟩ := bind_some h
 obtain ⟨r9, r9e, h⟩ := bind_some h
 obtain ⟨r10, r10e, h⟩ := bind_some h
 refine aw_planR (by decide +kernel) [[], [(1, 0, false)], [], [], [(1, 0, false)], [], [], [(1, 0, false)], [], [], [(0, 0, true)]] [[10], []] [[[(p7, .cells [.i 0, .i 0, .i 0])], [(p7, .cells [.i r8, .i r9, .i r10])]], [[(p6, .cells [.i l.Args, .i l.Bulk, .i l.Line])]]] [.ptr p6 0, .i l.Args, .i r8, .ptr p6 1, .i l.Bulk, .i r9, .ptr p6 2, .i l.Line, .i r10, .agg [.i r8, .i r9, .i r10], .un] (by decide +kernel) Z Z ?_ ?_
 ·exact ⟨yp Z (fa Z underlying23 Z sizeOf3 Z Z Z), stepg_plain Z (op_load1 (i := 0) Z isAgg3 (tm Z) Z Z ⟨Z, Z⟩), stepg_plain Z (op_call (vs := [.i l.Args, .i 65536]) (H := []) Z call56 ⟨(tm Z), (AEv.int _ _), trivial⟩ (R := []) (List.Perm.refl _) (mewsref05.between.ok r8e) (by rintro _ _ ⟨rfl, rfl⟩; exact ⟨Z, Z⟩)), yp Z (fa Z underlying23 Z sizeOf3 Z Z Z), stepg_plain Z (op_load1 (i := 0) Z isAgg3 (tm Z) Z Z ⟨Z, Z⟩), stepg_plain Z (op_call (vs := [.i l.Bulk, .i 1048576]) (H := []) Z call56 ⟨(tm Z), (AEv.int _ _), trivial⟩ (R := []) (List.Perm.refl _) (mewsref05.between.ok r9e) (by rintro _ _ ⟨rfl, rfl⟩; exact ⟨Z, Z⟩)), yp Z (fa Z underlying23 Z sizeOf3 Z Z Z), stepg_plain Z (op_load1 (i := 0) Z isAgg3 (tm Z) Z Z ⟨Z, Z⟩), stepg_plain Z (op_call (vs := [.i l.Line, .i 65536]) (H := []) Z call56 ⟨(tm Z), (AEv.int _ _), trivial⟩ (R := []) (List.Perm.refl _) (mewsref05.between.ok r10e) (by rintro _ _ ⟨rfl, rfl⟩; exact ⟨Z, Z⟩)), yp Z (pu_build (zs := [.i 0, .i 0, .i 0]) (szs := [1, 1, 1]) (aparts := [(0, .i r8), (1, .i r9), (2, .i r10)]) (cs := [.i r8, .i r9, .i r10]) Z underlying23 zeroValue23 Z ⟨sizeOf3, sizeOf3, sizeOf3, trivial⟩ ⟨Z, (tm Z), ⟨Z, (tm Z), ⟨Z, (tm Z), trivial⟩⟩⟩ Z), stepg_plain Z (op_store (i := 0) (cs' := [.i r8, .i r9, .i r10]) Z sizeOf23 (tm Z) (v := .agg [.i r8, .i r9, .i r10]) (tm Z) Z Z Z (nb Z) Z ⟨Z, Z⟩), trivial⟩
 refine aw_ret ?_
 obtain rfl := some_of h
 exact ⟨[.agg [.i r8, .i r9, .i r10]], _, [], ⟨(CellOk.agg 0 (tm Z) Z isAgg23 sizeOf23 (nb Z) Z), trivial⟩, vr, Weak.mkL [] (by decide) trivial trivial, ⟨Z, Z⟩⟩

theorem mewsref01.digits.rec.ok (kk : Nat) : ∀ {n_ : Int} {r : List UInt8} (h : mewsref01.digits.rec kk n_ = some r), Go.Lift.Spec prog 81 [.i n_] [] (fun v H => v = .str r ∧ H = []) := by
 induction kk with
 | zero => intro n_ r h; exact nomatch h
 | succ kk ih =>
  intro n_ r h
  rw [mewsref01.digits.rec.eq_2] at h
  refine Go.Lift.Spec.of_body (rs := [.tmp 2]) func81 Z Z (nb Z) Z (xr (xa (.str ([] : List UInt8)) Z (pu_assign Z (AEv.const Z)) (xe (xr (xa (.str [48, 49, 50, 51, 52, 53, 54, 55, 56, 57]) Z (pu_assign Z (AEv.const Z)) (xe (aw_seq ?_)))))))
  refine aw_region (xm Z Z Z (xa (.i (n_.tmod 10)) Z (pu_rem Z (tm Z) (AEv.int _ _) (by decide)) (xa (.i (IntKind.wrap .i64 (0 - (n_.tmod 10)))) Z (pu_neg Z (tm Z)) (xm Z Z Z (xe (aw_seq (xr (xm Z Z Z ?_))))))))
  refine xa (.bool (decide ((-10) < n_))) Z (pu_int (v := .bool (decide ((-10) < n_))) Z Z (tm Z) (AEv.int _ _) Z) (xe (aw_cond (b := decide ((-10) < n_)) (tm Z) (fun hb14 => ?_) (fun hb14 => ?_)))
  ·replace h := ite_t (dec_t hb14) h
   refine xr (xm Z Z Z (xm Z Z Z (xm Z Z Z (xa (.i (IntKind.wrap .i64 ((IntKind.wrap .i64 (0 - (n_.tmod 10))) + 1))) Z (pu_int (v := .i (IntKind.wrap .i64 ((IntKind.wrap .i64 (0 - (n_.tmod 10))) + 1))) Z Z (tm Z) (AEv.int _ _) Z) ?_))))
   obtain ⟨c8, h⟩ := need_of h
   obtain ⟨x9, x9e, h⟩ := letO_of h
   refine xa (.str x9) Z (APure.eq (pu_strSliceM Z underlying9 (tm Z) ⟨_, (tm Z)⟩ ⟨_, (tm Z)⟩ c8) (congrArg (AV.str) x9e.symm)) (xm Z Z Z (xe (aw_ret ?_)))
   obtain rfl := some_of h
   exact ⟨[.str x9], _, [], ⟨(tm Z), trivial⟩, vr, Weak.mkL [] (by decide) trivial trivial, ⟨Z, Z⟩⟩
  ·replace h := ite_f (dec_f hb14) h
   refine aw_skip (aw_seq ?_)
   obtain ⟨r10, r10e, h⟩ := bind_some h
   obtain ⟨c11, h⟩ := need_of h
   obtain ⟨x12, x12e, h⟩ := letO_of h
   obtain ⟨c13, h⟩ := need_of h
   refine aw_planR (by decide +kernel) [[], [], [], [], [], [], [], [], [], []] [] [] [.i n_, .i (IntKind.wrap .i64 (n_.tdiv 10)), .str r10, .str [48, 49, 50, 51, 52, 53, 54, 55, 56, 57], .i (IntKind.wrap .i64 (0 - (n_.tmod 10))), .i (IntKind.wrap .i64 (0 - (n_.tmod 10))), .i (IntKind.wrap .i64 ((IntKind.wrap .i64 (0 - (n_.tmod 10))) + 1)), .str x12, .str (r10 ++ x12), .str (r10 ++ x12)] (by decide +kernel) Z Z ?_ ?_
   ·exact ⟨ym Z Z Z, yp Z (pu_quo Z (tm Z) (AEv.int _ _) (by decide)), stepg_plain Z (op_call (vs := [.i (IntKind.wrap .i64 (n_.tdiv 10))]) (H := []) Z call81 ⟨(tm Z), trivial⟩ (R := []) (List.Perm.refl _) (ih r10e) (by rintro _ _ ⟨rfl, rfl⟩; exact ⟨Z, Z⟩)), ym Z Z Z, ym Z Z Z, ym Z Z Z, yp Z (pu_int (v := .i (IntKind.wrap .i64 ((IntKind.wrap .i64 (0 - (n_.tmod 10))) + 1))) Z Z (tm Z) (AEv.int _ _) Z), yp Z (APure.eq (pu_strSliceM Z underlying9 (tm Z) ⟨_, (tm Z)⟩ ⟨_, (tm Z)⟩ c11) (congrArg (AV.str) x12e.symm)), yp Z (pu_strAdd Z (tm Z) (tm Z) c13), ym Z Z Z, trivial⟩
   refine aw_ret ?_
   obtain rfl := some_of h
   exact ⟨[.str (r10 ++ x12)], _, [], ⟨(tm Z), trivial⟩, vr, Weak.mkL [] (by decide) trivial trivial, ⟨Z, Z⟩⟩

theorem mewsref01.digits.ok {n_ : Int} {r : List UInt8} (h : mewsref01.digits n_ = some r) : Go.Lift.Spec prog 81 [.i n_] [] (fun v H => v = .str r ∧ H = []) := by
 obtain ⟨kk, hk⟩ := fixO_some h
 exact mewsref01.digits.rec.ok kk hk

theorem mewsref01.Text.ok {n_ : Int} {r : List UInt8} (h : mewsref01.Text n_ = some r) : Go.Lift.Spec prog 57 [.i n_] [] (fun v H => v = .str r ∧ H = []) := by
 unfold mewsref01.Text at h
 refine Go.Lift.Spec.of_body (rs := [.tmp 2]) func57 Z Z (nb Z) Z (xr (xa (.str ([] : List UInt8)) Z (pu_assign Z (AEv.const Z)) (xe (aw_seq (xr (xm Z Z Z (xa (.bool (decide (n_ < 0))) Z (pu_int (v := .bool (decide (n_ < 0))) Z Z (tm Z) (AEv.int _ _) Z) ?_)))))))
 refine xe (aw_cond (b := decide (n_ < 0)) (tm Z) (fun hb8 => ?_) (fun hb8 => ?_))
 ·replace h := ite_t (dec_t hb8) h
  refine xr (xm Z Z Z ?_)
  obtain ⟨r5, r5e, h⟩ := bind_some h
  refine xc Z (op_call (vs := [.i n_]) (H := []) Z call81 ⟨(tm Z), trivial⟩ (List.Perm.refl _) (mewsref01.digits.ok r5e) ?_)
  rintro _ _ ⟨rfl, rfl⟩
  obtain ⟨c6, h⟩ := need_of h
  refine xa (.str ([45] ++ r5)) Z (pu_strAdd Z (AEv.const Z) (tm Z) c6) (xm Z Z Z (xe (aw_ret ?_)))
  obtain rfl := some_of h
  exact ⟨[.str ([45] ++ r5)], _, [], ⟨(tm Z), trivial⟩, vr, Weak.mkL [] (by decide) trivial trivial, ⟨Z, Z⟩⟩
 ·replace h := ite_f (dec_f hb8) h
  refine aw_skip (xr (xm Z Z Z (xa (.i (IntKind.wrap .i64 (0 - n_))) Z (pu_neg Z (tm Z)) ?_)))
  obtain ⟨r7, r7e, h⟩ := bind_some h
  refine xc Z (op_call (vs := [.i (IntKind.wrap .i64 (0 - n_))]) (H := []) Z call81 ⟨(tm Z), trivial⟩ (List.Perm.refl _) (mewsref01.digits.ok r7e) ?_)
  rintro _ _ ⟨rfl, rfl⟩
  refine xm Z Z Z (xe (aw_ret ?_))
  obtain rfl := some_of h
  exact ⟨[.str r7], _, [], ⟨(tm Z), trivial⟩, vr, Weak.mkL [] (by decide) trivial trivial, ⟨Z, Z⟩⟩

theorem mewsref01.Parse.ok {s_ : List UInt8} {r : Int × Bool} (h : mewsref01.Parse s_ = some r) : Go.Lift.Spec prog 92 [.str s_] [] (fun v H => v = .tup [.i r.1, .bool r.2] ∧ H = []) := by
 unfold mewsref01.Parse at h
 refine Go.Lift.Spec.of_body (rs := [.tmp 2, .tmp 3]) func92 Z Z (nb Z) Z (xr (xa (.i 0) Z (pu_assign Z (AEv.int _ _)) (xa (.bool false) Z (pu_assign Z (AEv.bool _)) (xe ?_))))
 obtain ⟨s309, s309e, h310⟩ := bind_some h
 refine aw_meet (ν := Unit) (fun v => [(0, .str s_), (4, .bool s309)]) (fun v => []) ?_ ?_
 ·have h := s309e
  refine aw_region (xm Z Z Z (xa (.i (s_.length : Int)) Z (pu_strLen Z underlying9 (tm Z)) (xa (.bool (decide (0 < (s_.length : Int)))) Z (pu_int (v := .bool (decide (0 < (s_.length : Int)))) Z Z (tm Z) (AEv.int _ _) Z) (xm Z Z Z ?_))))
  rcases Bool.eq_false_or_eq_true (decide (0 < (s_.length : Int))) with hb312 | hb312
  ·replace h := ite_t (dec_t hb312) h
   refine aops_known 11 Z hb312 (xq Z Z Z Z ?_)
   obtain ⟨c313, h⟩ := need_of h
   refine xp (.int .u8 (bix s_ 0)) Z Z (pu_strIdxM Z underlying9 (tm Z) (AEv.int _ _) c313) (xp (.bool (decide ((bix s_ 0) = 45))) Z Z (pu_int (v := .bool (decide ((bix s_ 0) = 45))) Z Z (tm Z) (AEv.int _ _) Z) (xa (.bool (decide ((bix s_ 0) = 45))) Z (pu_pick (b := true) Z (tm Z) (fun _ => (tm Z)) (fun h => nomatch h)) (xm Z Z Z (xe ?_))))
   obtain rfl := some_of h
   exact ⟨(), Weak.mkL [] (by decide) trivial ⟨tm Z, (AEv.le (tm Z) vr), trivial⟩⟩
  ·replace h := ite_f (dec_f hb312) h
   refine aops_known 11 Z hb312 (xn Z Z Z (xn Z Z Z (xn Z Z Z (xa (.bool false) Z (pu_pick (b := false) Z (tm Z) (fun h => nomatch h) (fun _ => (AEv.bool _))) (xm Z Z Z (xe ?_))))))
   obtain rfl := some_of h
   exact ⟨(), Weak.mkL [] (by decide) trivial ⟨tm Z, tm Z, trivial⟩⟩
 ·intro _
  have h := h310
  refine xr (xa (.i 0) Z (pu_assign Z (AEv.int _ _)) (xe ?_))
  obtain ⟨s612, s612e, h456⟩ := bind_some h
  refine aw_join (σ := Int) (ν := Unit) (fun u v => [(0, .str s_), (4, .bool s309), (5, .i u)]) (fun u v => []) (fun u => s612 = .inl u) ?_ ?_
  ·intro s455
   intro _
   rintro rfl
   have h := onSum_inl h456
   refine aw_seq ?_
   obtain ⟨s600, s600e, h601⟩ := letO_of h
   refine aw_meet (ν := Unit) (fun v => [(0, .str s_), (4, .bool s309), (5, .i s455), (56, .bool s600)]) (fun v => []) ?_ ?_
   ·have h := s600e.symm
    refine aw_region (xm Z Z Z (xa (.bool (!s309)) Z (pu_not Z (tm Z)) (xm Z Z Z ?_)))
    rcases Bool.eq_false_or_eq_true (!s309) with hb603 | hb603
    ·replace h := ite_t hb603 h
     refine aops_known 53 Z hb603 (xq Z Z Z Z (xp (.bool (decide (s455 = (-9223372036854775808)))) Z Z (pu_int (v := .bool (decide (s455 = (-9223372036854775808)))) Z Z (tm Z) (AEv.int _ _) Z) (xa (.bool (decide (s455 = (-9223372036854775808)))) Z (pu_pick (b := true) Z (tm Z) (fun _ => (tm Z)) (fun h => nomatch h)) (xe ?_))))
     subst h
     exact ⟨(), Weak.mkL [] (by decide) trivial ⟨tm Z, tm Z, tm Z, (AEv.le (tm Z) vr), trivial⟩⟩
    ·replace h := ite_fb hb603 h
     refine aops_known 53 Z hb603 (xn Z Z Z (xn Z Z Z (xa (.bool false) Z (pu_pick (b := false) Z (tm Z) (fun h => nomatch h) (fun _ => (AEv.bool _))) (xe ?_))))
     subst h
     exact ⟨(), Weak.mkL [] (by decide) trivial ⟨tm Z, tm Z, tm Z, tm Z, trivial⟩⟩
   ·intro _
    have h := h601
    refine aw_cond (b := s600) (tm Z) (fun hb611 => ?_) (fun hb611 => ?_)
    ·replace h := ite_t hb611 h
     refine xr (xa (.i 0) Z (pu_assign Z (AEv.int _ _)) (xa (.bool false) Z (pu_assign Z (AEv.bool _)) (xe (aw_ret ?_))))
     obtain rfl := some_of h
     exact ⟨[.i 0, .bool false], _, [], ⟨(tm Z), (tm Z), trivial⟩, vr, Weak.mkL [] (by decide) trivial trivial, ⟨Z, Z⟩⟩
    ·replace h := ite_fb hb611 h
     refine aw_skip ?_
     obtain ⟨s605, s605e, h606⟩ := letO_of h
     refine aw_meet (ν := Unit) (fun v => [(0, .str s_), (5, .i s605)]) (fun v => []) ?_ ?_
     ·have h := s605e.symm
      refine xr (xm Z Z Z (xa (.bool (!s309)) Z (pu_not Z (tm Z)) (xe (aw_cond (b := (!s309)) (tm Z) (fun hb608 => ?_) (fun hb608 => ?_)))))
      ·replace h := ite_t hb608 h
       refine aw_region (xm Z Z Z (xa (.i (IntKind.wrap .i64 (0 - s455))) Z (pu_neg Z (tm Z)) (xm Z Z Z (xe ?_))))
       subst h
       exact ⟨(), Weak.mkL [] (by decide) trivial ⟨tm Z, (AEv.le (tm Z) vr), trivial⟩⟩
      ·replace h := ite_fb hb608 h
       refine aw_skip ?_
       subst h
       exact ⟨(), Weak.mkL [] (by decide) trivial ⟨tm Z, tm Z, trivial⟩⟩
     ·intro _
      have h := h606
      refine aw_seq (xr (xm Z Z Z ?_))
      obtain ⟨r609, r609e, h⟩ := bind_some h
      refine xc Z (op_call (vs := [.i s605]) (H := []) Z call57 ⟨(tm Z), trivial⟩ (List.Perm.refl _) (mewsref01.Text.ok r609e) ?_)
      rintro _ _ ⟨rfl, rfl⟩
      refine xm Z Z Z (xa (.bool (!decide (r609 = s_))) Z (pu_str (v := .bool (!decide (r609 = s_))) Z Z (tm Z) (tm Z) Z) (xe (aw_cond (b := (!decide (r609 = s_))) (tm Z) (fun hb610 => ?_) (fun hb610 => ?_))))
      ·replace h := ite_f (ndec_t hb610) h
       refine xr (xa (.i 0) Z (pu_assign Z (AEv.int _ _)) (xa (.bool false) Z (pu_assign Z (AEv.bool _)) (xe (aw_ret ?_))))
       obtain rfl := some_of h
       exact ⟨[.i 0, .bool false], _, [], ⟨(tm Z), (tm Z), trivial⟩, vr, Weak.mkL [] (by decide) trivial trivial, ⟨Z, Z⟩⟩
      ·replace h := ite_t (ndec_f hb610) h
       refine aw_skip (xr (xm Z Z Z (xm Z Z Z (xa (.bool true) Z (pu_assign Z (AEv.bool _)) (xe (aw_ret ?_))))))
       obtain rfl := some_of h
       exact ⟨[.i s605, .bool true], _, [], ⟨(tm Z), (tm Z), trivial⟩, vr, Weak.mkL [] (by decide) trivial trivial, ⟨Z, Z⟩⟩
  ·have h := s612e
   refine xr (xa (.i 0) Z (pu_assign Z (AEv.int _ _)) (xe (aw_block (aw_while (σ := mewsref01.Parse.S0) (ν := Unit) (mewsref01.Parse.body0 s_ s309) (fun s550 v => [(0, .str s_), (4, .bool s309), (5, .i s550.n), (6, .i s550.i)]) (fun s550 v => []) ⟨0, 0⟩ () _ h (Weak.mkL [] (by decide) trivial ⟨tm Z, tm Z, tm Z, tm Z, trivial⟩) ?_))))
   rintro s550 _ x552 h hx551
   unfold mewsref01.Parse.body0 at h
   refine aw_seq (xr (xm Z Z Z (xm Z Z Z (xa (.i (s_.length : Int)) Z (pu_strLen Z underlying9 (tm Z)) (xa (.bool (decide (s550.i < (s_.length : Int)))) Z (pu_int (v := .bool (decide (s550.i < (s_.length : Int)))) Z Z (tm Z) (tm Z) Z) (xe (aw_cond (b := decide (s550.i < (s_.length : Int))) (tm Z) (fun hb598 => ?_) (fun hb598 => ?_))))))))
   ·replace h := ite_t (dec_t hb598) h
    refine aw_skip ?_
    obtain ⟨s597, s597e, h575⟩ := bind_some h
    refine aw_join (σ := Int) (ν := Unit) (fun u v => [(0, .str s_), (4, .bool s309), (5, .i u), (6, .i s550.i)]) (fun u v => []) (fun u => s597 = .inl u) ?_ ?_
    ·intro s574
     intro _
     rintro rfl
     have h := onSum_inl h575
     refine aw_region (xm Z Z Z (xa (.i (IntKind.wrap .i64 (s550.i + 1))) Z (pu_int (v := .i (IntKind.wrap .i64 (s550.i + 1))) Z Z (tm Z) (AEv.int _ _) Z) (xm Z Z Z (xe ?_))))
     obtain rfl := some_of h
     exact ⟨_, (), Z, Weak.mkL [] (by decide) trivial ⟨tm Z, tm Z, tm Z, (AEv.le (tm Z) vr), trivial⟩⟩
    ·have h := s597e
     refine aw_block (aw_seq ?_)
     obtain ⟨s578, s578e, h579⟩ := letO_of h
     refine aw_meet (ν := Unit) (fun v => [(0, .str s_), (4, .bool s309), (5, .i s550.n), (6, .i s550.i), (26, .bool s578)]) (fun v => []) ?_ ?_
     ·have h := s578e.symm
      refine aw_region (xm Z Z Z (xa (.bool (decide (s550.i = 0))) Z (pu_int (v := .bool (decide (s550.i = 0))) Z Z (tm Z) (AEv.int _ _) Z) (xm Z Z Z ?_)))
      rcases Bool.eq_false_or_eq_true (decide (s550.i = 0)) with hb581 | hb581
      ·replace h := ite_t (dec_t hb581) h
       refine aops_known 24 Z hb581 (xq Z Z Z Z (xa (.bool s309) Z (pu_pick (b := true) Z (tm Z) (fun _ => (tm Z)) (fun h => nomatch h)) (xe ?_)))
       subst h
       exact ⟨(), Weak.mkL [] (by decide) trivial ⟨tm Z, tm Z, tm Z, tm Z, tm Z, trivial⟩⟩
      ·replace h := ite_f (dec_f hb581) h
       refine aops_known 24 Z hb581 (xn Z Z Z (xa (.bool false) Z (pu_pick (b := false) Z (tm Z) (fun h => nomatch h) (fun _ => (AEv.bool _))) (xe ?_)))
       subst h
       exact ⟨(), Weak.mkL [] (by decide) trivial ⟨tm Z, tm Z, tm Z, tm Z, tm Z, trivial⟩⟩
     ·intro _
      have h := h579
      refine aw_cond (b := s578) (tm Z) (fun hb596 => ?_) (fun hb596 => ?_)
      ·replace h := ite_t hb596 h
       refine aw_exit ?_
       exact ⟨s550.n, (), (some_of h).symm, Weak.mkL [] (by decide) trivial ⟨tm Z, tm Z, tm Z, tm Z, trivial⟩⟩
      ·replace h := ite_fb hb596 h
       refine aw_skip (aw_seq ?_)
       obtain ⟨s585, s585e, h586⟩ := bind_some h
       refine aw_meet (ν := Unit) (fun v => [(0, .str s_), (4, .bool s309), (5, .i s550.n), (6, .i s550.i), (36, .bool s585)]) (fun v => []) ?_ ?_
       ·have h := s585e
        refine aw_region (xm Z Z Z (xm Z Z Z ?_))
        obtain ⟨c588, h⟩ := need_of h
        refine xa (.int .u8 (bix s_ s550.i)) Z (pu_strIdxM Z underlying9 (tm Z) (tm Z) c588) (xa (.bool (decide ((bix s_ s550.i) < 48))) Z (pu_int (v := .bool (decide ((bix s_ s550.i) < 48))) Z Z (tm Z) (AEv.int _ _) Z) (xm Z Z Z ?_))
        rcases Bool.eq_false_or_eq_true (decide ((bix s_ s550.i) < 48)) with hb589 | hb589
        ·replace h := ite_t (dec_t hb589) h
         refine aops_known 31 Z hb589 (xn Z Z Z (xn Z Z Z (xn Z Z Z (xn Z Z Z (xa (.bool true) Z (pu_pick (b := true) Z (tm Z) (fun _ => (AEv.bool _)) (fun h => nomatch h)) (xe ?_))))))
         obtain rfl := some_of h
         exact ⟨(), Weak.mkL [] (by decide) trivial ⟨tm Z, tm Z, tm Z, tm Z, tm Z, trivial⟩⟩
        ·replace h := ite_f (dec_f hb589) h
         refine aops_known 31 Z hb589 (xq Z Z Z Z (xq Z Z Z Z ?_))
         obtain ⟨c590, h⟩ := need_of h
         refine xp (.int .u8 (bix s_ s550.i)) Z Z (pu_strIdxM Z underlying9 (tm Z) (tm Z) c590) (xp (.bool (decide (57 < (bix s_ s550.i)))) Z Z (pu_int (v := .bool (decide (57 < (bix s_ s550.i)))) Z Z (tm Z) (AEv.int _ _) Z) (xa (.bool (decide (57 < (bix s_ s550.i)))) Z (pu_pick (b := false) Z (tm Z) (fun h => nomatch h) (fun _ => (tm Z))) (xe ?_)))
         obtain rfl := some_of h
         exact ⟨(), Weak.mkL [] (by decide) trivial ⟨tm Z, tm Z, tm Z, tm Z, (AEv.le (tm Z) vr), trivial⟩⟩
       ·intro _
        have h := h586
        refine aw_cond (b := s585) (tm Z) (fun hb595 => ?_) (fun hb595 => ?_)
        ·replace h := ite_t hb595 h
         refine xr (xa (.i 0) Z (pu_assign Z (AEv.int _ _)) (xa (.bool false) Z (pu_assign Z (AEv.bool _)) (xe (aw_ret ?_))))
         obtain rfl := some_of h
         have h := onSum_inr h575
         obtain rfl := some_of h
         have h := congrArg some (hx551 _ rfl)
         obtain rfl := some_of h
         have h := onSum_inr h456
         obtain rfl := some_of h
         exact ⟨[.i 0, .bool false], _, [], ⟨(tm Z), (tm Z), trivial⟩, vr, Weak.mkL [] (by decide) trivial trivial, ⟨Z, Z⟩⟩
        ·replace h := ite_fb hb595 h
         refine aw_skip (xr (xm Z Z Z (xm Z Z Z ?_)))
         obtain ⟨c591, h⟩ := need_of h
         refine xa (.int .u8 (bix s_ s550.i)) Z (pu_strIdxM Z underlying9 (tm Z) (tm Z) c591) (xa (.int .u8 (IntKind.wrap .u8 ((bix s_ s550.i) - 48))) Z (pu_int (v := .int .u8 (IntKind.wrap .u8 ((bix s_ s550.i) - 48))) Z Z (tm Z) (AEv.int _ _) Z) (xa (.i (IntKind.wrap .i64 (IntKind.wrap .u8 ((bix s_ s550.i) - 48)))) Z (pu_conv Z underlying5 underlying2 (tm Z)) (xm Z Z Z (xe (aw_seq (xr (xm Z Z Z (xm Z Z Z ?_))))))))
         refine xa (.i (IntKind.wrap .i64 ((-9223372036854775808) + (IntKind.wrap .i64 (IntKind.wrap .u8 ((bix s_ s550.i) - 48)))))) Z (pu_int (v := .i (IntKind.wrap .i64 ((-9223372036854775808) + (IntKind.wrap .i64 (IntKind.wrap .u8 ((bix s_ s550.i) - 48)))))) Z Z (AEv.int _ _) (tm Z) Z) ?_
         obtain ⟨x592, x592e, h⟩ := letO_of h
         refine xa (.i x592) Z (APure.eq (pu_quo Z (tm Z) (AEv.int _ _) (by decide)) (congrArg (AV.int .i64) x592e.symm)) (xa (.bool (decide (s550.n < x592))) Z (pu_int (v := .bool (decide (s550.n < x592))) Z Z (tm Z) (tm Z) Z) (xe (aw_cond (b := decide (s550.n < x592)) (tm Z) (fun hb594 => ?_) (fun hb594 => ?_))))
         ·replace h := ite_t (dec_t hb594) h
          refine xr (xa (.i 0) Z (pu_assign Z (AEv.int _ _)) (xa (.bool false) Z (pu_assign Z (AEv.bool _)) (xe (aw_ret ?_))))
          obtain rfl := some_of h
          have h := onSum_inr h575
          obtain rfl := some_of h
          have h := congrArg some (hx551 _ rfl)
          obtain rfl := some_of h
          have h := onSum_inr h456
          obtain rfl := some_of h
          exact ⟨[.i 0, .bool false], _, [], ⟨(tm Z), (tm Z), trivial⟩, vr, Weak.mkL [] (by decide) trivial trivial, ⟨Z, Z⟩⟩
         ·replace h := ite_f (dec_f hb594) h
          refine aw_skip (aw_region (xm Z Z Z (xa (.i (IntKind.wrap .i64 (s550.n * 10))) Z (pu_int (v := .i (IntKind.wrap .i64 (s550.n * 10))) Z Z (tm Z) (AEv.int _ _) Z) (xm Z Z Z ?_))))
          obtain ⟨x593, x593e, h⟩ := letO_of h
          refine xa (.i x593) Z (APure.eq (pu_int (v := .i (IntKind.wrap .i64 ((IntKind.wrap .i64 (s550.n * 10)) - (IntKind.wrap .i64 (IntKind.wrap .u8 ((bix s_ s550.i) - 48)))))) Z Z (tm Z) (tm Z) Z) (congrArg (AV.int .i64) x593e.symm)) (xm Z Z Z (xe ?_))
          exact ⟨x593, (), (some_of h).symm, Weak.mkL [] (by decide) trivial ⟨tm Z, tm Z, tm Z, tm Z, trivial⟩⟩
   ·replace h := ite_f (dec_f hb598) h
    refine aw_exit ?_
    obtain rfl := some_of h
    have h := congrArg some (hx551 _ rfl)
    exact ⟨s550.n, (), (some_of h).symm, Weak.mkL [] (by decide) trivial ⟨tm Z, tm Z, tm Z, trivial⟩⟩

theorem mewsref05.first.ok {s_ : List UInt8} {mark : Int} {most : Int} {over : Int} {r : Int × Int × Int} (h : mewsref05.first s_ mark most over = some r) : Go.Lift.Spec prog 78 [.str s_, .int .u8 mark, .i most, .i over] [] (fun v H => v = .tup [.i r.1, .i r.2.1, .i r.2.2] ∧ H = []) := by
 unfold mewsref05.first at h
 refine Go.Lift.Spec.of_body (rs := [.tmp 8, .tmp 9, .tmp 10]) func78 Z Z (nb Z) Z (xr (xa (.i 0) Z (pu_assign Z (AEv.int _ _)) (xa (.i 0) Z (pu_assign Z (AEv.int _ _)) (xa (.i 0) Z (pu_assign Z (AEv.int _ _)) (xe (aw_seq (aw_seq (aw_region ?_))))))))
 refine xm Z Z Z (xa (.bool (decide (s_ = ([] : List UInt8)))) Z (pu_str (v := .bool (decide (s_ = ([] : List UInt8)))) Z Z (tm Z) (AEv.const Z) Z) (xe (aw_cond (b := decide (s_ = ([] : List UInt8))) (tm Z) (fun hb404 => ?_) (fun hb404 => ?_))))
 ·replace h := ite_t (dec_t hb404) h
  refine xr (xa (.i 0) Z (pu_assign Z (AEv.int _ _)) (xa (.i 0) Z (pu_assign Z (AEv.int _ _)) (xa (.i (-1)) Z (pu_assign Z (AEv.int _ _)) (xe (aw_ret ?_)))))
  obtain rfl := some_of h
  exact ⟨[.i 0, .i 0, .i (-1)], _, [], ⟨(tm Z), (tm Z), (tm Z), trivial⟩, vr, Weak.mkL [] (by decide) trivial trivial, ⟨Z, Z⟩⟩
 ·replace h := ite_f (dec_f hb404) h
  refine aw_skip (aw_seq (xr (xm Z Z Z ?_)))
  obtain ⟨c203, h⟩ := need_of h
  refine xa (.int .u8 (bix s_ 0)) Z (pu_strIdxM Z underlying9 (tm Z) (AEv.int _ _) c203) (xm Z Z Z (xa (.bool (!decide ((bix s_ 0) = mark))) Z (pu_int (v := .bool (!decide ((bix s_ 0) = mark))) Z Z (tm Z) (tm Z) Z) (xe (aw_cond (b := (!decide ((bix s_ 0) = mark))) (tm Z) (fun hb403 => ?_) (fun hb403 => ?_)))))
  ·replace h := ite_f (ndec_t hb403) h
   refine xr (xa (.i 0) Z (pu_assign Z (AEv.int _ _)) (xa (.i 0) Z (pu_assign Z (AEv.int _ _)) (xa (.i 5) Z (pu_assign Z (AEv.int _ _)) (xe (aw_ret ?_)))))
   obtain rfl := some_of h
   exact ⟨[.i 0, .i 0, .i 5], _, [], ⟨(tm Z), (tm Z), (tm Z), trivial⟩, vr, Weak.mkL [] (by decide) trivial trivial, ⟨Z, Z⟩⟩
  ·replace h := ite_t (ndec_f hb403) h
   refine aw_skip (xr (xa (.i 1) Z (pu_assign Z (AEv.int _ _)) (xe ?_)))
   obtain ⟨s402, s402e, h295⟩ := bind_some h
   refine aw_join (σ := Int) (ν := Unit) (fun u v => [(0, .str s_), (11, .i u)]) (fun u v => []) (fun u => s402 = .inl u) ?_ ?_
   ·intro s294
    intro _
    rintro rfl
    have h := onSum_inl h295
    refine xr (xm Z Z Z (xm Z Z Z ?_))
    obtain ⟨c387, h⟩ := need_of h
    refine xa (.str (sub s_ 1 s294)) Z (pu_strSliceM Z underlying9 (tm Z) ⟨_, (AEv.int _ _)⟩ ⟨_, (tm Z)⟩ c387) ?_
    obtain ⟨r388, r388e, h⟩ := bind_some h
    refine xc Z (op_call (vs := [.str (sub s_ 1 s294)]) (H := []) Z call92 ⟨(tm Z), trivial⟩ (List.Perm.refl _) (mewsref01.Parse.ok r388e) ?_)
    rintro _ _ ⟨rfl, rfl⟩
    refine xm Z Z Z (xa (.i r388.1) Z (pu_extract Z (tm Z) (nb Z) Z) (xa (.bool r388.2) Z (pu_extract Z (tm Z) (nb Z) Z) (xm Z Z Z (xm Z Z Z (xe (xr (xm Z Z Z (xm Z Z Z ?_))))))))
    obtain ⟨c389, h⟩ := need_of h
    refine xa (.str (sub s_ s294 (s_.length : Int))) Z (pu_strSliceM Z underlying9 (tm Z) ⟨_, (tm Z)⟩ Z c389) (xm Z Z Z (xe (aw_seq (aw_block (xr (xm Z Z Z (xa (.bool (decide ((sub s_ s294 (s_.length : Int)) = ([] : List UInt8)))) Z (pu_str (v := .bool (decide ((sub s_ s294 (s_.length : Int)) = ([] : List UInt8)))) Z Z (tm Z) (AEv.const Z) Z) (xm Z Z Z ?_))))))))
    refine xe (aw_cond (b := decide ((sub s_ s294 (s_.length : Int)) = ([] : List UInt8))) (tm Z) (fun hb401 => ?_) (fun hb401 => ?_))
    ·replace h := ite_t (dec_t hb401) h
     refine xr (xa (.i 0) Z (pu_assign Z (AEv.int _ _)) (xa (.i 0) Z (pu_assign Z (AEv.int _ _)) (xa (.i (-1)) Z (pu_assign Z (AEv.int _ _)) (xe (aw_ret ?_)))))
     obtain rfl := some_of h
     exact ⟨[.i 0, .i 0, .i (-1)], _, [], ⟨(tm Z), (tm Z), (tm Z), trivial⟩, vr, Weak.mkL [] (by decide) trivial trivial, ⟨Z, Z⟩⟩
    ·replace h := ite_f (dec_f hb401) h
     obtain ⟨s392, s392e, h393⟩ := bind_some h
     refine aw_meet (ν := Unit) (fun v => [(11, .i s294), (14, .i r388.1), (16, .str (sub s_ s294 (s_.length : Int))), (77, .bool s392)]) (fun v => []) ?_ ?_
     ·have h := s392e
      refine aw_region (xm Z Z Z (xa (.bool (decide (s294 = 1))) Z (pu_int (v := .bool (decide (s294 = 1))) Z Z (tm Z) (AEv.int _ _) Z) (xm Z Z Z ?_)))
      rcases Bool.eq_false_or_eq_true (decide (s294 = 1)) with hb395 | hb395
      ·replace h := ite_t (dec_t hb395) h
       refine aops_known 80 Z hb395 (xn Z Z Z (xn Z Z Z (xn Z Z Z (xa (.bool true) Z (pu_pick (b := true) Z (tm Z) (fun _ => (AEv.bool _)) (fun h => nomatch h)) (xm Z Z Z (xe ?_))))))
       obtain rfl := some_of h
       exact ⟨(), Weak.mkL [] (by decide) trivial ⟨tm Z, tm Z, tm Z, tm Z, trivial⟩⟩
      ·replace h := ite_f (dec_f hb395) h
       refine aops_known 80 Z hb395 (xq Z Z Z Z ?_)
       obtain ⟨c396, h⟩ := need_of h
       refine xp (.int .u8 (bix (sub s_ s294 (s_.length : Int)) 0)) Z Z (pu_strIdxM Z underlying9 (tm Z) (AEv.int _ _) c396) (xp (.bool (!decide ((bix (sub s_ s294 (s_.length : Int)) 0) = 13))) Z Z (pu_int (v := .bool (!decide ((bix (sub s_ s294 (s_.length : Int)) 0) = 13))) Z Z (tm Z) (AEv.int _ _) Z) (xa (.bool (!decide ((bix (sub s_ s294 (s_.length : Int)) 0) = 13))) Z (pu_pick (b := false) Z (tm Z) (fun h => nomatch h) (fun _ => (tm Z))) (xm Z Z Z (xe ?_))))
       obtain rfl := some_of h
       exact ⟨(), Weak.mkL [] (by decide) trivial ⟨tm Z, tm Z, tm Z, tm Z, trivial⟩⟩
     ·intro _
      have h := h393
      refine aw_cond (b := s392) (tm Z) (fun hb400 => ?_) (fun hb400 => ?_)
      ·replace h := ite_t hb400 h
       refine xr (xa (.i 0) Z (pu_assign Z (AEv.int _ _)) (xa (.i 0) Z (pu_assign Z (AEv.int _ _)) (xa (.i 5) Z (pu_assign Z (AEv.int _ _)) (xe (aw_ret ?_)))))
       obtain rfl := some_of h
       exact ⟨[.i 0, .i 0, .i 5], _, [], ⟨(tm Z), (tm Z), (tm Z), trivial⟩, vr, Weak.mkL [] (by decide) trivial trivial, ⟨Z, Z⟩⟩
      ·replace h := ite_fb hb400 h
       refine xr (xm Z Z Z (xa (.i ((sub s_ s294 (s_.length : Int)).length : Int)) Z (pu_strLen Z underlying9 (tm Z)) (xa (.bool (decide (((sub s_ s294 (s_.length : Int)).length : Int) = 1))) Z (pu_int (v := .bool (decide (((sub s_ s294 (s_.length : Int)).length : Int) = 1))) Z Z (tm Z) (AEv.int _ _) Z) (xm Z Z Z (xe (aw_cond (b := decide (((sub s_ s294 (s_.length : Int)).length : Int) = 1)) (tm Z) (fun hb399 => ?_) (fun hb399 => ?_)))))))
       ·replace h := ite_t (dec_t hb399) h
        refine xr (xa (.i 0) Z (pu_assign Z (AEv.int _ _)) (xa (.i 0) Z (pu_assign Z (AEv.int _ _)) (xa (.i (-1)) Z (pu_assign Z (AEv.int _ _)) (xe (aw_ret ?_)))))
        obtain rfl := some_of h
        exact ⟨[.i 0, .i 0, .i (-1)], _, [], ⟨(tm Z), (tm Z), (tm Z), trivial⟩, vr, Weak.mkL [] (by decide) trivial trivial, ⟨Z, Z⟩⟩
       ·replace h := ite_f (dec_f hb399) h
        refine xr (xm Z Z Z ?_)
        obtain ⟨c397, h⟩ := need_of h
        refine xa (.int .u8 (bix (sub s_ s294 (s_.length : Int)) 1)) Z (pu_strIdxM Z underlying9 (tm Z) (AEv.int _ _) c397) (xa (.bool (!decide ((bix (sub s_ s294 (s_.length : Int)) 1) = 10))) Z (pu_int (v := .bool (!decide ((bix (sub s_ s294 (s_.length : Int)) 1) = 10))) Z Z (tm Z) (AEv.int _ _) Z) (xm Z Z Z (xe (aw_cond (b := (!decide ((bix (sub s_ s294 (s_.length : Int)) 1) = 10))) (tm Z) (fun hb398 => ?_) (fun hb398 => ?_)))))
        ·replace h := ite_f (ndec_t hb398) h
         refine xr (xa (.i 0) Z (pu_assign Z (AEv.int _ _)) (xa (.i 0) Z (pu_assign Z (AEv.int _ _)) (xa (.i 5) Z (pu_assign Z (AEv.int _ _)) (xe (aw_ret ?_)))))
         obtain rfl := some_of h
         exact ⟨[.i 0, .i 0, .i 5], _, [], ⟨(tm Z), (tm Z), (tm Z), trivial⟩, vr, Weak.mkL [] (by decide) trivial trivial, ⟨Z, Z⟩⟩
        ·replace h := ite_t (ndec_f hb398) h
         refine aw_skip (xr (xm Z Z Z (xm Z Z Z (xa (.i (IntKind.wrap .i64 (s294 + 2))) Z (pu_int (v := .i (IntKind.wrap .i64 (s294 + 2))) Z Z (tm Z) (AEv.int _ _) Z) (xm Z Z Z (xm Z Z Z (xa (.i 0) Z (pu_assign Z (AEv.int _ _)) (xe ?_))))))))
         refine aw_ret ?_
         obtain rfl := some_of h
         exact ⟨[.i r388.1, .i (IntKind.wrap .i64 (s294 + 2)), .i 0], _, [], ⟨(tm Z), (tm Z), (tm Z), trivial⟩, vr, Weak.mkL [] (by decide) trivial trivial, ⟨Z, Z⟩⟩
   ·have h := s402e
    refine aw_block (aw_while (σ := mewsref05.first.S0) (ν := Unit) (mewsref05.first.body0 s_ most over) (fun s355 v => [(0, .str s_), (2, .i most), (3, .i over), (11, .i s355.digits)]) (fun s355 v => []) ⟨1⟩ () _ h (Weak.mkL [] (by decide) trivial ⟨tm Z, tm Z, tm Z, tm Z, trivial⟩) ?_)
    rintro s355 _ x357 h hx356
    unfold mewsref05.first.body0 at h
    refine aw_seq ?_
    obtain ⟨s363, s363e, h364⟩ := bind_some h
    refine aw_meet (ν := Unit) (fun v => [(0, .str s_), (2, .i most), (3, .i over), (11, .i s355.digits), (38, .bool s363)]) (fun v => []) ?_ ?_
    ·have h := s363e
     refine aw_region (xm Z Z Z (xm Z Z Z (xa (.i (s_.length : Int)) Z (pu_strLen Z underlying9 (tm Z)) (xa (.bool (decide (s355.digits < (s_.length : Int)))) Z (pu_int (v := .bool (decide (s355.digits < (s_.length : Int)))) Z Z (tm Z) (tm Z) Z) (xm Z Z Z ?_)))))
     rcases Bool.eq_false_or_eq_true (decide (s355.digits < (s_.length : Int))) with hb366 | hb366
     ·replace h := ite_t (dec_t hb366) h
      refine aops_known 27 Z hb366 (xq Z Z Z Z (xq Z Z Z Z ?_))
      obtain ⟨c367, h⟩ := need_of h
      refine xp (.int .u8 (bix s_ s355.digits)) Z Z (pu_strIdxM Z underlying9 (tm Z) (tm Z) c367) (xp (.bool (decide (48 ≤ (bix s_ s355.digits)))) Z Z (pu_int (v := .bool (decide (48 ≤ (bix s_ s355.digits)))) Z Z (tm Z) (AEv.int _ _) Z) (xa (.bool (decide (48 ≤ (bix s_ s355.digits)))) Z (pu_pick (b := true) Z (tm Z) (fun _ => (tm Z)) (fun h => nomatch h)) (xm Z Z Z ?_)))
      rcases Bool.eq_false_or_eq_true (decide (48 ≤ (bix s_ s355.digits))) with hb368 | hb368
      ·replace h := ite_t (dec_t hb368) h
       refine aops_known 33 Z hb368 (xq Z Z Z Z (xq Z Z Z Z ?_))
       obtain ⟨c369, h⟩ := need_of h
       refine xp (.int .u8 (bix s_ s355.digits)) Z Z (pu_strIdxM Z underlying9 (tm Z) (tm Z) c369) (xp (.bool (decide ((bix s_ s355.digits) ≤ 57))) Z Z (pu_int (v := .bool (decide ((bix s_ s355.digits) ≤ 57))) Z Z (tm Z) (AEv.int _ _) Z) (xa (.bool (decide ((bix s_ s355.digits) ≤ 57))) Z (pu_pick (b := true) Z (tm Z) (fun _ => (tm Z)) (fun h => nomatch h)) (xe ?_)))
       obtain rfl := some_of h
       exact ⟨(), Weak.mkL [] (by decide) trivial ⟨tm Z, tm Z, tm Z, tm Z, (AEv.le (tm Z) vr), trivial⟩⟩
      ·replace h := ite_f (dec_f hb368) h
       refine aops_known 33 Z hb368 (xn Z Z Z (xn Z Z Z (xn Z Z Z (xn Z Z Z (xa (.bool false) Z (pu_pick (b := false) Z (tm Z) (fun h => nomatch h) (fun _ => (AEv.bool _))) (xe ?_))))))
       obtain rfl := some_of h
       exact ⟨(), Weak.mkL [] (by decide) trivial ⟨tm Z, tm Z, tm Z, tm Z, tm Z, trivial⟩⟩
     ·replace h := ite_f (dec_f hb366) h
      refine aops_known 27 Z hb366 (xn Z Z Z (xn Z Z Z (xn Z Z Z (xn Z Z Z (xa (.bool false) Z (pu_pick (b := false) Z (tm Z) (fun h => nomatch h) (fun _ => (AEv.bool _))) (xm Z Z Z (xn Z Z Z (xn Z Z Z (xn Z Z Z ?_)))))))))
      refine xn Z Z Z (xa (.bool false) Z (pu_pick (b := false) Z (tm Z) (fun h => nomatch h) (fun _ => (AEv.bool _))) (xe ?_))
      obtain rfl := some_of h
      exact ⟨(), Weak.mkL [] (by decide) trivial ⟨tm Z, tm Z, tm Z, tm Z, tm Z, trivial⟩⟩
    ·intro _
     have h := h364
     refine aw_cond (b := s363) (tm Z) (fun hb386 => ?_) (fun hb386 => ?_)
     ·replace h := ite_t hb386 h
      refine aw_skip (aw_block (xr (xm Z Z Z (xm Z Z Z (xa (.i (IntKind.wrap .i64 (s355.digits + 1))) Z (pu_int (v := .i (IntKind.wrap .i64 (s355.digits + 1))) Z Z (tm Z) (AEv.int _ _) Z) ?_)))))
      obtain ⟨c370, h⟩ := need_of h
      refine xa (.str (sub s_ 1 (IntKind.wrap .i64 (s355.digits + 1)))) Z (pu_strSliceM Z underlying9 (tm Z) ⟨_, (AEv.int _ _)⟩ ⟨_, (tm Z)⟩ c370) ?_
      obtain ⟨r371, r371e, h⟩ := bind_some h
      refine xc Z (op_call (vs := [.str (sub s_ 1 (IntKind.wrap .i64 (s355.digits + 1)))]) (H := []) Z call92 ⟨(tm Z), trivial⟩ (List.Perm.refl _) (mewsref01.Parse.ok r371e) ?_)
      rintro _ _ ⟨rfl, rfl⟩
      refine xm Z Z Z (xa (.i r371.1) Z (pu_extract Z (tm Z) (nb Z) Z) (xa (.bool r371.2) Z (pu_extract Z (tm Z) (nb Z) Z) (xm Z Z Z (xm Z Z Z (xe (aw_seq ?_))))))
      obtain ⟨s374, s374e, h375⟩ := bind_some h
      refine aw_meet (ν := Unit) (fun v => [(0, .str s_), (2, .i most), (3, .i over), (11, .i s355.digits), (12, .i r371.1), (13, .bool r371.2), (53, .bool s374)]) (fun v => []) ?_ ?_
      ·have h := s374e
       refine aw_region (xm Z Z Z (xa (.bool (!r371.2)) Z (pu_not Z (tm Z)) (xm Z Z Z ?_)))
       rcases Bool.eq_false_or_eq_true (!r371.2) with hb377 | hb377
       ·replace h := ite_t hb377 h
        refine aops_known 49 Z hb377 (xq Z Z Z Z ?_)
        obtain ⟨c378, h⟩ := need_of h
        refine xp (.int .u8 (bix s_ 1)) Z Z (pu_strIdxM Z underlying9 (tm Z) (AEv.int _ _) c378) (xp (.bool (decide ((bix s_ 1) = 48))) Z Z (pu_int (v := .bool (decide ((bix s_ 1) = 48))) Z Z (tm Z) (AEv.int _ _) Z) (xa (.bool (decide ((bix s_ 1) = 48))) Z (pu_pick (b := true) Z (tm Z) (fun _ => (tm Z)) (fun h => nomatch h)) (xe ?_)))
        obtain rfl := some_of h
        exact ⟨(), Weak.mkL [] (by decide) trivial ⟨tm Z, tm Z, tm Z, tm Z, tm Z, tm Z, (AEv.le (tm Z) vr), trivial⟩⟩
       ·replace h := ite_fb hb377 h
        refine aops_known 49 Z hb377 (xn Z Z Z (xn Z Z Z (xn Z Z Z (xa (.bool false) Z (pu_pick (b := false) Z (tm Z) (fun h => nomatch h) (fun _ => (AEv.bool _))) (xe ?_)))))
        obtain rfl := some_of h
        exact ⟨(), Weak.mkL [] (by decide) trivial ⟨tm Z, tm Z, tm Z, tm Z, tm Z, tm Z, tm Z, trivial⟩⟩
      ·intro _
       have h := h375
       refine aw_cond (b := s374) (tm Z) (fun hb385 => ?_) (fun hb385 => ?_)
       ·replace h := ite_t hb385 h
        refine xr (xa (.i 0) Z (pu_assign Z (AEv.int _ _)) (xa (.i 0) Z (pu_assign Z (AEv.int _ _)) (xa (.i 5) Z (pu_assign Z (AEv.int _ _)) (xe (aw_ret ?_)))))
        obtain rfl := some_of h
        have h := congrArg some (hx356 _ rfl)
        obtain rfl := some_of h
        have h := onSum_inr h295
        obtain rfl := some_of h
        exact ⟨[.i 0, .i 0, .i 5], _, [], ⟨(tm Z), (tm Z), (tm Z), trivial⟩, vr, Weak.mkL [] (by decide) trivial trivial, ⟨Z, Z⟩⟩
       ·replace h := ite_fb hb385 h
        refine aw_skip (aw_seq ?_)
        obtain ⟨s380, s380e, h381⟩ := letO_of h
        refine aw_meet (ν := Unit) (fun v => [(0, .str s_), (2, .i most), (3, .i over), (11, .i s355.digits), (60, .bool s380)]) (fun v => []) ?_ ?_
        ·have h := s380e.symm
         refine aw_region (xm Z Z Z (xa (.bool (!r371.2)) Z (pu_not Z (tm Z)) (xm Z Z Z ?_)))
         rcases Bool.eq_false_or_eq_true (!r371.2) with hb383 | hb383
         ·replace h := ite_t hb383 h
          refine aops_known 56 Z hb383 (xn Z Z Z (xn Z Z Z (xn Z Z Z (xa (.bool true) Z (pu_pick (b := true) Z (tm Z) (fun _ => (AEv.bool _)) (fun h => nomatch h)) (xe ?_)))))
          subst h
          exact ⟨(), Weak.mkL [] (by decide) trivial ⟨tm Z, tm Z, tm Z, tm Z, tm Z, trivial⟩⟩
         ·replace h := ite_fb hb383 h
          refine aops_known 56 Z hb383 (xq Z Z Z Z (xq Z Z Z Z (xp (.bool (decide (most < r371.1))) Z Z (pu_int (v := .bool (decide (most < r371.1))) Z Z (tm Z) (tm Z) Z) (xa (.bool (decide (most < r371.1))) Z (pu_pick (b := false) Z (tm Z) (fun h => nomatch h) (fun _ => (tm Z))) (xe ?_)))))
          subst h
          exact ⟨(), Weak.mkL [] (by decide) trivial ⟨tm Z, tm Z, tm Z, tm Z, (AEv.le (tm Z) vr), trivial⟩⟩
        ·intro _
         have h := h381
         refine aw_cond (b := s380) (tm Z) (fun hb384 => ?_) (fun hb384 => ?_)
         ·replace h := ite_t hb384 h
          refine xr (xm Z Z Z (xa (.i 0) Z (pu_assign Z (AEv.int _ _)) (xa (.i 0) Z (pu_assign Z (AEv.int _ _)) (xm Z Z Z (xe (aw_ret ?_))))))
          obtain rfl := some_of h
          have h := congrArg some (hx356 _ rfl)
          obtain rfl := some_of h
          have h := onSum_inr h295
          obtain rfl := some_of h
          exact ⟨[.i 0, .i 0, .i over], _, [], ⟨(tm Z), (tm Z), (tm Z), trivial⟩, vr, Weak.mkL [] (by decide) trivial trivial, ⟨Z, Z⟩⟩
         ·replace h := ite_fb hb384 h
          refine aw_skip (aw_region (xm Z Z Z (xa (.i (IntKind.wrap .i64 (s355.digits + 1))) Z (pu_int (v := .i (IntKind.wrap .i64 (s355.digits + 1))) Z Z (tm Z) (AEv.int _ _) Z) (xm Z Z Z (xe ?_)))))
          obtain rfl := some_of h
          exact ⟨_, (), Z, Weak.mkL [] (by decide) trivial ⟨tm Z, tm Z, tm Z, (AEv.le (tm Z) vr), trivial⟩⟩
     ·replace h := ite_fb hb386 h
      refine aw_exit ?_
      obtain rfl := some_of h
      have h := congrArg some (hx356 _ rfl)
      exact ⟨s355.digits, (), (some_of h).symm, Weak.mkL [] (by decide) trivial ⟨tm Z, tm Z, trivial⟩⟩

theorem mewsref05.ends.ok {s_ : List UInt8} {r : Int} (h : mewsref05.ends s_ = some r) : Go.Lift.Spec prog 79 [.str s_] [] (fun v H => v = .i r ∧ H = []) := by
 unfold mewsref05.ends at h
 refine Go.Lift.Spec.of_body (rs := [.tmp 2]) func79 Z Z (nb Z) Z (xr (xa (.i 0) Z (pu_assign Z (AEv.int _ _)) (xe (xr (xa (.str [13, 10]) Z (pu_assign Z (AEv.const Z)) (xe ?_))))))
 obtain ⟨s92, s92e, h69⟩ := bind_some h
 refine aw_join (σ := Unit) (ν := Unit) (fun u v => []) (fun u v => []) (fun u => s92 = .inl u) ?_ ?_
 ·intro s68
  intro _
  rintro rfl
  have h := onSum_inl h69
  refine xr (xa (.i 0) Z (pu_assign Z (AEv.int _ _)) (xe (aw_ret ?_)))
  obtain rfl := some_of h
  exact ⟨[.i 0], _, [], ⟨(tm Z), trivial⟩, vr, Weak.mkL [] (by decide) trivial trivial, ⟨Z, Z⟩⟩
 ·have h := s92e
  refine xr (xa (.i 0) Z (pu_assign Z (AEv.int _ _)) (xe (aw_block (aw_while (σ := mewsref05.ends.S0) (ν := Unit) (mewsref05.ends.body0 s_) (fun s83 v => [(0, .str s_), (3, .str [13, 10]), (4, .i s83.i)]) (fun s83 v => []) ⟨0⟩ () _ h (Weak.mkL [] (by decide) trivial ⟨tm Z, tm Z, tm Z, trivial⟩) ?_))))
  rintro s83 _ x85 h hx84
  unfold mewsref05.ends.body0 at h
  refine aw_seq (xr (xm Z Z Z (xa (.bool (decide (s83.i < 2))) Z (pu_int (v := .bool (decide (s83.i < 2))) Z Z (tm Z) (AEv.int _ _) Z) (xe (aw_cond (b := decide (s83.i < 2)) (tm Z) (fun hb91 => ?_) (fun hb91 => ?_))))))
  ·replace h := ite_t (dec_t hb91) h
   refine aw_skip (aw_seq (aw_block (aw_seq (xr (xm Z Z Z (xa (.i (s_.length : Int)) Z (pu_strLen Z underlying9 (tm Z)) (xm Z Z Z (xa (.bool (decide ((s_.length : Int) ≤ s83.i))) Z (pu_int (v := .bool (decide ((s_.length : Int) ≤ s83.i))) Z Z (tm Z) (tm Z) Z) ?_))))))))
   refine xe (aw_cond (b := decide ((s_.length : Int) ≤ s83.i)) (tm Z) (fun hb90 => ?_) (fun hb90 => ?_))
   ·replace h := ite_t (dec_t hb90) h
    refine xr (xa (.i (-1)) Z (pu_assign Z (AEv.int _ _)) (xe (aw_ret ?_)))
    obtain rfl := some_of h
    have h := congrArg some (hx84 _ rfl)
    obtain rfl := some_of h
    have h := onSum_inr h69
    obtain rfl := some_of h
    exact ⟨[.i (-1)], _, [], ⟨(tm Z), trivial⟩, vr, Weak.mkL [] (by decide) trivial trivial, ⟨Z, Z⟩⟩
   ·replace h := ite_f (dec_f hb90) h
    refine aw_skip (aw_seq ?_)
    obtain ⟨c87, h⟩ := need_of h
    obtain ⟨c88, h⟩ := need_of h
    refine aw_planR (by decide +kernel) [[], [], [], [], [], [], []] [] [] [.str s_, .i s83.i, .int .u8 (bix s_ s83.i), .str [13, 10], .i s83.i, .int .u8 (bix [13, 10] s83.i), .bool (!decide ((bix s_ s83.i) = (bix [13, 10] s83.i)))] (by decide +kernel) Z Z ?_ ?_
    ·exact ⟨ym Z Z Z, ym Z Z Z, yp Z (pu_strIdxM Z underlying9 (tm Z) (tm Z) c87), ym Z Z Z, ym Z Z Z, yp Z (pu_strIdxM Z underlying9 (tm Z) (tm Z) c88), yp Z (pu_int (v := .bool (!decide ((bix s_ s83.i) = (bix [13, 10] s83.i)))) Z Z (tm Z) (tm Z) Z), trivial⟩
    refine aw_cond (b := (!decide ((bix s_ s83.i) = (bix [13, 10] s83.i)))) (tm Z) (fun hb89 => ?_) (fun hb89 => ?_)
    ·replace h := ite_f (ndec_t hb89) h
     refine xr (xa (.i 5) Z (pu_assign Z (AEv.int _ _)) (xe (aw_ret ?_)))
     obtain rfl := some_of h
     have h := congrArg some (hx84 _ rfl)
     obtain rfl := some_of h
     have h := onSum_inr h69
     obtain rfl := some_of h
     exact ⟨[.i 5], _, [], ⟨(tm Z), trivial⟩, vr, Weak.mkL [] (by decide) trivial trivial, ⟨Z, Z⟩⟩
    ·replace h := ite_t (ndec_f hb89) h
     refine aw_skip (aw_region (xm Z Z Z (xa (.i (IntKind.wrap .i64 (s83.i + 1))) Z (pu_int (v := .i (IntKind.wrap .i64 (s83.i + 1))) Z Z (tm Z) (AEv.int _ _) Z) (xm Z Z Z (xe ?_)))))
     obtain rfl := some_of h
     exact ⟨_, (), Z, Weak.mkL [] (by decide) trivial ⟨tm Z, tm Z, (AEv.le (tm Z) vr), trivial⟩⟩
  ·replace h := ite_f (dec_f hb91) h
   refine aw_exit ?_
   obtain rfl := some_of h
   have h := congrArg some (hx84 _ rfl)
   exact ⟨(), (), (some_of h).symm, Weak.mkL [] (by decide) trivial trivial⟩

end Go.Pu
