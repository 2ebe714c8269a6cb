/- Printed by lift.py: the functions come to them. -/
import Derived.Test.YtfapgollkabopaaLiftW
import Derived.Test.YtfapgollkabopaaCQK0
set_option maxRecDepth 100000
set_option maxHeartbeats 0
namespace Go.Pu
open Go.Lift Go.Proofs.Try Go.RowKit Go.Proofs

theorem parse.parser.line.ok {p_ : parse.parser} {r : Bool × parse.parser} (h : parse.parser.line p_ = some r) (o0 q0 q1 : Nat) : Go.Lift.Spec prog 75 [.ptr o0 0] [(o0, .cells (parse.parser.ct (.own q0) (.own q1) p_)), (q0, .spare), (q1, .spare)] (fun v H => ∃ n0 n1, v = .bool r.1 ∧ H = [(o0, .cells [.str r.2.in_.Rest, .sl (.own n0) 1 (r.2.in_.Args.map AV.str), .i r.2.in_.Left, .i r.2.in_.Size, .bool r.2.in_.Body, .i r.2.in_.Need, .i r.2.in_.Dead, .str r.2.s, .i r.2.l.Args, .i r.2.l.Bulk, .i r.2.l.Line, .sl (.own n1) 2 (r.2.out.map api.Request.av)]), (n0, .spare), (n1, .spare)]) := by
 unfold parse.parser.line at h
 refine Go.Lift.Spec.of_body (rs := [.tmp 2]) func75 Z Z (nb Z) Z (xr (xc Z (op_box (cs := [.ptr o0 0]) (v := .ptr o0 0) Z (tm Z) Z Z ?_)))
 intro p35
 refine xa (.bool false) Z (pu_assign Z (AEv.bool _)) (xe (xr (xc Z (op_load1 (i := 0) Z isAgg91 (tm Z) Z Z (xa (.ptr o0 0) Z (pu_nilCheck Z (tm Z) Z) (xa (.ptr o0 7) Z (fa Z underlying93 Z sizeOf9 Z Z Z) (xc Z (op_load1 (i := 1) Z isAgg9 (tm Z) Z Z ?_))))))))
 obtain ⟨r36, r36e, h⟩ := bind_some h
 refine xc Z (op_call (vs := [.str p_.s, .int .u8 10]) (H := []) Z call87 ⟨(tm Z), (AEv.int _ _), trivial⟩ (List.Perm.refl _) (strings.IndexByte.ok r36e) ?_)
 rintro _ _ ⟨rfl, rfl⟩
 refine xm Z Z Z (xe (aw_seq ?_))
 obtain ⟨s39, s39e, h40⟩ := letO_of h
 refine aw_meet (ν := Unit) (fun v => [(1, .ptr p35 0), (3, .i r36), (35, .bool s39)]) (fun v => [(p35, .cells [.ptr o0 0]), (o0, .cells (parse.parser.ct (.own q0) (.own q1) p_)), (q0, .spare), (q1, .spare)]) ?_ ?_
 ·have h := s39e.symm
  rcases Bool.eq_false_or_eq_true (decide (r36 < 0)) with hb42 | hb42
  ·replace h := ite_t (dec_t hb42) h
   rcases Bool.eq_false_or_eq_true (decide (p_.l.Line < (p_.s.length : Int))) with hb43 | hb43
   ·replace h := ite_t (dec_t hb43) h
    refine aw_planR (by decide +kernel) [[], [], [], [(0, 0, false)], [], [], [(1, 0, false)], [], [(0, 0, false)], [], [], [], [(1, 0, false)], [], [], [], [], [], [], [], [], [], [], []] [[], [], [], []] [[[(p35, .cells [.ptr o0 0])]], [[(o0, .cells (parse.parser.ct (.own q0) (.own q1) p_))]], [[(q0, .spare)]], [[(q1, .spare)]]] [.i r36, .bool (decide (r36 < 0)), .bool true, .ptr o0 0, .ptr o0 0, .ptr o0 7, .str p_.s, .i (p_.s.length : Int), .ptr o0 0, .ptr o0 0, .ptr o0 8, .ptr o0 10, .i p_.l.Line, .bool (decide (p_.l.Line < (p_.s.length : Int))), .bool (decide (p_.l.Line < (p_.s.length : Int))), .bool true, .lit undef, .lit undef, .lit undef, .lit undef, .lit undef, .lit undef, .lit undef, .bool true] (by decide +kernel) Z Z ?_ ?_
    ·exact ⟨ym Z Z Z, yp Z (pu_int (v := .bool (decide (r36 < 0))) Z Z (tm Z) (AEv.int _ _) Z), AStepG.cast (ym Z Z Z) (congrArg AV.bool hb42), yg Z Z (op_load1 (i := 0) Z isAgg91 (tm Z) Z Z ⟨Z, Z⟩), yq Z Z (pu_nilCheck Z (tm Z) Z), yq Z Z (fa Z underlying93 Z sizeOf9 Z Z Z), yg Z Z (op_load1 (i := 0) Z isAgg9 (tm Z) Z Z ⟨Z, Z⟩), yq Z Z (pu_strLen Z underlying9 (tm Z)), yg Z Z (op_load1 (i := 0) Z isAgg91 (tm Z) Z Z ⟨Z, Z⟩), yq Z Z (pu_nilCheck Z (tm Z) Z), yq Z Z (fa Z underlying93 Z sizeOf23 Z Z Z), yq Z Z (fa Z underlying23 Z sizeOf3 Z Z Z), yg Z Z (op_load1 (i := 0) Z isAgg3 (tm Z) Z Z ⟨Z, Z⟩), yq Z Z (pu_int (v := .bool (decide (p_.l.Line < (p_.s.length : Int)))) Z Z (tm Z) (tm Z) Z), yp Z (pu_pick (b := true) Z (tm Z) (fun _ => (tm Z)) (fun h => nomatch h)), AStepG.cast (ym Z Z Z) (congrArg AV.bool hb43), yx Z Z Z, yx Z Z Z, yx Z Z Z, yx Z Z Z, yx Z Z Z, yx Z Z Z, yx Z Z Z, yp Z (pu_pick (b := true) Z (tm Z) (fun _ => (AEv.bool _)) (fun h => nomatch h)), trivial⟩
    subst h
    exact ⟨(), Weak.mkL [0, 1, 2, 3] (by decide) ⟨⟨_, Z, ⟨vr, trivial⟩, Z⟩, ⟨_, Z, cr, Z⟩, ⟨_, Z, Z⟩, ⟨_, Z, Z⟩, trivial⟩ ⟨tm Z, tm Z, tm Z, trivial⟩⟩
   ·replace h := ite_f (dec_f hb43) h
    refine aw_planR (by decide +kernel) [[], [], [], [(0, 0, false)], [], [], [(1, 0, false)], [], [(0, 0, false)], [], [], [], [(1, 0, false)], [], [], [], [], [(0, 0, false)], [], [], [], [(1, 0, false)], [], []] [[], [], [], []] [[[(p35, .cells [.ptr o0 0])]], [[(o0, .cells (parse.parser.ct (.own q0) (.own q1) p_))]], [[(q0, .spare)]], [[(q1, .spare)]]] [.i r36, .bool (decide (r36 < 0)), .bool true, .ptr o0 0, .ptr o0 0, .ptr o0 7, .str p_.s, .i (p_.s.length : Int), .ptr o0 0, .ptr o0 0, .ptr o0 8, .ptr o0 10, .i p_.l.Line, .bool (decide (p_.l.Line < (p_.s.length : Int))), .bool (decide (p_.l.Line < (p_.s.length : Int))), .bool false, .i r36, .ptr o0 0, .ptr o0 0, .ptr o0 8, .ptr o0 10, .i p_.l.Line, .bool (decide (p_.l.Line < r36)), .bool (decide (p_.l.Line < r36))] (by decide +kernel) Z Z ?_ ?_
    ·exact ⟨ym Z Z Z, yp Z (pu_int (v := .bool (decide (r36 < 0))) Z Z (tm Z) (AEv.int _ _) Z), AStepG.cast (ym Z Z Z) (congrArg AV.bool hb42), yg Z Z (op_load1 (i := 0) Z isAgg91 (tm Z) Z Z ⟨Z, Z⟩), yq Z Z (pu_nilCheck Z (tm Z) Z), yq Z Z (fa Z underlying93 Z sizeOf9 Z Z Z), yg Z Z (op_load1 (i := 0) Z isAgg9 (tm Z) Z Z ⟨Z, Z⟩), yq Z Z (pu_strLen Z underlying9 (tm Z)), yg Z Z (op_load1 (i := 0) Z isAgg91 (tm Z) Z Z ⟨Z, Z⟩), yq Z Z (pu_nilCheck Z (tm Z) Z), yq Z Z (fa Z underlying93 Z sizeOf23 Z Z Z), yq Z Z (fa Z underlying23 Z sizeOf3 Z Z Z), yg Z Z (op_load1 (i := 0) Z isAgg3 (tm Z) Z Z ⟨Z, Z⟩), yq Z Z (pu_int (v := .bool (decide (p_.l.Line < (p_.s.length : Int)))) Z Z (tm Z) (tm Z) Z), yp Z (pu_pick (b := true) Z (tm Z) (fun _ => (tm Z)) (fun h => nomatch h)), AStepG.cast (ym Z Z Z) (congrArg AV.bool hb43), yq Z Z (pu_move Z (tm Z)), yg Z Z (op_load1 (i := 0) Z isAgg91 (tm Z) Z Z ⟨Z, Z⟩), yq Z Z (pu_nilCheck Z (tm Z) Z), yq Z Z (fa Z underlying93 Z sizeOf23 Z Z Z), yq Z Z (fa Z underlying23 Z sizeOf3 Z Z Z), yg Z Z (op_load1 (i := 0) Z isAgg3 (tm Z) Z Z ⟨Z, Z⟩), yq Z Z (pu_int (v := .bool (decide (p_.l.Line < r36))) Z Z (tm Z) (tm Z) Z), yp Z (pu_pick (b := false) Z (tm Z) (fun h => nomatch h) (fun _ => (tm Z))), trivial⟩
    subst h
    exact ⟨(), Weak.mkL [0, 1, 2, 3] (by decide) ⟨⟨_, Z, ⟨vr, trivial⟩, Z⟩, ⟨_, Z, cr, Z⟩, ⟨_, Z, Z⟩, ⟨_, Z, Z⟩, trivial⟩ ⟨tm Z, tm Z, (AEv.le (tm Z) vr), trivial⟩⟩
  ·replace h := ite_f (dec_f hb42) h
   refine aw_planR (by decide +kernel) [[], [], [], [], [], [], [], [], [], [], [], [], [], [], [], [], [], [(0, 0, false)], [], [], [], [(1, 0, false)], [], []] [[], [], [], []] [[[(p35, .cells [.ptr o0 0])]], [[(o0, .cells (parse.parser.ct (.own q0) (.own q1) p_))]], [[(q0, .spare)]], [[(q1, .spare)]]] [.i r36, .bool (decide (r36 < 0)), .bool false, .lit undef, .lit undef, .lit undef, .lit undef, .lit undef, .lit undef, .lit undef, .lit undef, .lit undef, .lit undef, .lit undef, .bool false, .bool false, .i r36, .ptr o0 0, .ptr o0 0, .ptr o0 8, .ptr o0 10, .i p_.l.Line, .bool (decide (p_.l.Line < r36)), .bool (decide (p_.l.Line < r36))] (by decide +kernel) Z Z ?_ ?_
   ·exact ⟨ym Z Z Z, yp Z (pu_int (v := .bool (decide (r36 < 0))) Z Z (tm Z) (AEv.int _ _) Z), AStepG.cast (ym Z Z Z) (congrArg AV.bool hb42), yx Z Z Z, yx Z Z Z, yx Z Z Z, yx Z Z Z, yx Z Z Z, yx Z Z Z, yx Z Z Z, yx Z Z Z, yx Z Z Z, yx Z Z Z, yx Z Z Z, yp Z (pu_pick (b := false) Z (tm Z) (fun h => nomatch h) (fun _ => (AEv.bool _))), ym Z Z Z, yq Z Z (pu_move Z (tm Z)), yg Z Z (op_load1 (i := 0) Z isAgg91 (tm Z) Z Z ⟨Z, Z⟩), yq Z Z (pu_nilCheck Z (tm Z) Z), yq Z Z (fa Z underlying93 Z sizeOf23 Z Z Z), yq Z Z (fa Z underlying23 Z sizeOf3 Z Z Z), yg Z Z (op_load1 (i := 0) Z isAgg3 (tm Z) Z Z ⟨Z, Z⟩), yq Z Z (pu_int (v := .bool (decide (p_.l.Line < r36))) Z Z (tm Z) (tm Z) Z), yp Z (pu_pick (b := false) Z (tm Z) (fun h => nomatch h) (fun _ => (tm Z))), trivial⟩
   subst h
   exact ⟨(), Weak.mkL [0, 1, 2, 3] (by decide) ⟨⟨_, Z, ⟨vr, trivial⟩, Z⟩, ⟨_, Z, cr, Z⟩, ⟨_, Z, Z⟩, ⟨_, Z, Z⟩, trivial⟩ ⟨tm Z, tm Z, (AEv.le (tm Z) vr), trivial⟩⟩
 ·intro _
  have h := h40
  refine aw_cond (b := s39) (tm Z) (fun hb73 => ?_) (fun hb73 => ?_)
  ·replace h := ite_t hb73 h
   refine xr (xc Z (op_load1 (i := 0) Z isAgg91 (tm Z) Z Z ?_))
   obtain ⟨r44, r44e, h⟩ := bind_some h
   refine aops_weak (weak_pick [1, 2, 3, 0] (by decide) Z) (xc Z (op_call (vs := [.ptr o0 0, .i 6]) (H := [(o0, .cells (parse.parser.ct (.own q0) (.own q1) p_)), (q0, .spare), (q1, .spare)]) Z call85 ⟨(tm Z), (AEv.int _ _), trivial⟩ (List.Perm.refl _) (parse.parser.dies.ok r44e o0 q0 q1) ?_))
   rintro _ _ ⟨t45, rfl, rfl⟩
   refine xm Z Z Z (xe (aw_claimCell 0 1 Z Z fun t46 => (aw_ret ?_)))
   obtain rfl := some_of h
   exact ⟨[.bool r44.1], _, [(o0, .cells (parse.parser.ct (.own t46) (.own t45) r44.2)), (t46, .spare), (t45, .spare)], ⟨(tm Z), trivial⟩, vr, Weak.mkL [1, 0, 2] (by decide) ⟨⟨_, Z, cr, Z⟩, ⟨_, Z, Z⟩, ⟨_, Z, Z⟩, trivial⟩ trivial, ⟨t46, t45, Z, Z⟩⟩
  ·replace h := ite_fb hb73 h
   refine aw_skip (aw_seq (xr (xm Z Z Z (xa (.bool (decide (r36 < 0))) Z (pu_int (v := .bool (decide (r36 < 0))) Z Z (tm Z) (AEv.int _ _) Z) (xe (aw_cond (b := decide (r36 < 0)) (tm Z) (fun hb72 => ?_) (fun hb72 => ?_)))))))
   ·replace h := ite_t (dec_t hb72) h
    refine xr (xa (.bool false) Z (pu_assign Z (AEv.bool _)) (xe (aw_ret ?_)))
    obtain rfl := some_of h
    exact ⟨[.bool false], _, [(o0, .cells (parse.parser.ct (.own q0) (.own q1) p_)), (q0, .spare), (q1, .spare)], ⟨(tm Z), trivial⟩, vr, Weak.mkL [1, 2, 3] (by decide) ⟨⟨_, Z, cr, Z⟩, ⟨_, Z, Z⟩, ⟨_, Z, Z⟩, trivial⟩ trivial, ⟨q0, q1, Z, Z⟩⟩
   ·replace h := ite_f (dec_f hb72) h
    refine aw_skip (xr (xc Z (op_load1 (i := 0) Z isAgg91 (tm Z) Z Z (xa (.ptr o0 0) Z (pu_nilCheck Z (tm Z) Z) (xa (.ptr o0 7) Z (fa Z underlying93 Z sizeOf9 Z Z Z) (xc Z (op_load1 (i := 1) Z isAgg9 (tm Z) Z Z (xm Z Z Z ?_))))))))
    obtain ⟨c47, h⟩ := need_of h
    refine xa (.str (sub p_.s 0 r36)) Z (pu_strSliceM Z underlying9 (tm Z) Z ⟨_, (tm Z)⟩ c47) ?_
    obtain ⟨r48, r48e, h⟩ := bind_some h
    refine xc Z (op_call (vs := [.str (sub p_.s 0 r36), .str [13]]) (H := []) Z call89 ⟨(tm Z), (AEv.const Z), trivial⟩ (List.Perm.refl _) (strings.TrimSuffix.ok r48e) ?_)
    rintro _ _ ⟨rfl, rfl⟩
    obtain ⟨r49, r49e, h⟩ := bind_some h
    refine xc Z (op_call (vs := [.str r48]) (H := []) Z call88 ⟨(tm Z), trivial⟩ (List.Perm.refl _) (line.Split.ok r49e) ?_)
    rintro _ _ ⟨t50, rfl, rfl⟩
    refine xm Z Z Z (xa (.sl (.own t50) 1 (r49.1.map AV.str)) Z (pu_extract Z (tm Z) (nb Z) Z) (xa (.bool r49.2) Z (pu_extract Z (tm Z) (nb Z) Z) (xm Z Z Z (xm Z Z Z (xe (xr (xa (.fn 90 [.ptr p35 0]) Z (pu_makeFunc Z ⟨(tm Z), trivial⟩) (xm Z Z Z ?_))))))))
    refine xe (aw_seq (aw_block (xr (xm Z Z Z (xa (.bool (!r49.2)) Z (pu_not Z (tm Z)) (xm Z Z Z (xe (aw_cond (b := (!r49.2)) (tm Z) (fun hb71 => ?_) (fun hb71 => ?_)))))))))
    ·replace h := ite_t hb71 h
     refine xr (xc Z (op_load1 (i := 1) Z isAgg91 (tm Z) Z Z ?_))
     obtain ⟨r51, r51e, h⟩ := bind_some h
     refine aops_weak (weak_pick [2, 3, 4, 0, 1] (by decide) Z) (xc Z (op_call (vs := [.ptr o0 0, .i 16]) (H := [(o0, .cells (parse.parser.ct (.own q0) (.own q1) p_)), (q0, .spare), (q1, .spare)]) Z call85 ⟨(tm Z), (AEv.int _ _), trivial⟩ (List.Perm.refl _) (parse.parser.dies.ok r51e o0 q0 q1) ?_))
     rintro _ _ ⟨t52, rfl, rfl⟩
     refine xm Z Z Z (xe (aw_claimCell 0 1 Z Z fun t53 => (aw_ret ?_)))
     obtain rfl := some_of h
     exact ⟨[.bool r51.1], _, [(o0, .cells (parse.parser.ct (.own t53) (.own t52) r51.2)), (t53, .spare), (t52, .spare)], ⟨(tm Z), trivial⟩, vr, Weak.mkL [1, 0, 2] (by decide) ⟨⟨_, Z, cr, Z⟩, ⟨_, Z, Z⟩, ⟨_, Z, Z⟩, trivial⟩ trivial, ⟨t53, t52, Z, Z⟩⟩
    ·replace h := ite_fb hb71 h
     refine xr (xm Z Z Z (xa (.i (r49.1.length : Int)) Z (pu_lenM Z underlying26 (tm Z)) (xc Z (op_load1 (i := 1) Z isAgg91 (tm Z) Z Z (xa (.ptr o0 0) Z (pu_nilCheck Z (tm Z) Z) (xa (.ptr o0 8) Z (fa Z underlying93 Z sizeOf23 Z Z Z) (xa (.ptr o0 8) Z (fa Z underlying23 Z sizeOf3 Z Z Z) (xc Z (op_load1 (i := 2) Z isAgg3 (tm Z) Z Z (xa (.bool (decide (p_.l.Args < (r49.1.length : Int)))) Z (pu_int (v := .bool (decide (p_.l.Args < (r49.1.length : Int)))) Z Z (tm Z) (tm Z) Z) ?_))))))))))
     refine xm Z Z Z (xe (aw_cond (b := decide (p_.l.Args < (r49.1.length : Int))) (tm Z) (fun hb70 => ?_) (fun hb70 => ?_)))
     ·replace h := ite_t (dec_t hb70) h
      refine xr (xc Z (op_load1 (i := 1) Z isAgg91 (tm Z) Z Z ?_))
      obtain ⟨r54, r54e, h⟩ := bind_some h
      refine aops_weak (weak_pick [2, 3, 4, 0, 1] (by decide) Z) (xc Z (op_call (vs := [.ptr o0 0, .i 7]) (H := [(o0, .cells (parse.parser.ct (.own q0) (.own q1) p_)), (q0, .spare), (q1, .spare)]) Z call85 ⟨(tm Z), (AEv.int _ _), trivial⟩ (List.Perm.refl _) (parse.parser.dies.ok r54e o0 q0 q1) ?_))
      rintro _ _ ⟨t55, rfl, rfl⟩
      refine xm Z Z Z (xe (aw_claimCell 0 1 Z Z fun t56 => (aw_ret ?_)))
      obtain rfl := some_of h
      exact ⟨[.bool r54.1], _, [(o0, .cells (parse.parser.ct (.own t56) (.own t55) r54.2)), (t56, .spare), (t55, .spare)], ⟨(tm Z), trivial⟩, vr, Weak.mkL [1, 0, 2] (by decide) ⟨⟨_, Z, cr, Z⟩, ⟨_, Z, Z⟩, ⟨_, Z, Z⟩, trivial⟩ trivial, ⟨t56, t55, Z, Z⟩⟩
     ·replace h := ite_f (dec_f hb70) h
      refine xr (xm Z Z Z (xm Z Z Z ?_))
      obtain ⟨r57, r57e, h⟩ := bind_some h
      refine aops_weak (weak_pick [1, 2, 3, 4, 0] (by decide) Z) (xc Z (op_call (vs := [.sl .no 1 (r49.1.map AV.str), .fn 90 [.ptr p35 0]]) (H := [(p35, .cells [.ptr o0 0]), (o0, .cells (parse.parser.ct (.own q0) (.own q1) p_)), (q0, .spare), (q1, .spare)]) Z call91 ⟨(AEv.le (tm Z) (AV.Le.forget _ _ _)), (tm Z), trivial⟩ (List.Perm.refl _) (slices.ContainsFunc_string_parse_parser_line_1.ok r57e p35 o0 q0 q1) ?_))
      rintro _ _ ⟨t58, t59, rfl, rfl⟩
      refine xm Z Z Z (xe (aw_cond (b := r57) (tm Z) (fun hb69 => ?_) (fun hb69 => ?_)))
      ·replace h := ite_t hb69 h
       refine xr (xc Z (op_load1 (i := 0) Z isAgg91 (tm Z) Z Z ?_))
       obtain ⟨r60, r60e, h⟩ := bind_some h
       refine aops_weak (weak_pick [1, 2, 3, 0, 4] (by decide) Z) (xc Z (op_call (vs := [.ptr o0 0, .i 6]) (H := [(o0, .cells (parse.parser.ct (.own t58) (.own t59) p_)), (t58, .spare), (t59, .spare)]) Z call85 ⟨(tm Z), (AEv.int _ _), trivial⟩ (List.Perm.refl _) (parse.parser.dies.ok r60e o0 t58 t59) ?_))
       rintro _ _ ⟨t61, rfl, rfl⟩
       refine xm Z Z Z (xe (aw_claimCell 0 1 Z Z fun t62 => (aw_ret ?_)))
       obtain rfl := some_of h
       exact ⟨[.bool r60.1], _, [(o0, .cells (parse.parser.ct (.own t62) (.own t61) r60.2)), (t62, .spare), (t61, .spare)], ⟨(tm Z), trivial⟩, vr, Weak.mkL [1, 0, 2] (by decide) ⟨⟨_, Z, cr, Z⟩, ⟨_, Z, Z⟩, ⟨_, Z, Z⟩, trivial⟩ trivial, ⟨t62, t61, Z, Z⟩⟩
      ·replace h := ite_fb hb69 h
       refine aw_skip (xr (xc Z (op_load1 (i := 0) Z isAgg91 (tm Z) Z Z (xm Z Z Z (xa (.i (IntKind.wrap .i64 (r36 + 1))) Z (pu_int (v := .i (IntKind.wrap .i64 (r36 + 1))) Z Z (tm Z) (AEv.int _ _) Z) ?_)))))
       obtain ⟨r63, r63e, h⟩ := bind_some h
       refine aops_weak (weak_pick [1, 2, 3, 0, 4] (by decide) Z) (xc Z (op_call (vs := [.ptr o0 0, .i (IntKind.wrap .i64 (r36 + 1))]) (H := [(o0, .cells (parse.parser.ct (.own t58) (.own t59) p_)), (t58, .spare), (t59, .spare)]) Z call86 ⟨(tm Z), (tm Z), trivial⟩ (List.Perm.refl _) (parse.parser.past.ok r63e o0 t58 t59) ?_))
       rintro _ _ ⟨t64, t65, rfl, rfl⟩
       refine xe (xr (xc Z (op_load1 (i := 3) Z isAgg91 (tm Z) Z Z (xm Z Z Z ?_))))
       obtain ⟨r66, r66e, h⟩ := bind_some h
       refine xc Z (op_call (vs := [.ptr o0 0, .sl .no 1 (r49.1.map AV.str)]) (H := [(o0, .cells (parse.parser.ct (.own t64) (.own t65) r63)), (t64, .spare), (t65, .spare)]) Z call76 ⟨(tm Z), (AEv.le (tm Z) (AV.Le.forget _ _ _)), trivial⟩ (List.Perm.refl _) (parse.parser.whole.ok r66e o0 t64 t65) ?_)
       rintro _ _ ⟨t67, rfl, rfl⟩
       refine xe (xr (xa (.bool true) Z (pu_assign Z (AEv.bool _)) (xe (aw_claimCell 0 1 Z Z fun t68 => (aw_ret ?_)))))
       obtain rfl := some_of h
       exact ⟨[.bool true], _, [(o0, .cells (parse.parser.ct (.own t68) (.own t67) r66)), (t68, .spare), (t67, .spare)], ⟨(tm Z), trivial⟩, vr, Weak.mkL [1, 0, 2] (by decide) ⟨⟨_, Z, cr, Z⟩, ⟨_, Z, Z⟩, ⟨_, Z, Z⟩, trivial⟩ trivial, ⟨t68, t67, Z, Z⟩⟩

theorem parse.parser.step.ok {p_ : parse.parser} {r : Bool × parse.parser} (h : parse.parser.step p_ = some r) (o0 q0 q1 : Nat) : Go.Lift.Spec prog 51 [.ptr o0 0] [(o0, .cells (parse.parser.ct (.own q0) (.own q1) p_)), (q0, .spare), (q1, .spare)] (fun v H => ∃ n0 n1, v = .bool r.1 ∧ H = [(o0, .cells [.str r.2.in_.Rest, .sl (.own n0) 1 (r.2.in_.Args.map AV.str), .i r.2.in_.Left, .i r.2.in_.Size, .bool r.2.in_.Body, .i r.2.in_.Need, .i r.2.in_.Dead, .str r.2.s, .i r.2.l.Args, .i r.2.l.Bulk, .i r.2.l.Line, .sl (.own n1) 2 (r.2.out.map api.Request.av)]), (n0, .spare), (n1, .spare)]) := by
 unfold parse.parser.step at h
 refine Go.Lift.Spec.of_body (rs := [.tmp 2]) func51 Z Z (nb Z) Z (xr (xa (.bool false) Z (pu_assign Z (AEv.bool _)) (xe (aw_seq (aw_block (xr (xm Z Z Z ?_)))))))
 refine xa (.ptr o0 0) Z (pu_nilCheck Z (tm Z) Z) (xa (.ptr o0 0) Z (fa Z underlying93 Z sizeOf29 Z Z Z) (xa (.ptr o0 4) Z (fa Z underlying29 Z sizeOf4 Z Z Z) (xc Z (op_load1 (i := 0) Z isAgg4 (tm Z) Z Z (xm Z Z Z (xe (aw_cond (b := p_.in_.Body) (tm Z) (fun hb98 => ?_) (fun hb98 => ?_))))))))
 ·replace h := ite_t hb98 h
  refine xr (xm Z Z Z ?_)
  obtain ⟨r50, r50e, h⟩ := bind_some h
  refine xc Z (op_call (vs := [.ptr o0 0]) (H := [(o0, .cells (parse.parser.ct (.own q0) (.own q1) p_)), (q0, .spare), (q1, .spare)]) Z call73 ⟨(tm Z), trivial⟩ (List.Perm.refl _) (parse.parser.body.ok r50e o0 q0 q1) ?_)
  rintro _ _ ⟨t51, t52, rfl, rfl⟩
  refine xm Z Z Z (xe (aw_ret ?_))
  obtain rfl := some_of h
  exact ⟨[.bool r50.1], _, [(o0, .cells (parse.parser.ct (.own t51) (.own t52) r50.2)), (t51, .spare), (t52, .spare)], ⟨(tm Z), trivial⟩, vr, Weak.mkL [0, 1, 2] (by decide) ⟨⟨_, Z, cr, Z⟩, ⟨_, Z, Z⟩, ⟨_, Z, Z⟩, trivial⟩ trivial, ⟨t51, t52, Z, Z⟩⟩
 ·replace h := ite_fb hb98 h
  refine xr (xm Z Z Z (xa (.ptr o0 0) Z (pu_nilCheck Z (tm Z) Z) (xa (.ptr o0 0) Z (fa Z underlying93 Z sizeOf29 Z Z Z) (xa (.ptr o0 2) Z (fa Z underlying29 Z sizeOf3 Z Z Z) (xc Z (op_load1 (i := 0) Z isAgg3 (tm Z) Z Z (xa (.bool (decide (0 < p_.in_.Left))) Z (pu_int (v := .bool (decide (0 < p_.in_.Left))) Z Z (tm Z) (AEv.int _ _) Z) (xm Z Z Z (xe ?_)))))))))
  refine aw_cond (b := decide (0 < p_.in_.Left)) (tm Z) (fun hb97 => ?_) (fun hb97 => ?_)
  ·replace h := ite_t (dec_t hb97) h
   refine xr (xm Z Z Z (xm Z Z Z (xa (.ptr o0 0) Z (pu_nilCheck Z (tm Z) Z) (xa (.ptr o0 8) Z (fa Z underlying93 Z sizeOf23 Z Z Z) (xa (.ptr o0 9) Z (fa Z underlying23 Z sizeOf3 Z Z Z) (xc Z (op_load1 (i := 0) Z isAgg3 (tm Z) Z Z ?_)))))))
   obtain ⟨r53, r53e, h⟩ := bind_some h
   refine xc Z (op_call (vs := [.ptr o0 0, .int .u8 36, .i p_.l.Bulk, .i 6]) (H := [(o0, .cells (parse.parser.ct (.own q0) (.own q1) p_)), (q0, .spare), (q1, .spare)]) Z call74 ⟨(tm Z), (AEv.int _ _), (tm Z), (AEv.int _ _), trivial⟩ (List.Perm.refl _) (parse.parser.header.ok r53e o0 q0 q1) ?_)
   rintro _ _ ⟨t54, t55, rfl, rfl⟩
   refine xm Z Z Z (xa (.i r53.1) Z (pu_extract Z (tm Z) (nb Z) Z) (xa (.bool r53.2.1) Z (pu_extract Z (tm Z) (nb Z) Z) (xm Z Z Z (xm Z Z Z (xe ?_)))))
   obtain ⟨s57, s57e, h58⟩ := letO_of h
   refine aw_meet (ν := Unit) (fun v => [(4, .bool r53.2.1)]) (fun v => [(o0, .cells (parse.parser.ct (.own t54) (.own t55) { r53.2.2 with in_ := { r53.2.2.in_ with Body := s57.1, Need := s57.2 } })), (t54, .spare), (t55, .spare)]) ?_ ?_
   ·have h := s57e.symm
    refine xr (xm Z Z Z (xe (aw_cond (b := r53.2.1) (tm Z) (fun hb60 => ?_) (fun hb60 => ?_))))
    ·replace h := ite_t hb60 h
     refine aw_region (xm Z Z Z (xm Z Z Z (xm Z Z Z (xa (.ptr o0 0) Z (pu_nilCheck Z (tm Z) Z) (xa (.ptr o0 0) Z (fa Z underlying93 Z sizeOf29 Z Z Z) (xa (.ptr o0 4) Z (fa Z underlying29 Z sizeOf4 Z Z Z) (ac0 Z Z (op_store (i := 0) (cs' := (parse.parser.ct (.own t54) (.own t55) { r53.2.2 with in_ := { r53.2.2.in_ with Body := true } })) Z sizeOf4 (tm Z) (v := .bool true) (AEv.bool _) Z Z Z (nb Z) Z (xa (.ptr o0 0) Z (pu_nilCheck Z (tm Z) Z) (xa (.ptr o0 0) Z (fa Z underlying93 Z sizeOf29 Z Z Z) ?_))))))))))
     refine xa (.ptr o0 5) Z (fa Z underlying29 Z sizeOf3 Z Z Z) (ac0 Z Z (op_store (i := 0) (cs' := (parse.parser.ct (.own t54) (.own t55) { r53.2.2 with in_ := { r53.2.2.in_ with Body := true, Need := r53.1 } })) Z sizeOf3 (tm Z) (v := .i r53.1) (tm Z) Z Z Z (nb Z) Z (xe ?_)))
     subst h
     exact ⟨(), Weak.mkL [0, 1, 2] (by decide) ⟨⟨_, Z, cr, Z⟩, ⟨_, Z, Z⟩, ⟨_, Z, Z⟩, trivial⟩ ⟨tm Z, trivial⟩⟩
    ·replace h := ite_fb hb60 h
     refine aw_skip ?_
     subst h
     exact ⟨(), Weak.mkL [0, 1, 2] (by decide) ⟨⟨_, Z, cr, Z⟩, ⟨_, Z, Z⟩, ⟨_, Z, Z⟩, trivial⟩ ⟨tm Z, trivial⟩⟩
   ·intro _
    have h := h58
    refine xr (xm Z Z Z (xm Z Z Z (xe (aw_ret ?_))))
    obtain rfl := some_of h
    exact ⟨[.bool r53.2.1], _, [(o0, .cells (parse.parser.ct (.own t54) (.own t55) { r53.2.2 with in_ := { r53.2.2.in_ with Body := s57.1, Need := s57.2 } })), (t54, .spare), (t55, .spare)], ⟨(tm Z), trivial⟩, vr, Weak.mkL [0, 1, 2] (by decide) ⟨⟨_, Z, cr, Z⟩, ⟨_, Z, Z⟩, ⟨_, Z, Z⟩, trivial⟩ trivial, ⟨t54, t55, Z, Z⟩⟩
  ·replace h := ite_f (dec_f hb97) h
   refine xr (xm Z Z Z (xa (.ptr o0 0) Z (pu_nilCheck Z (tm Z) Z) (xa (.ptr o0 7) Z (fa Z underlying93 Z sizeOf9 Z Z Z) (xc Z (op_load1 (i := 0) Z isAgg9 (tm Z) Z Z (xa (.bool (decide (p_.s = ([] : List UInt8)))) Z (pu_str (v := .bool (decide (p_.s = ([] : List UInt8)))) Z Z (tm Z) (AEv.const Z) Z) (xm Z Z Z (xe (aw_cond (b := decide (p_.s = ([] : List UInt8))) (tm Z) (fun hb96 => ?_) (fun hb96 => ?_))))))))))
   ·replace h := ite_t (dec_t hb96) h
    refine xr (xa (.bool false) Z (pu_assign Z (AEv.bool _)) (xe (aw_ret ?_)))
    obtain rfl := some_of h
    exact ⟨[.bool false], _, [(o0, .cells (parse.parser.ct (.own q0) (.own q1) p_)), (q0, .spare), (q1, .spare)], ⟨(tm Z), trivial⟩, vr, Weak.mkL [0, 1, 2] (by decide) ⟨⟨_, Z, cr, Z⟩, ⟨_, Z, Z⟩, ⟨_, Z, Z⟩, trivial⟩ trivial, ⟨q0, q1, Z, Z⟩⟩
   ·replace h := ite_f (dec_f hb96) h
    refine xr (xm Z Z Z (xa (.ptr o0 0) Z (pu_nilCheck Z (tm Z) Z) (xa (.ptr o0 7) Z (fa Z underlying93 Z sizeOf9 Z Z Z) (xc Z (op_load1 (i := 0) Z isAgg9 (tm Z) Z Z ?_)))))
    obtain ⟨c61, h⟩ := need_of h
    refine xa (.int .u8 (bix p_.s 0)) Z (pu_strIdxM Z underlying9 (tm Z) (AEv.int _ _) c61) (xa (.bool (!decide ((bix p_.s 0) = 42))) Z (pu_int (v := .bool (!decide ((bix p_.s 0) = 42))) Z Z (tm Z) (AEv.int _ _) Z) (xm Z Z Z (xe (aw_cond (b := (!decide ((bix p_.s 0) = 42))) (tm Z) (fun hb95 => ?_) (fun hb95 => ?_)))))
    ·replace h := ite_f (ndec_t hb95) h
     refine xr (xm Z Z Z ?_)
     obtain ⟨r62, r62e, h⟩ := bind_some h
     refine xc Z (op_call (vs := [.ptr o0 0]) (H := [(o0, .cells (parse.parser.ct (.own q0) (.own q1) p_)), (q0, .spare), (q1, .spare)]) Z call75 ⟨(tm Z), trivial⟩ (List.Perm.refl _) (parse.parser.line.ok r62e o0 q0 q1) ?_)
     rintro _ _ ⟨t63, t64, rfl, rfl⟩
     refine xm Z Z Z (xe (aw_ret ?_))
     obtain rfl := some_of h
     exact ⟨[.bool r62.1], _, [(o0, .cells (parse.parser.ct (.own t63) (.own t64) r62.2)), (t63, .spare), (t64, .spare)], ⟨(tm Z), trivial⟩, vr, Weak.mkL [0, 1, 2] (by decide) ⟨⟨_, Z, cr, Z⟩, ⟨_, Z, Z⟩, ⟨_, Z, Z⟩, trivial⟩ trivial, ⟨t63, t64, Z, Z⟩⟩
    ·replace h := ite_t (ndec_f hb95) h
     refine aw_skip (xr (xm Z Z Z (xm Z Z Z (xa (.ptr o0 0) Z (pu_nilCheck Z (tm Z) Z) (xa (.ptr o0 8) Z (fa Z underlying93 Z sizeOf23 Z Z Z) (xa (.ptr o0 8) Z (fa Z underlying23 Z sizeOf3 Z Z Z) (xc Z (op_load1 (i := 0) Z isAgg3 (tm Z) Z Z ?_))))))))
     obtain ⟨r65, r65e, h⟩ := bind_some h
     refine xc Z (op_call (vs := [.ptr o0 0, .int .u8 42, .i p_.l.Args, .i 7]) (H := [(o0, .cells (parse.parser.ct (.own q0) (.own q1) p_)), (q0, .spare), (q1, .spare)]) Z call74 ⟨(tm Z), (AEv.int _ _), (tm Z), (AEv.int _ _), trivial⟩ (List.Perm.refl _) (parse.parser.header.ok r65e o0 q0 q1) ?_)
     rintro _ _ ⟨t66, t67, rfl, rfl⟩
     refine xm Z Z Z (xa (.i r65.1) Z (pu_extract Z (tm Z) (nb Z) Z) (xa (.bool r65.2.1) Z (pu_extract Z (tm Z) (nb Z) Z) (xm Z Z Z (xm Z Z Z (xe ?_)))))
     obtain ⟨s69, s69e, h70⟩ := letO_of h
     refine aw_meet (ν := Unit) (fun v => [(0, .ptr o0 0), (5, .i r65.1), (6, .bool r65.2.1)]) (fun v => [(o0, .cells (parse.parser.ct (.own t66) (.own t67) { r65.2.2 with in_ := { r65.2.2.in_ with Left := s69 } })), (t66, .spare), (t67, .spare)]) ?_ ?_
     ·have h := s69e.symm
      refine xr (xm Z Z Z (xe (aw_cond (b := r65.2.1) (tm Z) (fun hb72 => ?_) (fun hb72 => ?_))))
      ·replace h := ite_t hb72 h
       refine aw_region (xm Z Z Z (xm Z Z Z (xa (.ptr o0 0) Z (pu_nilCheck Z (tm Z) Z) (xa (.ptr o0 0) Z (fa Z underlying93 Z sizeOf29 Z Z Z) (xa (.ptr o0 2) Z (fa Z underlying29 Z sizeOf3 Z Z Z) (ac0 Z Z (op_store (i := 0) (cs' := (parse.parser.ct (.own t66) (.own t67) { r65.2.2 with in_ := { r65.2.2.in_ with Left := r65.1 } })) Z sizeOf3 (tm Z) (v := .i r65.1) (tm Z) Z Z Z (nb Z) Z (xe ?_))))))))
       subst h
       exact ⟨(), Weak.mkL [0, 1, 2] (by decide) ⟨⟨_, Z, cr, Z⟩, ⟨_, Z, Z⟩, ⟨_, Z, Z⟩, trivial⟩ ⟨tm Z, tm Z, tm Z, trivial⟩⟩
      ·replace h := ite_fb hb72 h
       refine aw_skip ?_
       subst h
       exact ⟨(), Weak.mkL [0, 1, 2] (by decide) ⟨⟨_, Z, cr, Z⟩, ⟨_, Z, Z⟩, ⟨_, Z, Z⟩, trivial⟩ ⟨tm Z, tm Z, tm Z, trivial⟩⟩
     ·intro _
      have h := h70
      obtain ⟨s81, s81e, h84⟩ := bind_some h
      refine aw_meet (ν := Nat × Nat) (fun v => [(6, .bool r65.2.1)]) (fun v => [(o0, .cells [.str s81.1, .sl (.own v.1) 1 (s81.2.1.map AV.str), .i s81.2.2.1, .i s81.2.2.2.1, .bool s81.2.2.2.2.1, .i s81.2.2.2.2.2.1, .i s81.2.2.2.2.2.2.1, .str s81.2.2.2.2.2.2.2.1, .i s81.2.2.2.2.2.2.2.2.1, .i s81.2.2.2.2.2.2.2.2.2.1, .i s81.2.2.2.2.2.2.2.2.2.2.1, .sl (.own v.2) 2 (s81.2.2.2.2.2.2.2.2.2.2.2.map api.Request.av)]), (v.1, .spare), (v.2, .spare)]) ?_ ?_
      ·have h := s81e
       refine aw_upd ?_
       obtain ⟨s87, s87e, h88⟩ := letO_of h
       refine aw_meet (ν := Unit) (fun v => [(0, .ptr o0 0), (6, .bool r65.2.1), (78, .bool s87)]) (fun v => [(o0, .cells (parse.parser.ct (.own t66) (.own t67) { r65.2.2 with in_ := { r65.2.2.in_ with Left := s69 } })), (t66, .spare), (t67, .spare)]) ?_ ?_
       ·have h := s87e.symm
        refine aw_region (xm Z Z Z (xm Z Z Z ?_))
        rcases Bool.eq_false_or_eq_true r65.2.1 with hb90 | hb90
        ·replace h := ite_t hb90 h
         refine aops_known 75 Z hb90 (xq Z Z Z Z (xp (.bool (decide (r65.1 = 0))) Z Z (pu_int (v := .bool (decide (r65.1 = 0))) Z Z (tm Z) (AEv.int _ _) Z) (xa (.bool (decide (r65.1 = 0))) Z (pu_pick (b := true) Z (tm Z) (fun _ => (tm Z)) (fun h => nomatch h)) (xe ?_))))
         subst h
         exact ⟨(), Weak.mkL [0, 1, 2] (by decide) ⟨⟨_, Z, cr, Z⟩, ⟨_, Z, Z⟩, ⟨_, Z, Z⟩, trivial⟩ ⟨tm Z, tm Z, (AEv.le (tm Z) vr), trivial⟩⟩
        ·replace h := ite_fb hb90 h
         refine aops_known 75 Z hb90 (xn Z Z Z (xn Z Z Z (xa (.bool false) Z (pu_pick (b := false) Z (tm Z) (fun h => nomatch h) (fun _ => (AEv.bool _))) (xe ?_))))
         subst h
         exact ⟨(), Weak.mkL [0, 1, 2] (by decide) ⟨⟨_, Z, cr, Z⟩, ⟨_, Z, Z⟩, ⟨_, Z, Z⟩, trivial⟩ ⟨tm Z, tm Z, tm Z, trivial⟩⟩
       ·intro _
        have h := h88
        refine aw_cond (b := s87) (tm Z) (fun hb94 => ?_) (fun hb94 => ?_)
        ·replace h := ite_t hb94 h
         refine aw_region (xm Z Z Z ?_)
         obtain ⟨r91, r91e, h⟩ := bind_some h
         refine xc Z (op_call (vs := [.ptr o0 0, .sl .no 1 (([] : List (List UInt8)).map AV.str)]) (H := [(o0, .cells (parse.parser.ct (.own t66) (.own t67) { r65.2.2 with in_ := { r65.2.2.in_ with Left := s69 } })), (t66, .spare), (t67, .spare)]) Z call76 ⟨(tm Z), (AEv.le (AEv.nil 1 (by decide)) (AV.Le.forget _ _ _)), trivial⟩ (List.Perm.refl _) (parse.parser.whole.ok r91e o0 t66 t67) ?_)
         rintro _ _ ⟨t92, rfl, rfl⟩
         refine xe (upd_claimCell 0 1 Z Z fun t93 => (upd_done ?_))
         obtain rfl := some_of h
         exact ⟨(t93, t92), Weak.mkL [1, 0, 2] (by decide) ⟨⟨_, Z, cr, Z⟩, ⟨_, Z, Z⟩, ⟨_, Z, Z⟩, trivial⟩ ⟨tm Z, trivial⟩⟩
        ·replace h := ite_fb hb94 h
         refine aw_skip (upd_done ?_)
         obtain rfl := some_of h
         exact ⟨(t66, t67), Weak.mkL [0, 1, 2] (by decide) ⟨⟨_, Z, cr, Z⟩, ⟨_, Z, Z⟩, ⟨_, Z, Z⟩, trivial⟩ ⟨tm Z, trivial⟩⟩
      ·rintro ⟨n82, n83⟩
       have h := h84
       refine xr (xm Z Z Z (xm Z Z Z (xe (aw_ret ?_))))
       obtain rfl := some_of h
       exact ⟨[.bool r65.2.1], _, [(o0, .cells [.str s81.1, .sl (.own n82) 1 (s81.2.1.map AV.str), .i s81.2.2.1, .i s81.2.2.2.1, .bool s81.2.2.2.2.1, .i s81.2.2.2.2.2.1, .i s81.2.2.2.2.2.2.1, .str s81.2.2.2.2.2.2.2.1, .i s81.2.2.2.2.2.2.2.2.1, .i s81.2.2.2.2.2.2.2.2.2.1, .i s81.2.2.2.2.2.2.2.2.2.2.1, .sl (.own n83) 2 (s81.2.2.2.2.2.2.2.2.2.2.2.map api.Request.av)]), (n82, .spare), (n83, .spare)], ⟨(tm Z), trivial⟩, vr, Weak.mkL [0, 1, 2] (by decide) ⟨⟨_, Z, cr, Z⟩, ⟨_, Z, Z⟩, ⟨_, Z, Z⟩, trivial⟩ trivial, ⟨n82, n83, Z, Z⟩⟩

theorem parse.Feed.ok {in_ : api.Input} {b : List UInt8} {l : api.Limits} {r : api.Input × (List api.Request) × Int} (h : parse.Feed in_ b l = some r) : Go.Lift.Spec prog 15 [.agg (api.Input.ct .no in_), .str b, .agg [.i l.Args, .i l.Bulk, .i l.Line]] [] (fun v H => ∃ n0, v = .tup [.agg [.str r.1.Rest, .sl .no 1 (r.1.Args.map AV.str), .i r.1.Left, .i r.1.Size, .bool r.1.Body, .i r.1.Need, .i r.1.Dead], .sl (.own n0) 2 (r.2.1.map api.Request.av), .i r.2.2] ∧ H = [(n0, .spare)]) := by
 unfold parse.Feed at h
 refine Go.Lift.Spec.of_body (rs := [.cell 6 29, .tmp 7, .tmp 8]) func15 Z Z (nb Z) Z (xr (xc Z (op_box (cs := (api.Input.ct .no in_)) (v := .agg (api.Input.ct .no in_)) Z (tm Z) Z Z ?_)))
 intro p64
 refine xc Z (op_box (cs := [.i l.Args, .i l.Bulk, .i l.Line]) (v := .agg [.i l.Args, .i l.Bulk, .i l.Line]) Z (tm Z) Z Z ?_)
 intro p65
 refine xc Z (op_alloc (cs := [.str ([] : List UInt8), .sl .full 1 (([] : List (List UInt8)).map AV.str), .i 0, .i 0, .bool false, .i 0, .i 0]) (v := .agg [.str ([] : List UInt8), .sl .full 1 (([] : List (List UInt8)).map AV.str), .i 0, .i 0, .bool false, .i 0, .i 0]) Z zeroValue29 Z Z Z ?_)
 intro p66
 refine xa (.sl .full 2 (([] : List api.Request).map api.Request.av)) Z (pu_assign Z (AEv.nil 2 (by decide))) (xa (.i 0) Z (pu_assign Z (AEv.int _ _)) (xe (aw_seq (xr (xa (.ptr p64 6) Z (fa Z underlying29 Z sizeOf27 Z Z Z) (xc Z (op_load1 (i := 2) Z isAgg27 (tm Z) Z Z (xa (.bool (!decide (in_.Dead = 0))) Z (pu_int (v := .bool (!decide (in_.Dead = 0))) Z Z (tm Z) (AEv.int _ _) Z) (xe ?_)))))))))
 refine aw_cond (b := (!decide (in_.Dead = 0))) (tm Z) (fun hb127 => ?_) (fun hb127 => ?_)
 ·replace h := ite_f (ndec_t hb127) h
  refine aw_seq (aw_planR (by decide +kernel) [[], [(2, 0, false)], [], [], [(2, 0, false)], [(0, 0, true)], [], []] [[5], [], []] [[[(p66, .cells [.str ([] : List UInt8), .sl .full 1 (([] : List (List UInt8)).map AV.str), .i 0, .i 0, .bool false, .i 0, .i 0])], [(p66, .cells [.str ([] : List UInt8), .sl .full 1 (([] : List (List UInt8)).map AV.str), .i 0, .i 0, .bool false, .i 0, .i in_.Dead])]], [[(p65, .cells [.i l.Args, .i l.Bulk, .i l.Line])]], [[(p64, .cells (api.Input.ct .no in_))]]] [.ptr p64 6, .i in_.Dead, .agg [.str ([] : List UInt8), .sl .full 1 (([] : List (List UInt8)).map AV.str), .i 0, .i 0, .bool false, .i 0, .i in_.Dead], .ptr p64 6, .i in_.Dead, .un, .sl .full 2 (([] : List api.Request).map api.Request.av), .i in_.Dead] (by decide +kernel) Z Z ?_ ?_)
  ·exact ⟨yp Z (fa Z underlying29 Z sizeOf27 Z Z Z), stepg_plain Z (op_load1 (i := 0) Z isAgg27 (tm Z) Z Z ⟨Z, Z⟩), yp Z (pu_build (zs := [.str ([] : List UInt8), .sl .full 1 (([] : List (List UInt8)).map AV.str), .i 0, .i 0, .bool false, .i 0, .i 0]) (szs := [1, 1, 1, 1, 1, 1, 1]) (aparts := [(6, .i in_.Dead)]) (cs := [.str ([] : List UInt8), .sl .full 1 (([] : List (List UInt8)).map AV.str), .i 0, .i 0, .bool false, .i 0, .i in_.Dead]) Z underlying29 zeroValue29 Z ⟨sizeOf9, sizeOf26, sizeOf3, sizeOf3, sizeOf4, sizeOf3, sizeOf27, trivial⟩ ⟨Z, (tm Z), trivial⟩ Z), yp Z (fa Z underlying29 Z sizeOf27 Z Z Z), stepg_plain Z (op_load1 (i := 0) Z isAgg27 (tm Z) Z Z ⟨Z, Z⟩), stepg_plain Z (op_store (i := 0) (cs' := [.str ([] : List UInt8), .sl .full 1 (([] : List (List UInt8)).map AV.str), .i 0, .i 0, .bool false, .i 0, .i in_.Dead]) Z sizeOf29 (tm Z) (v := .agg [.str ([] : List UInt8), .sl .full 1 (([] : List (List UInt8)).map AV.str), .i 0, .i 0, .bool false, .i 0, .i in_.Dead]) (tm Z) Z Z Z (nb Z) Z ⟨Z, Z⟩), yp Z (pu_assign Z (AEv.nil 2 (by decide))), ym Z Z Z, trivial⟩
  refine aw_claim 7 (tm Z) fun t67 => (aw_ret ?_)
  obtain rfl := some_of h
  exact ⟨[.agg [.str ([] : List UInt8), .sl .full 1 (([] : List (List UInt8)).map AV.str), .i 0, .i 0, .bool false, .i 0, .i in_.Dead], .sl (.own t67) 2 (([] : List api.Request).map api.Request.av), .i in_.Dead], .tup [.agg [.str ([] : List UInt8), .sl .no 1 (([] : List (List UInt8)).map AV.str), .i 0, .i 0, .bool false, .i 0, .i in_.Dead], .sl (.own t67) 2 (([] : List api.Request).map api.Request.av), .i in_.Dead], [(t67, .spare)], ⟨(CellOk.agg 1 (tm Z) Z isAgg29 sizeOf29 (nb Z) Z), (tm Z), (tm Z), trivial⟩, (AV.Le.tup ⟨(AV.Le.agg ⟨vr, (AV.Le.forget _ _ _), vr, vr, vr, vr, vr, trivial⟩), vr, vr, trivial⟩), Weak.mkL [0] (by decide) ⟨⟨_, Z, Z⟩, trivial⟩ trivial, ⟨t67, Z, Z⟩⟩
 ·replace h := ite_t (ndec_f hb127) h
  refine aw_skip (aw_seq ?_)
  obtain ⟨c68, h⟩ := need_of h
  obtain ⟨r69, r69e, h⟩ := bind_some h
  refine aw_reserve fun p70 => (aw_planR (by decide +kernel) [[(3, 0, false)], [], [(3, 0, false)], [], [], [(2, 0, false)], [], [], [(0, 0, true)], []] [[8], [], [], []] [[[(p70, .resv)], [(p70, .cells (parse.parser.ct .no .full ({ in_ := in_, s := in_.Rest ++ b, l := r69, out := ([] : List api.Request) } : parse.parser)))]], [[(p66, .cells [.str ([] : List UInt8), .sl .full 1 (([] : List (List UInt8)).map AV.str), .i 0, .i 0, .bool false, .i 0, .i 0])]], [[(p65, .cells [.i l.Args, .i l.Bulk, .i l.Line])]], [[(p64, .cells (api.Input.ct .no in_))]]] [.agg (api.Input.ct .no in_), .ptr p64 0, .str in_.Rest, .str b, .str (in_.Rest ++ b), .agg [.i l.Args, .i l.Bulk, .i l.Line], .agg [.i r69.Args, .i r69.Bulk, .i r69.Line], .agg (parse.parser.ct .no .full ({ in_ := in_, s := in_.Rest ++ b, l := r69, out := ([] : List api.Request) } : parse.parser)), .ptr p70 0, .ptr p70 0] (by decide +kernel) Z Z ?_ ?_)
  ·exact ⟨stepg_plain Z (op_loadN (i := 0) Z isAgg29 sizeOf29 (tm Z) Z (nb Z) Z ⟨Z, Z⟩), yp Z (fa Z underlying29 Z sizeOf9 Z Z Z), stepg_plain Z (op_load1 (i := 0) Z isAgg9 (tm Z) Z Z ⟨Z, Z⟩), ym Z Z Z, yp Z (pu_strAdd Z (tm Z) (tm Z) c68), stepg_plain Z (op_loadN (i := 0) Z isAgg23 sizeOf23 (tm Z) Z (nb Z) Z ⟨Z, Z⟩), stepg_plain Z (op_call (vs := [.agg [.i l.Args, .i l.Bulk, .i l.Line]]) (H := []) Z call19 ⟨(tm Z), trivial⟩ (R := []) (List.Perm.refl _) (parse.Limits.ok r69e) (by rintro _ _ ⟨rfl, rfl⟩; exact ⟨Z, Z⟩)), yp Z (pu_build (zs := [.str ([] : List UInt8), .sl .full 1 (([] : List (List UInt8)).map AV.str), .i 0, .i 0, .bool false, .i 0, .i 0, .str ([] : List UInt8), .i 0, .i 0, .i 0, .sl .full 2 (([] : List api.Request).map api.Request.av)]) (szs := [7, 1, 3, 1]) (aparts := [(0, .agg (api.Input.ct .no in_)), (1, .str (in_.Rest ++ b)), (2, .agg [.i r69.Args, .i r69.Bulk, .i r69.Line])]) (cs := [.str in_.Rest, .sl .no 1 (in_.Args.map AV.str), .i in_.Left, .i in_.Size, .bool in_.Body, .i in_.Need, .i in_.Dead, .str (in_.Rest ++ b), .i r69.Args, .i r69.Bulk, .i r69.Line, .sl .full 2 (([] : List api.Request).map api.Request.av)]) Z underlying93 zeroValue93 Z ⟨sizeOf29, sizeOf9, sizeOf23, sizeOf30, trivial⟩ ⟨Z, (tm Z), ⟨Z, (tm Z), ⟨Z, (tm Z), trivial⟩⟩⟩ Z), stepg_plain Z (aop_settleP (op_box (cs := (parse.parser.ct .no .full ({ in_ := in_, s := in_.Rest ++ b, l := r69, out := ([] : List api.Request) } : parse.parser))) (v := .agg (parse.parser.ct .no .full ({ in_ := in_, s := in_.Rest ++ b, l := r69, out := ([] : List api.Request) } : parse.parser))) Z (tm Z) Z Z fun t => ⟨t, Z, Z⟩) ⟨Z, Z⟩), ym Z Z Z, trivial⟩
  refine xr (xm Z Z Z (xm Z Z Z (xa (.ptr p64 1) Z (fa Z underlying29 Z sizeOf26 Z Z Z) (xc Z (op_load1 (i := 3) Z isAgg26 (tm Z) Z Z ?_)))))
  obtain ⟨r71, r71e, h⟩ := bind_some h
  refine xc Z (op_call (vs := [.sl .no 1 (in_.Args.map AV.str)]) (H := []) Z call50 ⟨(tm Z), trivial⟩ (List.Perm.refl _) (slices.Clone_string.ok r71e) ?_)
  rintro _ _ ⟨t72, rfl, rfl⟩
  refine xa (.ptr p70 0) Z (pu_nilCheck Z (tm Z) Z) (xa (.ptr p70 0) Z (fa Z underlying93 Z sizeOf29 Z Z Z) (xa (.ptr p70 1) Z (fa Z underlying29 Z sizeOf26 Z Z Z) (ac0 Z Z (op_store (i := 1) (cs' := (parse.parser.ct (.own t72) .full ({ in_ := { in_ with Args := r71 }, s := in_.Rest ++ b, l := r69, out := ([] : List api.Request) } : parse.parser))) Z sizeOf26 (tm Z) (v := .sl (.own t72) 1 (r71.map AV.str)) (tm Z) Z Z Z (nb Z) Z (xa (.ptr p70 0) Z (pu_nilCheck Z (tm Z) Z) (xa (.ptr p70 0) Z (fa Z underlying93 Z sizeOf29 Z Z Z) (xa (.ptr p70 0) Z (fa Z underlying29 Z sizeOf9 Z Z Z) (ac0 Z Z (op_store (i := 1) (cs' := (parse.parser.ct (.own t72) .full ({ in_ := { in_ with Rest := ([] : List UInt8), Args := r71 }, s := in_.Rest ++ b, l := r69, out := ([] : List api.Request) } : parse.parser))) Z sizeOf9 (tm Z) (v := .str ([] : List UInt8)) (AEv.const Z) Z Z Z (nb Z) Z (xe ?_))))))))))
  obtain ⟨s97, s97e, h100⟩ := bind_some h
  refine aw_meet (ν := Nat × Nat) (fun v => [(6, .ptr p66 0), (9, .ptr p70 0)]) (fun v => [(p66, .cells [.str ([] : List UInt8), .sl .full 1 (([] : List (List UInt8)).map AV.str), .i 0, .i 0, .bool false, .i 0, .i 0]), (p70, .cells [.str s97.1, .sl (.own v.1) 1 (s97.2.1.map AV.str), .i s97.2.2.1, .i s97.2.2.2.1, .bool s97.2.2.2.2.1, .i s97.2.2.2.2.2.1, .i s97.2.2.2.2.2.2.1, .str s97.2.2.2.2.2.2.2.1, .i s97.2.2.2.2.2.2.2.2.1, .i s97.2.2.2.2.2.2.2.2.2.1, .i s97.2.2.2.2.2.2.2.2.2.2.1, .sl (.own v.2) 2 (s97.2.2.2.2.2.2.2.2.2.2.2.map api.Request.av)]), (v.1, .spare), (v.2, .spare)]) ?_ ?_
  ·have h := s97e
   refine aw_block (aw_claimCell 1 11 Z Z fun t125 => (aw_while (σ := parse.Feed.S0) (ν := Nat × Nat) (parse.Feed.body0 in_ l) (fun s115 v => [(6, .ptr p66 0), (9, .ptr p70 0)]) (fun s115 v => [(p66, .cells [.str ([] : List UInt8), .sl .full 1 (([] : List (List UInt8)).map AV.str), .i 0, .i 0, .bool false, .i 0, .i 0]), (p70, .cells [.str s115.c, .sl (.own v.1) 1 (s115.c2.map AV.str), .i s115.c3, .i s115.c4, .bool s115.c5, .i s115.c6, .i s115.c7, .str s115.c8, .i s115.c9, .i s115.c10, .i s115.c11, .sl (.own v.2) 2 (s115.c12.map api.Request.av)]), (v.1, .spare), (v.2, .spare)]) ⟨([] : List UInt8), r71, in_.Left, in_.Size, in_.Body, in_.Need, in_.Dead, in_.Rest ++ b, r69.Args, r69.Bulk, r69.Line, ([] : List api.Request)⟩ (t72, t125) _ h (Weak.mkL [3, 2, 1, 0] (by decide) ⟨⟨_, Z, cr, Z⟩, ⟨_, Z, ⟨vr, vr, vr, vr, vr, vr, vr, vr, vr, vr, vr, vr, trivial⟩, Z⟩, ⟨_, Z, Z⟩, ⟨_, Z, Z⟩, trivial⟩ ⟨tm Z, tm Z, trivial⟩) ?_))
   rintro s115 ⟨n116, n117⟩ x119 h hx118
   unfold parse.Feed.body0 at h
   refine aw_seq (xr (xm Z Z Z ?_))
   obtain ⟨r121, r121e, h⟩ := bind_some h
   refine aops_weak (weak_pick [1, 2, 3, 0] (by decide) Z) (xc Z (op_call (vs := [.ptr p70 0]) (H := [(p70, .cells [.str s115.c, .sl (.own n116) 1 (s115.c2.map AV.str), .i s115.c3, .i s115.c4, .bool s115.c5, .i s115.c6, .i s115.c7, .str s115.c8, .i s115.c9, .i s115.c10, .i s115.c11, .sl (.own n117) 2 (s115.c12.map api.Request.av)]), (n116, .spare), (n117, .spare)]) Z call51 ⟨(tm Z), trivial⟩ (List.Perm.refl _) (parse.parser.step.ok r121e p70 n116 n117) ?_))
   rintro _ _ ⟨t122, t123, rfl, rfl⟩
   refine xe (aw_cond (b := r121.1) (tm Z) (fun hb124 => ?_) (fun hb124 => ?_))
   ·replace h := ite_t hb124 h
    refine aw_skip (aw_block (aw_skip ?_))
    obtain rfl := some_of h
    exact ⟨_, (t122, t123), Z, Weak.mkL [3, 0, 1, 2] (by decide) ⟨⟨_, Z, cr, Z⟩, ⟨_, Z, cr, Z⟩, ⟨_, Z, Z⟩, ⟨_, Z, Z⟩, trivial⟩ ⟨tm Z, tm Z, trivial⟩⟩
   ·replace h := ite_fb hb124 h
    refine aw_exit ?_
    obtain rfl := some_of h
    have h := congrArg some (hx118 _ rfl)
    obtain rfl := some_of h
    exact ⟨(t122, t123), Weak.mkL [3, 0, 1, 2] (by decide) ⟨⟨_, Z, cr, Z⟩, ⟨_, Z, cr, Z⟩, ⟨_, Z, Z⟩, ⟨_, Z, Z⟩, trivial⟩ ⟨tm Z, tm Z, trivial⟩⟩
  ·rintro ⟨n98, n99⟩
   have h := h100
   refine xr (xm Z Z Z (xm Z Z Z (xa (.ptr p70 0) Z (pu_nilCheck Z (tm Z) Z) (xa (.ptr p70 7) Z (fa Z underlying93 Z sizeOf9 Z Z Z) (xc Z (op_load1 (i := 1) Z isAgg9 (tm Z) Z Z ?_))))))
   obtain ⟨r126, r126e, h⟩ := bind_some h
   refine xc Z (op_call (vs := [.str s97.2.2.2.2.2.2.2.1]) (H := []) Z call52 ⟨(tm Z), trivial⟩ (List.Perm.refl _) (strings.Clone.ok r126e) ?_)
   rintro _ _ ⟨rfl, rfl⟩
   refine xa (.ptr p70 0) Z (pu_nilCheck Z (tm Z) Z) (xa (.ptr p70 0) Z (fa Z underlying93 Z sizeOf29 Z Z Z) (xa (.ptr p70 0) Z (fa Z underlying29 Z sizeOf9 Z Z Z) (ac0 Z Z (op_store (i := 1) (cs' := [.str r126, .sl (.own n98) 1 (s97.2.1.map AV.str), .i s97.2.2.1, .i s97.2.2.2.1, .bool s97.2.2.2.2.1, .i s97.2.2.2.2.2.1, .i s97.2.2.2.2.2.2.1, .str s97.2.2.2.2.2.2.2.1, .i s97.2.2.2.2.2.2.2.2.1, .i s97.2.2.2.2.2.2.2.2.2.1, .i s97.2.2.2.2.2.2.2.2.2.2.1, .sl (.own n99) 2 (s97.2.2.2.2.2.2.2.2.2.2.2.map api.Request.av)]) Z sizeOf9 (tm Z) (v := .str r126) (tm Z) Z Z Z (nb Z) Z (xe (aw_seq (aw_planR (by decide +kernel) [[], [], [], [(1, 0, false)], [], [], [], [(1, 0, false)], [], [], [], [], [(1, 0, false)], [(0, 0, true)], [], []] [[13], [], [], []] [[[(p66, .cells [.str ([] : List UInt8), .sl .full 1 (([] : List (List UInt8)).map AV.str), .i 0, .i 0, .bool false, .i 0, .i 0])], [(p66, .cells [.str r126, .sl (.own n98) 1 (s97.2.1.map AV.str), .i s97.2.2.1, .i s97.2.2.2.1, .bool s97.2.2.2.2.1, .i s97.2.2.2.2.2.1, .i s97.2.2.2.2.2.2.1])]], [[(p70, .cells [.str r126, .sl (.own n98) 1 (s97.2.1.map AV.str), .i s97.2.2.1, .i s97.2.2.2.1, .bool s97.2.2.2.2.1, .i s97.2.2.2.2.2.1, .i s97.2.2.2.2.2.2.1, .str s97.2.2.2.2.2.2.2.1, .i s97.2.2.2.2.2.2.2.2.1, .i s97.2.2.2.2.2.2.2.2.2.1, .i s97.2.2.2.2.2.2.2.2.2.2.1, .sl (.own n99) 2 (s97.2.2.2.2.2.2.2.2.2.2.2.map api.Request.av)])]], [[(n98, .spare)]], [[(n99, .spare)]]] [.ptr p70 0, .ptr p70 0, .ptr p70 0, .agg [.str r126, .sl (.own n98) 1 (s97.2.1.map AV.str), .i s97.2.2.1, .i s97.2.2.2.1, .bool s97.2.2.2.2.1, .i s97.2.2.2.2.2.1, .i s97.2.2.2.2.2.2.1], .ptr p70 0, .ptr p70 0, .ptr p70 11, .sl (.own n99) 2 (s97.2.2.2.2.2.2.2.2.2.2.2.map api.Request.av), .ptr p70 0, .ptr p70 0, .ptr p70 0, .ptr p70 6, .i s97.2.2.2.2.2.2.1, .un, .sl (.own n99) 2 (s97.2.2.2.2.2.2.2.2.2.2.2.map api.Request.av), .i s97.2.2.2.2.2.2.1] (by decide +kernel) Z Z ?_ ?_)))))))
   ·exact ⟨ym Z Z Z, yp Z (pu_nilCheck Z (tm Z) Z), yp Z (fa Z underlying93 Z sizeOf29 Z Z Z), stepg_plain Z (op_loadN (i := 0) Z isAgg29 sizeOf29 (tm Z) Z (nb Z) Z ⟨Z, Z⟩), ym Z Z Z, yp Z (pu_nilCheck Z (tm Z) Z), yp Z (fa Z underlying93 Z sizeOf30 Z Z Z), stepg_plain Z (op_load1 (i := 0) Z isAgg30 (tm Z) Z Z ⟨Z, Z⟩), ym Z Z Z, yp Z (pu_nilCheck Z (tm Z) Z), yp Z (fa Z underlying93 Z sizeOf29 Z Z Z), yp Z (fa Z underlying29 Z sizeOf27 Z Z Z), stepg_plain Z (op_load1 (i := 0) Z isAgg27 (tm Z) Z Z ⟨Z, Z⟩), stepg_plain Z (op_store (i := 0) (cs' := [.str r126, .sl (.own n98) 1 (s97.2.1.map AV.str), .i s97.2.2.1, .i s97.2.2.2.1, .bool s97.2.2.2.2.1, .i s97.2.2.2.2.2.1, .i s97.2.2.2.2.2.2.1]) Z sizeOf29 (tm Z) (v := .agg [.str r126, .sl (.own n98) 1 (s97.2.1.map AV.str), .i s97.2.2.1, .i s97.2.2.2.1, .bool s97.2.2.2.2.1, .i s97.2.2.2.2.2.1, .i s97.2.2.2.2.2.2.1]) (tm Z) Z Z Z (nb Z) Z ⟨Z, Z⟩), ym Z Z Z, ym Z Z Z, trivial⟩
   refine aw_ret ?_
   obtain rfl := some_of h
   exact ⟨[.agg [.str r126, .sl (.own n98) 1 (s97.2.1.map AV.str), .i s97.2.2.1, .i s97.2.2.2.1, .bool s97.2.2.2.2.1, .i s97.2.2.2.2.2.1, .i s97.2.2.2.2.2.2.1], .sl (.own n99) 2 (s97.2.2.2.2.2.2.2.2.2.2.2.map api.Request.av), .i s97.2.2.2.2.2.2.1], .tup [.agg [.str r126, .sl .no 1 (s97.2.1.map AV.str), .i s97.2.2.1, .i s97.2.2.2.1, .bool s97.2.2.2.2.1, .i s97.2.2.2.2.2.1, .i s97.2.2.2.2.2.2.1], .sl (.own n99) 2 (s97.2.2.2.2.2.2.2.2.2.2.2.map api.Request.av), .i s97.2.2.2.2.2.2.1], [(n99, .spare)], ⟨(CellOk.agg 0 (tm Z) Z isAgg29 sizeOf29 (nb Z) Z), (tm Z), (tm Z), trivial⟩, (AV.Le.tup ⟨(AV.Le.agg ⟨vr, (AV.Le.forget _ _ _), vr, vr, vr, vr, vr, trivial⟩), vr, vr, trivial⟩), Weak.mkL [3] (by decide) ⟨⟨_, Z, Z⟩, trivial⟩ trivial, ⟨n99, Z, Z⟩⟩

theorem mewsref05.texts.ok {a : List (List UInt8)} {b : List (List UInt8)} {r : Bool} (h : mewsref05.texts a b = some r) : Go.Lift.Spec prog 55 [.sl .no 1 (a.map AV.str), .sl .no 1 (b.map AV.str)] [] (fun v H => v = .bool r ∧ H = []) := by
 unfold mewsref05.texts at h
 refine Go.Lift.Spec.of_body (rs := [.tmp 4]) func55 Z Z (nb Z) Z (xr (xa (.bool false) Z (pu_assign Z (AEv.bool _)) (xe (aw_seq (xr (xm Z Z Z (xa (.i (a.length : Int)) Z (pu_lenM Z underlying26 (tm Z)) ?_)))))))
 refine xm Z Z Z (xa (.i (b.length : Int)) Z (pu_lenM Z underlying26 (tm Z)) (xa (.bool (!decide ((a.length : Int) = (b.length : Int)))) Z (pu_int (v := .bool (!decide ((a.length : Int) = (b.length : Int)))) Z Z (tm Z) (tm Z) Z) (xe (aw_cond (b := (!decide ((a.length : Int) = (b.length : Int)))) (tm Z) (fun hb82 => ?_) (fun hb82 => ?_)))))
 ·replace h := ite_f (ndec_t hb82) h
  refine xr (xa (.bool false) Z (pu_assign Z (AEv.bool _)) (xe (aw_ret ?_)))
  obtain rfl := some_of h
  exact ⟨[.bool false], _, [], ⟨(tm Z), trivial⟩, vr, Weak.mkL [] (by decide) trivial trivial, ⟨Z, Z⟩⟩
 ·replace h := ite_t (ndec_f hb82) h
  refine aw_skip ?_
  obtain ⟨s81, s81e, h61⟩ := bind_some h
  refine aw_join (σ := Unit) (ν := Unit) (fun u v => []) (fun u v => []) (fun u => s81 = .inl u) ?_ ?_
  ·intro s60
   intro _
   rintro rfl
   have h := onSum_inl h61
   refine xr (xa (.bool true) Z (pu_assign Z (AEv.bool _)) (xe (aw_ret ?_)))
   obtain rfl := some_of h
   exact ⟨[.bool true], _, [], ⟨(tm Z), trivial⟩, vr, Weak.mkL [] (by decide) trivial trivial, ⟨Z, Z⟩⟩
  ·have h := s81e
   refine xr (xa (.i 0) Z (pu_assign Z (AEv.int _ _)) (xe (aw_block (aw_while (σ := mewsref05.texts.S0) (ν := Unit) (mewsref05.texts.body0 a b) (fun s73 v => [(0, .sl .no 1 (a.map AV.str)), (1, .sl .no 1 (b.map AV.str)), (5, .i s73.i)]) (fun s73 v => []) ⟨0⟩ () _ h (Weak.mkL [] (by decide) trivial ⟨tm Z, tm Z, tm Z, trivial⟩) ?_))))
   rintro s73 _ x75 h hx74
   unfold mewsref05.texts.body0 at h
   refine aw_seq (xr (xm Z Z Z (xm Z Z Z (xa (.i (a.length : Int)) Z (pu_lenM Z underlying26 (tm Z)) (xa (.bool (decide (s73.i < (a.length : Int)))) Z (pu_int (v := .bool (decide (s73.i < (a.length : Int)))) Z Z (tm Z) (tm Z) Z) (xe (aw_cond (b := decide (s73.i < (a.length : Int))) (tm Z) (fun hb80 => ?_) (fun hb80 => ?_))))))))
   ·replace h := ite_t (dec_t hb80) h
    refine aw_skip (aw_seq (aw_block (aw_seq ?_)))
    obtain ⟨c77, h⟩ := need_of h
    obtain ⟨c78, h⟩ := need_of h
    refine aw_planR (by decide +kernel) [[], [], [], [], [], [], [], [], []] [] [] [.sl .no 1 (a.map AV.str), .i s73.i, .vptr [.str (ix a s73.i)], .str (ix a s73.i), .sl .no 1 (b.map AV.str), .i s73.i, .vptr [.str (ix b s73.i)], .str (ix b s73.i), .bool (!decide ((ix a s73.i) = (ix b s73.i)))] (by decide +kernel) Z Z ?_ ?_
    ·exact ⟨ym Z Z Z, ym Z Z Z, yp Z (pu_indexAddrM Z underlying26 sizeOf9 (tm Z) (tm Z) c77 Z), stepg_plain Z (op_loadV1 Z isAgg9 (tm Z) Z ⟨Z, Z⟩), ym Z Z Z, ym Z Z Z, yp Z (pu_indexAddrM Z underlying26 sizeOf9 (tm Z) (tm Z) c78 Z), stepg_plain Z (op_loadV1 Z isAgg9 (tm Z) Z ⟨Z, Z⟩), yp Z (pu_str (v := .bool (!decide ((ix a s73.i) = (ix b s73.i)))) Z Z (tm Z) (tm Z) Z), trivial⟩
    refine aw_cond (b := (!decide ((ix a s73.i) = (ix b s73.i)))) (tm Z) (fun hb79 => ?_) (fun hb79 => ?_)
    ·replace h := ite_f (ndec_t hb79) h
     refine xr (xa (.bool false) Z (pu_assign Z (AEv.bool _)) (xe (aw_ret ?_)))
     obtain rfl := some_of h
     have h := congrArg some (hx74 _ rfl)
     obtain rfl := some_of h
     have h := onSum_inr h61
     obtain rfl := some_of h
     exact ⟨[.bool false], _, [], ⟨(tm Z), trivial⟩, vr, Weak.mkL [] (by decide) trivial trivial, ⟨Z, Z⟩⟩
    ·replace h := ite_t (ndec_f hb79) h
     refine aw_skip (aw_region (xm Z Z Z (xa (.i (IntKind.wrap .i64 (s73.i + 1))) Z (pu_int (v := .i (IntKind.wrap .i64 (s73.i + 1))) Z Z (tm Z) (AEv.int _ _) Z) (xm Z Z Z (xe ?_)))))
     obtain rfl := some_of h
     exact ⟨_, (), Z, Weak.mkL [] (by decide) trivial ⟨tm Z, tm Z, (AEv.le (tm Z) vr), trivial⟩⟩
   ·replace h := ite_f (dec_f hb80) h
    refine aw_exit ?_
    obtain rfl := some_of h
    have h := congrArg some (hx74 _ rfl)
    exact ⟨(), (), (some_of h).symm, Weak.mkL [] (by decide) trivial trivial⟩

theorem mewsref05.Same.ok {a : List api.Request} {b : List api.Request} {r : Bool} (h : mewsref05.Same a b = some r) : Go.Lift.Spec prog 18 [.sl .no 2 (a.map api.Request.av), .sl .no 2 (b.map api.Request.av)] [] (fun v H => v = .bool r ∧ H = []) := by
 unfold mewsref05.Same at h
 refine Go.Lift.Spec.of_body (rs := [.tmp 4]) func18 Z Z (nb Z) Z (xr (xa (.bool false) Z (pu_assign Z (AEv.bool _)) (xe (aw_seq (xr (xm Z Z Z (xa (.i (a.length : Int)) Z (pu_lenM Z underlying30 (tm Z)) ?_)))))))
 refine xm Z Z Z (xa (.i (b.length : Int)) Z (pu_lenM Z underlying30 (tm Z)) (xa (.bool (!decide ((a.length : Int) = (b.length : Int)))) Z (pu_int (v := .bool (!decide ((a.length : Int) = (b.length : Int)))) Z Z (tm Z) (tm Z) Z) (xe (aw_cond (b := (!decide ((a.length : Int) = (b.length : Int)))) (tm Z) (fun hb238 => ?_) (fun hb238 => ?_)))))
 ·replace h := ite_f (ndec_t hb238) h
  refine xr (xa (.bool false) Z (pu_assign Z (AEv.bool _)) (xe (aw_ret ?_)))
  obtain rfl := some_of h
  exact ⟨[.bool false], _, [], ⟨(tm Z), trivial⟩, vr, Weak.mkL [] (by decide) trivial trivial, ⟨Z, Z⟩⟩
 ·replace h := ite_t (ndec_f hb238) h
  refine aw_skip ?_
  obtain ⟨s237, s237e, h178⟩ := bind_some h
  refine aw_join (σ := Unit) (ν := Unit) (fun u v => []) (fun u v => []) (fun u => s237 = .inl u) ?_ ?_
  ·intro s177
   intro _
   rintro rfl
   have h := onSum_inl h178
   refine xr (xa (.bool true) Z (pu_assign Z (AEv.bool _)) (xe (aw_ret ?_)))
   obtain rfl := some_of h
   exact ⟨[.bool true], _, [], ⟨(tm Z), trivial⟩, vr, Weak.mkL [] (by decide) trivial trivial, ⟨Z, Z⟩⟩
  ·have h := s237e
   refine xr (xa (.i 0) Z (pu_assign Z (AEv.int _ _)) (xe (aw_block (aw_while (σ := mewsref05.Same.S0) (ν := Unit) (mewsref05.Same.body0 a b) (fun s216 v => [(0, .sl .no 2 (a.map api.Request.av)), (1, .sl .no 2 (b.map api.Request.av)), (5, .i s216.i)]) (fun s216 v => []) ⟨0⟩ () _ h (Weak.mkL [] (by decide) trivial ⟨tm Z, tm Z, tm Z, trivial⟩) ?_))))
   rintro s216 _ x218 h hx217
   unfold mewsref05.Same.body0 at h
   refine aw_seq (xr (xm Z Z Z (xm Z Z Z (xa (.i (a.length : Int)) Z (pu_lenM Z underlying30 (tm Z)) (xa (.bool (decide (s216.i < (a.length : Int)))) Z (pu_int (v := .bool (decide (s216.i < (a.length : Int)))) Z Z (tm Z) (tm Z) Z) (xe (aw_cond (b := decide (s216.i < (a.length : Int))) (tm Z) (fun hb236 => ?_) (fun hb236 => ?_))))))))
   ·replace h := ite_t (dec_t hb236) h
    refine aw_skip (aw_seq (aw_block ?_))
    obtain ⟨s226, s226e, h227⟩ := bind_some h
    refine aw_meet (ν := Unit) (fun v => [(0, .sl .no 2 (a.map api.Request.av)), (1, .sl .no 2 (b.map api.Request.av)), (5, .i s216.i), (41, .bool s226)]) (fun v => []) ?_ ?_
    ·have h := s226e
     obtain ⟨c229, h⟩ := need_of h
     obtain ⟨c230, h⟩ := need_of h
     rcases Bool.eq_false_or_eq_true (!decide ((ix a s216.i).Size = (ix b s216.i).Size)) with hb231 | hb231
     ·replace h := ite_f (ndec_t hb231) h
      refine aw_planR (by decide +kernel) [[], [], [], [], [], [], [], [], [], [], [], [], [], [], [], [], [], [], [], [], [], [], [], [], []] [] [] [.sl .no 2 (a.map api.Request.av), .i s216.i, .vptr [.sl .no 1 ((ix a s216.i).Args.map AV.str), .i (ix a s216.i).Size], .vptr [.i (ix a s216.i).Size], .i (ix a s216.i).Size, .sl .no 2 (b.map api.Request.av), .i s216.i, .vptr [.sl .no 1 ((ix b s216.i).Args.map AV.str), .i (ix b s216.i).Size], .vptr [.i (ix b s216.i).Size], .i (ix b s216.i).Size, .bool (!decide ((ix a s216.i).Size = (ix b s216.i).Size)), .bool true, .lit undef, .lit undef, .lit undef, .lit undef, .lit undef, .lit undef, .lit undef, .lit undef, .lit undef, .lit undef, .lit undef, .lit undef, .bool true] (by decide +kernel) Z Z ?_ ?_
      ·exact ⟨ym Z Z Z, ym Z Z Z, yp Z (pu_indexAddrM Z underlying30 sizeOf44 (tm Z) (tm Z) c229 Z), yp Z (fa Z underlying44 Z sizeOf3 Z Z Z), stepg_plain Z (op_loadV1 Z isAgg3 (tm Z) Z ⟨Z, Z⟩), ym Z Z Z, ym Z Z Z, yp Z (pu_indexAddrM Z underlying30 sizeOf44 (tm Z) (tm Z) c230 Z), yp Z (fa Z underlying44 Z sizeOf3 Z Z Z), stepg_plain Z (op_loadV1 Z isAgg3 (tm Z) Z ⟨Z, Z⟩), yp Z (pu_int (v := .bool (!decide ((ix a s216.i).Size = (ix b s216.i).Size))) Z Z (tm Z) (tm Z) Z), AStepG.cast (ym Z Z Z) (congrArg AV.bool hb231), yx Z Z Z, yx Z Z Z, yx Z Z Z, yx Z Z Z, yx Z Z Z, yx Z Z Z, yx Z Z Z, yx Z Z Z, yx Z Z Z, yx Z Z Z, yx Z Z Z, yx Z Z Z, yp Z (pu_pick (b := true) Z (tm Z) (fun _ => (AEv.bool _)) (fun h => nomatch h)), trivial⟩
      obtain rfl := some_of h
      exact ⟨(), Weak.mkL [] (by decide) trivial ⟨tm Z, tm Z, tm Z, tm Z, trivial⟩⟩
     ·replace h := ite_t (ndec_f hb231) h
      obtain ⟨c232, h⟩ := need_of h
      obtain ⟨c233, h⟩ := need_of h
      obtain ⟨r234, r234e, h⟩ := bind_some h
      refine aw_planR (by decide +kernel) [[], [], [], [], [], [], [], [], [], [], [], [], [], [], [], [], [], [], [], [], [], [], [], [], []] [] [] [.sl .no 2 (a.map api.Request.av), .i s216.i, .vptr [.sl .no 1 ((ix a s216.i).Args.map AV.str), .i (ix a s216.i).Size], .vptr [.i (ix a s216.i).Size], .i (ix a s216.i).Size, .sl .no 2 (b.map api.Request.av), .i s216.i, .vptr [.sl .no 1 ((ix b s216.i).Args.map AV.str), .i (ix b s216.i).Size], .vptr [.i (ix b s216.i).Size], .i (ix b s216.i).Size, .bool (!decide ((ix a s216.i).Size = (ix b s216.i).Size)), .bool false, .sl .no 2 (a.map api.Request.av), .i s216.i, .vptr [.sl .no 1 ((ix a s216.i).Args.map AV.str), .i (ix a s216.i).Size], .vptr [.sl .no 1 ((ix a s216.i).Args.map AV.str), .i (ix a s216.i).Size], .sl .no 1 ((ix a s216.i).Args.map AV.str), .sl .no 2 (b.map api.Request.av), .i s216.i, .vptr [.sl .no 1 ((ix b s216.i).Args.map AV.str), .i (ix b s216.i).Size], .vptr [.sl .no 1 ((ix b s216.i).Args.map AV.str), .i (ix b s216.i).Size], .sl .no 1 ((ix b s216.i).Args.map AV.str), .bool r234, .bool (!r234), .bool (!r234)] (by decide +kernel) Z Z ?_ ?_
      ·exact ⟨ym Z Z Z, ym Z Z Z, yp Z (pu_indexAddrM Z underlying30 sizeOf44 (tm Z) (tm Z) c229 Z), yp Z (fa Z underlying44 Z sizeOf3 Z Z Z), stepg_plain Z (op_loadV1 Z isAgg3 (tm Z) Z ⟨Z, Z⟩), ym Z Z Z, ym Z Z Z, yp Z (pu_indexAddrM Z underlying30 sizeOf44 (tm Z) (tm Z) c230 Z), yp Z (fa Z underlying44 Z sizeOf3 Z Z Z), stepg_plain Z (op_loadV1 Z isAgg3 (tm Z) Z ⟨Z, Z⟩), yp Z (pu_int (v := .bool (!decide ((ix a s216.i).Size = (ix b s216.i).Size))) Z Z (tm Z) (tm Z) Z), AStepG.cast (ym Z Z Z) (congrArg AV.bool hb231), yq Z Z (pu_move Z (tm Z)), yq Z Z (pu_move Z (tm Z)), yq Z Z (pu_indexAddrM Z underlying30 sizeOf44 (tm Z) (tm Z) c232 Z), yq Z Z (fa Z underlying44 Z sizeOf26 Z Z Z), yg Z Z (op_loadV1 Z isAgg26 (tm Z) Z ⟨Z, Z⟩), yq Z Z (pu_move Z (tm Z)), yq Z Z (pu_move Z (tm Z)), yq Z Z (pu_indexAddrM Z underlying30 sizeOf44 (tm Z) (tm Z) c233 Z), yq Z Z (fa Z underlying44 Z sizeOf26 Z Z Z), yg Z Z (op_loadV1 Z isAgg26 (tm Z) Z ⟨Z, Z⟩), yg Z Z (op_call (vs := [.sl .no 1 ((ix a s216.i).Args.map AV.str), .sl .no 1 ((ix b s216.i).Args.map AV.str)]) (H := []) Z call55 ⟨(tm Z), (tm Z), trivial⟩ (R := []) (List.Perm.refl _) (mewsref05.texts.ok r234e) (by rintro _ _ ⟨rfl, rfl⟩; exact ⟨Z, Z⟩)), yq Z Z (pu_not Z (tm Z)), yp Z (pu_pick (b := false) Z (tm Z) (fun h => nomatch h) (fun _ => (tm Z))), trivial⟩
      obtain rfl := some_of h
      exact ⟨(), Weak.mkL [] (by decide) trivial ⟨tm Z, tm Z, tm Z, tm Z, trivial⟩⟩
    ·intro _
     have h := h227
     refine aw_cond (b := s226) (tm Z) (fun hb235 => ?_) (fun hb235 => ?_)
     ·replace h := ite_t hb235 h
      refine xr (xa (.bool false) Z (pu_assign Z (AEv.bool _)) (xe (aw_ret ?_)))
      obtain rfl := some_of h
      have h := congrArg some (hx217 _ rfl)
      obtain rfl := some_of h
      have h := onSum_inr h178
      obtain rfl := some_of h
      exact ⟨[.bool false], _, [], ⟨(tm Z), trivial⟩, vr, Weak.mkL [] (by decide) trivial trivial, ⟨Z, Z⟩⟩
     ·replace h := ite_fb hb235 h
      refine aw_skip (aw_region (xm Z Z Z (xa (.i (IntKind.wrap .i64 (s216.i + 1))) Z (pu_int (v := .i (IntKind.wrap .i64 (s216.i + 1))) Z Z (tm Z) (AEv.int _ _) Z) (xm Z Z Z (xe ?_)))))
      obtain rfl := some_of h
      exact ⟨_, (), Z, Weak.mkL [] (by decide) trivial ⟨tm Z, tm Z, (AEv.le (tm Z) vr), trivial⟩⟩
   ·replace h := ite_f (dec_f hb236) h
    refine aw_exit ?_
    obtain rfl := some_of h
    have h := congrArg some (hx217 _ rfl)
    exact ⟨(), (), (some_of h).symm, Weak.mkL [] (by decide) trivial trivial⟩

theorem mewsref05.SameInput.ok {a : api.Input} {b : api.Input} {r : Bool} (h : mewsref05.SameInput a b = some r) : Go.Lift.Spec prog 17 [.agg (api.Input.ct .no a), .agg (api.Input.ct .no b)] [] (fun v H => v = .bool r ∧ H = []) := by
 unfold mewsref05.SameInput at h
 refine Go.Lift.Spec.of_body (rs := [.tmp 4]) func17 Z Z (nb Z) Z (xr (xc Z (op_box (cs := (api.Input.ct .no a)) (v := .agg (api.Input.ct .no a)) Z (tm Z) Z Z ?_)))
 intro p20
 refine xc Z (op_box (cs := (api.Input.ct .no b)) (v := .agg (api.Input.ct .no b)) Z (tm Z) Z Z ?_)
 intro p21
 refine xa (.bool false) Z (pu_assign Z (AEv.bool _)) (xe ?_)
 obtain ⟨s29, s29e, h30⟩ := bind_some h
 refine aw_meet (ν := Unit) (fun v => [(4, .bool s29)]) (fun v => []) ?_ ?_
 ·have h := s29e
  refine aw_region (xa (.ptr p20 0) Z (fa Z underlying29 Z sizeOf9 Z Z Z) (xc Z (op_load1 (i := 1) Z isAgg9 (tm Z) Z Z (xa (.ptr p21 0) Z (fa Z underlying29 Z sizeOf9 Z Z Z) (xc Z (op_load1 (i := 0) Z isAgg9 (tm Z) Z Z (xa (.bool (decide (a.Rest = b.Rest))) Z (pu_str (v := .bool (decide (a.Rest = b.Rest))) Z Z (tm Z) (tm Z) Z) (xm Z Z Z ?_))))))))
  rcases Bool.eq_false_or_eq_true (decide (a.Rest = b.Rest)) with hb32 | hb32
  ·replace h := ite_t (dec_t hb32) h
   refine aops_known 10 Z hb32 (xp (.ptr p20 1) Z Z (fa Z underlying29 Z sizeOf26 Z Z Z) (xg Z Z (op_load1 (i := 1) Z isAgg26 (tm Z) Z Z (xp (.ptr p21 1) Z Z (fa Z underlying29 Z sizeOf26 Z Z Z) (xg Z Z (op_load1 (i := 0) Z isAgg26 (tm Z) Z Z ?_))))))
   obtain ⟨r33, r33e, h⟩ := bind_some h
   refine xg Z Z (op_call (vs := [.sl .no 1 (a.Args.map AV.str), .sl .no 1 (b.Args.map AV.str)]) (H := []) Z call55 ⟨(tm Z), (tm Z), trivial⟩ (List.Perm.refl _) (mewsref05.texts.ok r33e) ?_)
   rintro _ _ ⟨rfl, rfl⟩
   refine xa (.bool r33) Z (pu_pick (b := true) Z (tm Z) (fun _ => (tm Z)) (fun h => nomatch h)) (xm Z Z Z ?_)
   rcases Bool.eq_false_or_eq_true r33 with hb34 | hb34
   ·replace h := ite_t hb34 h
    refine aops_known 17 Z hb34 (xp (.ptr p20 2) Z Z (fa Z underlying29 Z sizeOf3 Z Z Z) (xg Z Z (op_load1 (i := 1) Z isAgg3 (tm Z) Z Z (xp (.ptr p21 2) Z Z (fa Z underlying29 Z sizeOf3 Z Z Z) (xg Z Z (op_load1 (i := 0) Z isAgg3 (tm Z) Z Z (xp (.bool (decide (a.Left = b.Left))) Z Z (pu_int (v := .bool (decide (a.Left = b.Left))) Z Z (tm Z) (tm Z) Z) (xa (.bool (decide (a.Left = b.Left))) Z (pu_pick (b := true) Z (tm Z) (fun _ => (tm Z)) (fun h => nomatch h)) (xm Z Z Z ?_)))))))))
    rcases Bool.eq_false_or_eq_true (decide (a.Left = b.Left)) with hb35 | hb35
    ·replace h := ite_t (dec_t hb35) h
     refine aops_known 24 Z hb35 (xp (.ptr p20 3) Z Z (fa Z underlying29 Z sizeOf3 Z Z Z) (xg Z Z (op_load1 (i := 1) Z isAgg3 (tm Z) Z Z (xp (.ptr p21 3) Z Z (fa Z underlying29 Z sizeOf3 Z Z Z) (xg Z Z (op_load1 (i := 0) Z isAgg3 (tm Z) Z Z (xp (.bool (decide (a.Size = b.Size))) Z Z (pu_int (v := .bool (decide (a.Size = b.Size))) Z Z (tm Z) (tm Z) Z) (xa (.bool (decide (a.Size = b.Size))) Z (pu_pick (b := true) Z (tm Z) (fun _ => (tm Z)) (fun h => nomatch h)) (xm Z Z Z ?_)))))))))
     rcases Bool.eq_false_or_eq_true (decide (a.Size = b.Size)) with hb36 | hb36
     ·replace h := ite_t (dec_t hb36) h
      refine aops_known 31 Z hb36 (xp (.ptr p20 4) Z Z (fa Z underlying29 Z sizeOf4 Z Z Z) (xg Z Z (op_load1 (i := 1) Z isAgg4 (tm Z) Z Z (xp (.ptr p21 4) Z Z (fa Z underlying29 Z sizeOf4 Z Z Z) (xg Z Z (op_load1 (i := 0) Z isAgg4 (tm Z) Z Z (xp (.bool (a.Body == b.Body)) Z Z (pu_boolEq Z underlying4 (tm Z) (tm Z)) (xa (.bool (a.Body == b.Body)) Z (pu_pick (b := true) Z (tm Z) (fun _ => (tm Z)) (fun h => nomatch h)) (xm Z Z Z ?_)))))))))
      rcases Bool.eq_false_or_eq_true (a.Body == b.Body) with hb37 | hb37
      ·replace h := ite_t hb37 h
       refine aops_known 38 Z hb37 (xp (.ptr p20 5) Z Z (fa Z underlying29 Z sizeOf3 Z Z Z) (xg Z Z (op_load1 (i := 1) Z isAgg3 (tm Z) Z Z (xp (.ptr p21 5) Z Z (fa Z underlying29 Z sizeOf3 Z Z Z) (xg Z Z (op_load1 (i := 0) Z isAgg3 (tm Z) Z Z (xp (.bool (decide (a.Need = b.Need))) Z Z (pu_int (v := .bool (decide (a.Need = b.Need))) Z Z (tm Z) (tm Z) Z) (xa (.bool (decide (a.Need = b.Need))) Z (pu_pick (b := true) Z (tm Z) (fun _ => (tm Z)) (fun h => nomatch h)) (xm Z Z Z ?_)))))))))
       rcases Bool.eq_false_or_eq_true (decide (a.Need = b.Need)) with hb38 | hb38
       ·replace h := ite_t (dec_t hb38) h
        refine aops_known 45 Z hb38 (xp (.ptr p20 6) Z Z (fa Z underlying29 Z sizeOf27 Z Z Z) (xg Z Z (op_load1 (i := 1) Z isAgg27 (tm Z) Z Z (xp (.ptr p21 6) Z Z (fa Z underlying29 Z sizeOf27 Z Z Z) (xg Z Z (op_load1 (i := 0) Z isAgg27 (tm Z) Z Z (xp (.bool (decide (a.Dead = b.Dead))) Z Z (pu_int (v := .bool (decide (a.Dead = b.Dead))) Z Z (tm Z) (tm Z) Z) (xa (.bool (decide (a.Dead = b.Dead))) Z (pu_pick (b := true) Z (tm Z) (fun _ => (tm Z)) (fun h => nomatch h)) (xm Z Z Z (xe ?_))))))))))
        obtain rfl := some_of h
        exact ⟨(), Weak.mkL [] (by decide) trivial ⟨(AEv.le (tm Z) vr), trivial⟩⟩
       ·replace h := ite_f (dec_f hb38) h
        refine aops_known 45 Z hb38 (xn Z Z Z (xn Z Z Z (xn Z Z Z (xn Z Z Z (xn Z Z Z (xa (.bool false) Z (pu_pick (b := false) Z (tm Z) (fun h => nomatch h) (fun _ => (AEv.bool _))) (xm Z Z Z (xe ?_))))))))
        obtain rfl := some_of h
        exact ⟨(), Weak.mkL [] (by decide) trivial ⟨tm Z, trivial⟩⟩
      ·replace h := ite_fb hb37 h
       refine aops_known 38 Z hb37 (xn Z Z Z (xn Z Z Z (xn Z Z Z (xn Z Z Z (xn Z Z Z (xa (.bool false) Z (pu_pick (b := false) Z (tm Z) (fun h => nomatch h) (fun _ => (AEv.bool _))) (xm Z Z Z (xn Z Z Z (xn Z Z Z ?_)))))))))
       refine xn Z Z Z (xn Z Z Z (xn Z Z Z (xa (.bool false) Z (pu_pick (b := false) Z (tm Z) (fun h => nomatch h) (fun _ => (AEv.bool _))) (xm Z Z Z (xe ?_)))))
       obtain rfl := some_of h
       exact ⟨(), Weak.mkL [] (by decide) trivial ⟨tm Z, trivial⟩⟩
     ·replace h := ite_f (dec_f hb36) h
      refine aops_known 31 Z hb36 (xn Z Z Z (xn Z Z Z (xn Z Z Z (xn Z Z Z (xn Z Z Z (xa (.bool false) Z (pu_pick (b := false) Z (tm Z) (fun h => nomatch h) (fun _ => (AEv.bool _))) (xm Z Z Z (xn Z Z Z (xn Z Z Z ?_)))))))))
      refine xn Z Z Z (xn Z Z Z (xn Z Z Z (xa (.bool false) Z (pu_pick (b := false) Z (tm Z) (fun h => nomatch h) (fun _ => (AEv.bool _))) (xm Z Z Z (xn Z Z Z (xn Z Z Z (xn Z Z Z (xn Z Z Z (xn Z Z Z ?_)))))))))
      refine xa (.bool false) Z (pu_pick (b := false) Z (tm Z) (fun h => nomatch h) (fun _ => (AEv.bool _))) (xm Z Z Z (xe ?_))
      obtain rfl := some_of h
      exact ⟨(), Weak.mkL [] (by decide) trivial ⟨tm Z, trivial⟩⟩
    ·replace h := ite_f (dec_f hb35) h
     refine aops_known 24 Z hb35 (xn Z Z Z (xn Z Z Z (xn Z Z Z (xn Z Z Z (xn Z Z Z (xa (.bool false) Z (pu_pick (b := false) Z (tm Z) (fun h => nomatch h) (fun _ => (AEv.bool _))) (xm Z Z Z (xn Z Z Z (xn Z Z Z ?_)))))))))
     refine xn Z Z Z (xn Z Z Z (xn Z Z Z (xa (.bool false) Z (pu_pick (b := false) Z (tm Z) (fun h => nomatch h) (fun _ => (AEv.bool _))) (xm Z Z Z (xn Z Z Z (xn Z Z Z (xn Z Z Z (xn Z Z Z (xn Z Z Z ?_)))))))))
     refine xa (.bool false) Z (pu_pick (b := false) Z (tm Z) (fun h => nomatch h) (fun _ => (AEv.bool _))) (xm Z Z Z (xn Z Z Z (xn Z Z Z (xn Z Z Z (xn Z Z Z (xn Z Z Z (xa (.bool false) Z (pu_pick (b := false) Z (tm Z) (fun h => nomatch h) (fun _ => (AEv.bool _))) (xm Z Z Z (xe ?_)))))))))
     obtain rfl := some_of h
     exact ⟨(), Weak.mkL [] (by decide) trivial ⟨tm Z, trivial⟩⟩
   ·replace h := ite_fb hb34 h
    refine aops_known 17 Z hb34 (xn Z Z Z (xn Z Z Z (xn Z Z Z (xn Z Z Z (xn Z Z Z (xa (.bool false) Z (pu_pick (b := false) Z (tm Z) (fun h => nomatch h) (fun _ => (AEv.bool _))) (xm Z Z Z (xn Z Z Z (xn Z Z Z ?_)))))))))
    refine xn Z Z Z (xn Z Z Z (xn Z Z Z (xa (.bool false) Z (pu_pick (b := false) Z (tm Z) (fun h => nomatch h) (fun _ => (AEv.bool _))) (xm Z Z Z (xn Z Z Z (xn Z Z Z (xn Z Z Z (xn Z Z Z (xn Z Z Z ?_)))))))))
    refine xa (.bool false) Z (pu_pick (b := false) Z (tm Z) (fun h => nomatch h) (fun _ => (AEv.bool _))) (xm Z Z Z (xn Z Z Z (xn Z Z Z (xn Z Z Z (xn Z Z Z (xn Z Z Z (xa (.bool false) Z (pu_pick (b := false) Z (tm Z) (fun h => nomatch h) (fun _ => (AEv.bool _))) (xm Z Z Z (xn Z Z Z ?_)))))))))
    refine xn Z Z Z (xn Z Z Z (xn Z Z Z (xn Z Z Z (xa (.bool false) Z (pu_pick (b := false) Z (tm Z) (fun h => nomatch h) (fun _ => (AEv.bool _))) (xm Z Z Z (xe ?_))))))
    obtain rfl := some_of h
    exact ⟨(), Weak.mkL [] (by decide) trivial ⟨tm Z, trivial⟩⟩
  ·replace h := ite_f (dec_f hb32) h
   refine aops_known 10 Z hb32 (xn Z Z Z (xn Z Z Z (xn Z Z Z (xn Z Z Z (xn Z Z Z (xa (.bool false) Z (pu_pick (b := false) Z (tm Z) (fun h => nomatch h) (fun _ => (AEv.bool _))) (xm Z Z Z (xn Z Z Z (xn Z Z Z ?_)))))))))
   refine xn Z Z Z (xn Z Z Z (xn Z Z Z (xa (.bool false) Z (pu_pick (b := false) Z (tm Z) (fun h => nomatch h) (fun _ => (AEv.bool _))) (xm Z Z Z (xn Z Z Z (xn Z Z Z (xn Z Z Z (xn Z Z Z (xn Z Z Z ?_)))))))))
   refine xa (.bool false) Z (pu_pick (b := false) Z (tm Z) (fun h => nomatch h) (fun _ => (AEv.bool _))) (xm Z Z Z (xn Z Z Z (xn Z Z Z (xn Z Z Z (xn Z Z Z (xn Z Z Z (xa (.bool false) Z (pu_pick (b := false) Z (tm Z) (fun h => nomatch h) (fun _ => (AEv.bool _))) (xm Z Z Z (xn Z Z Z ?_)))))))))
   refine xn Z Z Z (xn Z Z Z (xn Z Z Z (xn Z Z Z (xa (.bool false) Z (pu_pick (b := false) Z (tm Z) (fun h => nomatch h) (fun _ => (AEv.bool _))) (xm Z Z Z (xn Z Z Z (xn Z Z Z (xn Z Z Z (xn Z Z Z ?_)))))))))
   refine xn Z Z Z (xa (.bool false) Z (pu_pick (b := false) Z (tm Z) (fun h => nomatch h) (fun _ => (AEv.bool _))) (xm Z Z Z (xe ?_)))
   obtain rfl := some_of h
   exact ⟨(), Weak.mkL [] (by decide) trivial ⟨tm Z, trivial⟩⟩
 ·intro _
  have h := h30
  refine aw_ret ?_
  obtain rfl := some_of h
  exact ⟨[.bool s29], _, [], ⟨(tm Z), trivial⟩, vr, Weak.mkL [] (by decide) trivial trivial, ⟨Z, Z⟩⟩

theorem mewslaw43.far.ok {l : List mewslaw43.Op} {r : Bool} (h : mewslaw43.far l = some r) : Go.Lift.Spec prog 24 [.sl .no 4 (l.map mewslaw43.Op.av)] [] (fun v H => v = .bool r ∧ H = []) := by
 unfold mewslaw43.far at h
 refine Go.Lift.Spec.of_body (rs := [.tmp 2]) func24 Z Z (nb Z) Z (xr (xa (.bool false) Z (pu_assign Z (AEv.bool _)) (xe (xr (xa (.i 0) Z (pu_assign Z (AEv.int _ _)) (xe ?_))))))
 obtain ⟨s80, s80e, h60⟩ := bind_some h
 refine aw_join (σ := Unit) (ν := Unit) (fun u v => []) (fun u v => []) (fun u => s80 = .inl u) ?_ ?_
 ·intro s59
  intro _
  rintro rfl
  have h := onSum_inl h60
  refine xr (xa (.bool false) Z (pu_assign Z (AEv.bool _)) (xe (aw_ret ?_)))
  obtain rfl := some_of h
  exact ⟨[.bool false], _, [], ⟨(tm Z), trivial⟩, vr, Weak.mkL [] (by decide) trivial trivial, ⟨Z, Z⟩⟩
 ·have h := s80e
  refine xr (xm Z Z Z (xa (.i (l.length : Int)) Z (pu_lenM Z underlying50 (tm Z)) (xa (.i 0) Z (pu_move Z (AEv.int _ _)) (xe (aw_block (aw_while (σ := mewslaw43.far.S0) (ν := Unit) (mewslaw43.far.body0 l) (fun s72 v => [(3, .i s72.n), (6, .sl .no 4 (l.map mewslaw43.Op.av)), (7, .i (l.length : Int)), (8, .i s72.t8)]) (fun s72 v => []) ⟨0, 0⟩ () _ h (Weak.mkL [] (by decide) trivial ⟨tm Z, tm Z, tm Z, tm Z, trivial⟩) ?_))))))
  rintro s72 _ x74 h hx73
  unfold mewslaw43.far.body0 at h
  refine xr (xa (.bool (decide (s72.t8 < (l.length : Int)))) Z (pu_int (v := .bool (decide (s72.t8 < (l.length : Int)))) Z Z (tm Z) (tm Z) Z) (xe (aw_seq (aw_cond (b := decide (s72.t8 < (l.length : Int))) (tm Z) (fun hb79 => ?_) (fun hb79 => ?_)))))
  ·replace h := ite_t (dec_t hb79) h
   refine aw_skip (aw_seq (aw_block (aw_seq (aw_region ?_))))
   obtain ⟨c76, h⟩ := need_of h
   refine xa (.vptr [.i (ix l s72.t8).Kind, .str (ix l s72.t8).S, .i (ix l s72.t8).N, .i (ix l s72.t8).M]) Z (pu_indexAddrM Z underlying50 sizeOf59 (tm Z) (tm Z) c76 Z) (xc Z (op_loadVN Z isAgg59 sizeOf59 (tm Z) (nb Z) Z (xc Z (op_alloc (cs := [.i 0, .str ([] : List UInt8), .i 0, .i 0]) (v := .agg [.i 0, .str ([] : List UInt8), .i 0, .i 0]) Z zeroValue59 Z Z Z ?_))))
   intro p77
   refine ac0 Z Z (op_store (i := 0) (cs' := (mewslaw43.Op.ct (ix l s72.t8))) Z sizeOf59 (tm Z) (v := .agg (mewslaw43.Op.ct (ix l s72.t8))) (tm Z) Z Z Z (nb Z) Z (xe (xr (xm Z Z Z (xa (.ptr p77 1) Z (fa Z underlying59 Z sizeOf9 Z Z Z) (xc Z (op_load1 (i := 0) Z isAgg9 (tm Z) Z Z (xa (.i ((ix l s72.t8).S.length : Int)) Z (pu_strLen Z underlying9 (tm Z)) (xa (.i (if 10000 < ((ix l s72.t8).S.length : Int) then 10000 else ((ix l s72.t8).S.length : Int))) Z (pu_min2 Z (tm Z) (AEv.int _ _)) (xa (.i (IntKind.wrap .i64 (1 + (if 10000 < ((ix l s72.t8).S.length : Int) then 10000 else ((ix l s72.t8).S.length : Int))))) Z (pu_int (v := .i (IntKind.wrap .i64 (1 + (if 10000 < ((ix l s72.t8).S.length : Int) then 10000 else ((ix l s72.t8).S.length : Int))))) Z Z (AEv.int _ _) (tm Z) Z) ?_))))))))))
   refine xa (.i (IntKind.wrap .i64 (s72.n + (IntKind.wrap .i64 (1 + (if 10000 < ((ix l s72.t8).S.length : Int) then 10000 else ((ix l s72.t8).S.length : Int))))))) Z (pu_int (v := .i (IntKind.wrap .i64 (s72.n + (IntKind.wrap .i64 (1 + (if 10000 < ((ix l s72.t8).S.length : Int) then 10000 else ((ix l s72.t8).S.length : Int))))))) Z Z (tm Z) (tm Z) Z) (xm Z Z Z (xe (xr (xm Z Z Z (xa (.bool (decide (3000 < (IntKind.wrap .i64 (s72.n + (IntKind.wrap .i64 (1 + (if 10000 < ((ix l s72.t8).S.length : Int) then 10000 else ((ix l s72.t8).S.length : Int))))))))) Z (pu_int (v := .bool (decide (3000 < (IntKind.wrap .i64 (s72.n + (IntKind.wrap .i64 (1 + (if 10000 < ((ix l s72.t8).S.length : Int) then 10000 else ((ix l s72.t8).S.length : Int))))))))) Z Z (tm Z) (AEv.int _ _) Z) (xe (aw_cond (b := decide (3000 < (IntKind.wrap .i64 (s72.n + (IntKind.wrap .i64 (1 + (if 10000 < ((ix l s72.t8).S.length : Int) then 10000 else ((ix l s72.t8).S.length : Int)))))))) (tm Z) (fun hb78 => ?_) (fun hb78 => ?_))))))))
   ·replace h := ite_t (dec_t hb78) h
    refine xr (xa (.bool true) Z (pu_assign Z (AEv.bool _)) (xe (aw_ret ?_)))
    obtain rfl := some_of h
    have h := congrArg some (hx73 _ rfl)
    obtain rfl := some_of h
    have h := onSum_inr h60
    obtain rfl := some_of h
    exact ⟨[.bool true], _, [], ⟨(tm Z), trivial⟩, vr, Weak.mkL [] (by decide) trivial trivial, ⟨Z, Z⟩⟩
   ·replace h := ite_f (dec_f hb78) h
    refine aw_skip (aw_region (xa (.i (IntKind.wrap .i64 (s72.t8 + 1))) Z (pu_int (v := .i (IntKind.wrap .i64 (s72.t8 + 1))) Z Z (tm Z) (AEv.int _ _) Z) (xm Z Z Z (xe ?_))))
    obtain rfl := some_of h
    exact ⟨_, (), Z, Weak.mkL [] (by decide) trivial ⟨(AEv.le (tm Z) vr), tm Z, tm Z, (AEv.le (tm Z) vr), trivial⟩⟩
  ·replace h := ite_f (dec_f hb79) h
   refine aw_exit ?_
   obtain rfl := some_of h
   have h := congrArg some (hx73 _ rfl)
   exact ⟨(), (), (some_of h).symm, Weak.mkL [] (by decide) trivial trivial⟩

theorem conn.Open.ok {now : Int} {r : api.Conn} (h : conn.Open now = some r) : Go.Lift.Spec prog 26 [.i now] [] (fun v H => v = .agg [.i r.Born, .i r.Tenant, .str r.In.Rest, .sl .full 1 (r.In.Args.map AV.str), .i r.In.Left, .i r.In.Size, .bool r.In.Body, .i r.In.Need, .i r.In.Dead, .i r.Asked, .sl .full 2 (r.Held.map api.Held.av), .str r.Out, .i r.Taken, .bool r.Shut, .bool r.Closed] ∧ H = []) := by
 unfold conn.Open at h
 refine Go.Lift.Spec.of_body (rs := [.cell 2 56]) func26 Z Z (nb Z) Z (xr (xc Z (op_alloc (cs := [.i 0, .i 0, .str ([] : List UInt8), .sl .full 1 (([] : List (List UInt8)).map AV.str), .i 0, .i 0, .bool false, .i 0, .i 0, .i 0, .sl .full 2 (([] : List api.Held).map api.Held.av), .str ([] : List UInt8), .i 0, .bool false, .bool false]) (v := .agg [.i 0, .i 0, .str ([] : List UInt8), .sl .full 1 (([] : List (List UInt8)).map AV.str), .i 0, .i 0, .bool false, .i 0, .i 0, .i 0, .sl .full 2 (([] : List api.Held).map api.Held.av), .str ([] : List UInt8), .i 0, .bool false, .bool false]) Z zeroValue56 Z Z Z ?_)))
 intro p2
 refine xe (xr (xm Z Z Z (xa (.agg [.i now, .i (-1), .str ([] : List UInt8), .sl .full 1 (([] : List (List UInt8)).map AV.str), .i 0, .i 0, .bool false, .i 0, .i 0, .i 0, .sl .full 2 (([] : List api.Held).map api.Held.av), .str ([] : List UInt8), .i 0, .bool false, .bool false]) Z (pu_build (zs := [.i 0, .i 0, .str ([] : List UInt8), .sl .full 1 (([] : List (List UInt8)).map AV.str), .i 0, .i 0, .bool false, .i 0, .i 0, .i 0, .sl .full 2 (([] : List api.Held).map api.Held.av), .str ([] : List UInt8), .i 0, .bool false, .bool false]) (szs := [1, 1, 7, 1, 1, 1, 1, 1, 1]) (aparts := [(0, .i now), (1, .i (-1))]) (cs := [.i now, .i (-1), .str ([] : List UInt8), .sl .full 1 (([] : List (List UInt8)).map AV.str), .i 0, .i 0, .bool false, .i 0, .i 0, .i 0, .sl .full 2 (([] : List api.Held).map api.Held.av), .str ([] : List UInt8), .i 0, .bool false, .bool false]) Z underlying56 zeroValue56 Z ⟨sizeOf2, sizeOf3, sizeOf29, sizeOf3, sizeOf54, sizeOf9, sizeOf3, sizeOf4, sizeOf4, trivial⟩ ⟨Z, (tm Z), ⟨Z, (AEv.int _ _), trivial⟩⟩ Z) (ac0 Z Z (op_store (i := 0) (cs' := [.i now, .i (-1), .str ([] : List UInt8), .sl .full 1 (([] : List (List UInt8)).map AV.str), .i 0, .i 0, .bool false, .i 0, .i 0, .i 0, .sl .full 2 (([] : List api.Held).map api.Held.av), .str ([] : List UInt8), .i 0, .bool false, .bool false]) Z sizeOf56 (tm Z) (v := .agg [.i now, .i (-1), .str ([] : List UInt8), .sl .full 1 (([] : List (List UInt8)).map AV.str), .i 0, .i 0, .bool false, .i 0, .i 0, .i 0, .sl .full 2 (([] : List api.Held).map api.Held.av), .str ([] : List UInt8), .i 0, .bool false, .bool false]) (tm Z) Z Z Z (nb Z) Z (xe (aw_ret ?_)))))))
 obtain rfl := some_of h
 exact ⟨[.agg [.i now, .i (-1), .str ([] : List UInt8), .sl .full 1 (([] : List (List UInt8)).map AV.str), .i 0, .i 0, .bool false, .i 0, .i 0, .i 0, .sl .full 2 (([] : List api.Held).map api.Held.av), .str ([] : List UInt8), .i 0, .bool false, .bool false]], _, [], ⟨(CellOk.agg 0 (tm Z) Z isAgg56 sizeOf56 (nb Z) Z), trivial⟩, vr, Weak.mkL [] (by decide) trivial trivial, ⟨Z, Z⟩⟩

theorem slices.Clone_api_Held.ok {s : List api.Held} {r : List api.Held} (h : slices.Clone_api_Held s = some r) : Go.Lift.Spec prog 61 [.sl .no 2 (s.map api.Held.av)] [] (fun v H => ∃ n0, v = .sl (.own n0) 2 (r.map api.Held.av) ∧ H = [(n0, .spare)]) := by
 unfold slices.Clone_api_Held at h
 obtain ⟨c, h⟩ := need_of h
 obtain rfl := some_of h
 refine Go.Lift.Spec.of_body (rs := [.tmp 2]) func61 Z Z (nb Z) Z (xr (xa (.sl .full 2 (([] : List api.Held).map api.Held.av)) Z (pu_assign Z (AEv.nil 2 (by decide))) (xe (aw_seq (xr (xm Z Z Z (xc Z (op_nilSlice Z underlying54 (tm Z) fun b hb => ?_))))))))
 refine xe (aw_cond (b := b) (tm Z) (fun hb2 => ?_) (fun hb2 => ?_))
 ·have hs : s = [] := List.map_eq_nil_iff.1 (hb hb2)
  subst hs
  refine xr (xa (.sl .full 2 (([] : List api.Held).map api.Held.av)) Z (pu_assign Z (AEv.nil 2 (by decide))) (xe (aw_claim 2 (tm Z) fun t => (aw_ret ?_))))
  exact ⟨[.sl (.own t) 2 (([] : List api.Held).map api.Held.av)], _, [(t, .spare)], ⟨tm Z, trivial⟩, AV.Le.refl _, Weak.mkL [0] (by decide) ⟨⟨_, Z, Z⟩, trivial⟩ trivial, ⟨t, Z, Z⟩⟩
 ·refine aw_skip (xr (xc Z (op_buildSlice (xs := ([] : List api.Held).map api.Held.av) (aparts := []) Z underlying54 sizeOf61 zeroValue61 (by decide) (by decide) trivial Z Z Z (xm Z Z Z (xc Z (op_appendFM Z underlying54 underlying54 (.inl Z) typeInfo61 Z Z Z (by decide) (tm Z) (given_sl (tm Z)) c ?_))))))
  intro t
  refine xm Z Z Z (xe (aw_ret ?_))
  exact ⟨[.sl (.own t) 2 (([] ++ s).map api.Held.av)], _, [(t, .spare)], ⟨tm Z, trivial⟩, AV.Le.refl _, Weak.mkL [0] (by decide) ⟨⟨_, Z, Z⟩, trivial⟩ trivial, ⟨t, Z, Z⟩⟩

theorem conn.Free.ok {c_ : api.Conn} {durable : Int} {r : api.Conn} (h : conn.Free c_ durable = some r) : Go.Lift.Spec prog 28 [.agg (api.Conn.ct .no .no c_), .i durable] [] (fun v H => ∃ n0, v = .agg [.i r.Born, .i r.Tenant, .str r.In.Rest, .sl .no 1 (r.In.Args.map AV.str), .i r.In.Left, .i r.In.Size, .bool r.In.Body, .i r.In.Need, .i r.In.Dead, .i r.Asked, .sl (.own n0) 2 (r.Held.map api.Held.av), .str r.Out, .i r.Taken, .bool r.Shut, .bool r.Closed] ∧ H = [(n0, .spare)]) := by
 unfold conn.Free at h
 refine Go.Lift.Spec.of_body (rs := [.cell 4 56]) func28 Z Z (nb Z) Z (xr (xc Z (op_box (cs := (api.Conn.ct .no .no c_)) (v := .agg (api.Conn.ct .no .no c_)) Z (tm Z) Z Z ?_)))
 intro p60
 refine xc Z (op_alloc (cs := [.i 0, .i 0, .str ([] : List UInt8), .sl .full 1 (([] : List (List UInt8)).map AV.str), .i 0, .i 0, .bool false, .i 0, .i 0, .i 0, .sl .full 2 (([] : List api.Held).map api.Held.av), .str ([] : List UInt8), .i 0, .bool false, .bool false]) (v := .agg [.i 0, .i 0, .str ([] : List UInt8), .sl .full 1 (([] : List (List UInt8)).map AV.str), .i 0, .i 0, .bool false, .i 0, .i 0, .i 0, .sl .full 2 (([] : List api.Held).map api.Held.av), .str ([] : List UInt8), .i 0, .bool false, .bool false]) Z zeroValue56 Z Z Z ?_)
 intro p61
 refine xe (aw_scope (xr (xa (.i 0) Z (pu_assign Z (AEv.int _ _)) (xe (aw_seq (aw_label ?_))))))
 obtain ⟨s83, s83e, h84⟩ := bind_some h
 refine aw_meet (ν := Unit) (fun v => [(2, .ptr p60 0), (4, .ptr p61 0), (5, .i s83.1)]) (fun v => [(p60, .cells (api.Conn.ct .no .no { c_ with Out := s83.2 })), (p61, .cells [.i 0, .i 0, .str ([] : List UInt8), .sl .full 1 (([] : List (List UInt8)).map AV.str), .i 0, .i 0, .bool false, .i 0, .i 0, .i 0, .sl .full 2 (([] : List api.Held).map api.Held.av), .str ([] : List UInt8), .i 0, .bool false, .bool false])]) ?_ ?_
 ·have h := s83e
  refine xr (xa (.ptr p60 10) Z (fa Z underlying56 Z sizeOf54 Z Z Z) (xc Z (op_load1 (i := 1) Z isAgg54 (tm Z) Z Z (xa (.i (c_.Held.length : Int)) Z (pu_lenM Z underlying54 (tm Z)) (xa (.i 0) Z (pu_move Z (AEv.int _ _)) (xe (aw_block (aw_while (σ := conn.Free.S0) (ν := Unit) (conn.Free.body0 c_ durable) (fun s98 v => [(1, .i durable), (2, .ptr p60 0), (4, .ptr p61 0), (5, .i s98.n), (9, .sl .no 2 (c_.Held.map api.Held.av)), (10, .i (c_.Held.length : Int)), (11, .i s98.n)]) (fun s98 v => [(p60, .cells (api.Conn.ct .no .no { c_ with Out := s98.c })), (p61, .cells [.i 0, .i 0, .str ([] : List UInt8), .sl .full 1 (([] : List (List UInt8)).map AV.str), .i 0, .i 0, .bool false, .i 0, .i 0, .i 0, .sl .full 2 (([] : List api.Held).map api.Held.av), .str ([] : List UInt8), .i 0, .bool false, .bool false])]) ⟨0, c_.Out⟩ () _ h (Weak.mkL [1, 0] (by decide) ⟨⟨_, Z, cr, Z⟩, ⟨_, Z, cr, Z⟩, trivial⟩ ⟨tm Z, tm Z, tm Z, tm Z, tm Z, tm Z, tm Z, trivial⟩) ?_))))))))
  rintro s98 _ x100 h hx99
  unfold conn.Free.body0 at h
  refine xr (xa (.bool (decide (s98.n < (c_.Held.length : Int)))) Z (pu_int (v := .bool (decide (s98.n < (c_.Held.length : Int)))) Z Z (tm Z) (tm Z) Z) (xe (aw_seq (aw_cond (b := decide (s98.n < (c_.Held.length : Int))) (tm Z) (fun hb106 => ?_) (fun hb106 => ?_)))))
  ·replace h := ite_t (dec_t hb106) h
   refine aw_skip (aw_seq (aw_block (aw_seq (aw_region ?_))))
   obtain ⟨c102, h⟩ := need_of h
   refine xa (.vptr [.i (ix c_.Held s98.n).Need, .str (ix c_.Held s98.n).S]) Z (pu_indexAddrM Z underlying54 sizeOf61 (tm Z) (tm Z) c102 Z) (xc Z (op_loadVN Z isAgg61 sizeOf61 (tm Z) (nb Z) Z (xc Z (op_alloc (cs := [.i 0, .str ([] : List UInt8)]) (v := .agg [.i 0, .str ([] : List UInt8)]) Z zeroValue61 Z Z Z ?_))))
   intro p103
   refine ac0 Z Z (op_store (i := 0) (cs' := [.i (ix c_.Held s98.n).Need, .str (ix c_.Held s98.n).S]) Z sizeOf61 (tm Z) (v := .agg [.i (ix c_.Held s98.n).Need, .str (ix c_.Held s98.n).S]) (tm Z) Z Z Z (nb Z) Z (xe (aw_block (xr (xa (.ptr p103 0) Z (fa Z underlying61 Z sizeOf3 Z Z Z) (xc Z (op_load1 (i := 0) Z isAgg3 (tm Z) Z Z (xm Z Z Z (xa (.bool (decide (durable < (ix c_.Held s98.n).Need))) Z (pu_int (v := .bool (decide (durable < (ix c_.Held s98.n).Need))) Z Z (tm Z) (tm Z) Z) (xm Z Z Z ?_))))))))))
   refine xe (aw_cond (b := decide (durable < (ix c_.Held s98.n).Need)) (tm Z) (fun hb105 => ?_) (fun hb105 => ?_))
   ·replace h := ite_t (dec_t hb105) h
    refine aw_exit ?_
    obtain rfl := some_of h
    have h := congrArg some (hx99 _ rfl)
    obtain rfl := some_of h
    exact ⟨(), Weak.mkL [1, 2] (by decide) ⟨⟨_, Z, cr, Z⟩, ⟨_, Z, cr, Z⟩, trivial⟩ ⟨tm Z, tm Z, tm Z, trivial⟩⟩
   ·replace h := ite_f (dec_f hb105) h
    refine xr (xa (.ptr p60 11) Z (fa Z underlying56 Z sizeOf9 Z Z Z) (xc Z (op_load1 (i := 1) Z isAgg9 (tm Z) Z Z (xa (.ptr p103 1) Z (fa Z underlying61 Z sizeOf9 Z Z Z) (xc Z (op_load1 (i := 0) Z isAgg9 (tm Z) Z Z ?_))))))
    obtain ⟨c104, h⟩ := need_of h
    refine xa (.str (s98.c ++ (ix c_.Held s98.n).S)) Z (pu_strAdd Z (tm Z) (tm Z) c104) (xa (.ptr p60 11) Z (fa Z underlying56 Z sizeOf9 Z Z Z) (ac0 Z Z (op_store (i := 1) (cs' := (api.Conn.ct .no .no { c_ with Out := s98.c ++ (ix c_.Held s98.n).S })) Z sizeOf9 (tm Z) (v := .str (s98.c ++ (ix c_.Held s98.n).S)) (tm Z) Z Z Z (nb Z) Z (xe (aw_region (xm Z Z Z (xa (.i (IntKind.wrap .i64 (s98.n + 1))) Z (pu_int (v := .i (IntKind.wrap .i64 (s98.n + 1))) Z Z (tm Z) (AEv.int _ _) Z) (xm Z Z Z (xe (aw_region ?_))))))))))
    refine xa (.i (IntKind.wrap .i64 (s98.n + 1))) Z (pu_int (v := .i (IntKind.wrap .i64 (s98.n + 1))) Z Z (tm Z) (AEv.int _ _) Z) (xm Z Z Z (xe ?_))
    obtain rfl := some_of h
    exact ⟨_, (), Z, Weak.mkL [1, 2] (by decide) ⟨⟨_, Z, ⟨vr, vr, vr, vr, vr, vr, vr, vr, vr, vr, vr, vr, vr, vr, vr, trivial⟩, Z⟩, ⟨_, Z, cr, Z⟩, trivial⟩ ⟨tm Z, tm Z, tm Z, (AEv.le (tm Z) vr), tm Z, tm Z, (AEv.le (tm Z) vr), trivial⟩⟩
  ·replace h := ite_f (dec_f hb106) h
   refine aw_exit ?_
   obtain rfl := some_of h
   have h := congrArg some (hx99 _ rfl)
   obtain rfl := some_of h
   exact ⟨(), Weak.mkL [0, 1] (by decide) ⟨⟨_, Z, cr, Z⟩, ⟨_, Z, cr, Z⟩, trivial⟩ ⟨tm Z, tm Z, tm Z, trivial⟩⟩
 ·intro _
  have h := h84
  refine xr (xa (.ptr p60 10) Z (fa Z underlying56 Z sizeOf54 Z Z Z) (xc Z (op_load1 (i := 0) Z isAgg54 (tm Z) Z Z (xm Z Z Z ?_))))
  obtain ⟨c107, h⟩ := need_of h
  refine xa (.sl .no 2 ((sub c_.Held s83.1 (c_.Held.length : Int)).map api.Held.av)) Z (pu_sliceM Z underlying54 sizeOf61 (tm Z) ⟨_, (tm Z)⟩ Z c107) ?_
  obtain ⟨r108, r108e, h⟩ := bind_some h
  refine xc Z (op_call (vs := [.sl .no 2 ((sub c_.Held s83.1 (c_.Held.length : Int)).map api.Held.av)]) (H := []) Z call61 ⟨(tm Z), trivial⟩ (List.Perm.refl _) (slices.Clone_api_Held.ok r108e) ?_)
  rintro _ _ ⟨t109, rfl, rfl⟩
  refine xa (.ptr p60 10) Z (fa Z underlying56 Z sizeOf54 Z Z Z) (ac0 Z Z (op_store (i := 1) (cs' := (api.Conn.ct .no (.own t109) { c_ with Held := r108, Out := s83.2 })) Z sizeOf54 (tm Z) (v := .sl (.own t109) 2 (r108.map api.Held.av)) (tm Z) Z Z Z (nb Z) Z (xe ?_)))
  obtain ⟨s113, s113e, h114⟩ := letO_of h
  refine aw_meet (ν := Unit) (fun v => [(2, .ptr p60 0), (4, .ptr p61 0)]) (fun v => [(p60, .cells (api.Conn.ct .no (.own t109) { c_ with Held := r108, Out := s83.2, Closed := s113 })), (p61, .cells [.i 0, .i 0, .str ([] : List UInt8), .sl .full 1 (([] : List (List UInt8)).map AV.str), .i 0, .i 0, .bool false, .i 0, .i 0, .i 0, .sl .full 2 (([] : List api.Held).map api.Held.av), .str ([] : List UInt8), .i 0, .bool false, .bool false]), (t109, .spare)]) ?_ ?_
  ·have h := s113e.symm
   refine aw_region (xa (.ptr p60 14) Z (fa Z underlying56 Z sizeOf4 Z Z Z) (xc Z (op_load1 (i := 1) Z isAgg4 (tm Z) Z Z (xm Z Z Z ?_))))
   rcases Bool.eq_false_or_eq_true c_.Closed with hb116 | hb116
   ·replace h := ite_t hb116 h
    refine aops_known 37 Z hb116 (xn Z Z Z (xn Z Z Z (xn Z Z Z (xv Z Z (xv Z Z (xv Z Z (xn Z Z Z (xn Z Z Z (xv Z Z ?_)))))))))
    refine xv Z Z (xv Z Z (xv Z Z (xn Z Z Z (xa (.bool true) Z (pu_pick (b := true) Z (tm Z) (fun _ => (AEv.bool _)) (fun h => nomatch h)) (xa (.ptr p60 14) Z (fa Z underlying56 Z sizeOf4 Z Z Z) (ac0 Z Z (op_store (i := 1) (cs' := (api.Conn.ct .no (.own t109) { c_ with Held := r108, Out := s83.2, Closed := true })) Z sizeOf4 (tm Z) (v := .bool true) (tm Z) Z Z Z (nb Z) Z (xe ?_))))))))
    subst h
    exact ⟨(), Weak.mkL [1, 2, 0] (by decide) ⟨⟨_, Z, cr, Z⟩, ⟨_, Z, cr, Z⟩, ⟨_, Z, Z⟩, trivial⟩ ⟨tm Z, tm Z, trivial⟩⟩
   ·replace h := ite_fb hb116 h
    refine aops_known 37 Z hb116 (xp (.ptr p60 13) Z Z (fa Z underlying56 Z sizeOf4 Z Z Z) (xg Z Z (op_load1 (i := 1) Z isAgg4 (tm Z) Z Z (xq Z Z Z Z ?_))))
    rcases Bool.eq_false_or_eq_true c_.Shut with hb117 | hb117
    ·replace h := ite_t hb117 h
     refine aops_known 40 Z hb117 (xp (.ptr p60 9) Z Z (fa Z underlying56 Z sizeOf3 Z Z Z) (xg Z Z (op_load1 (i := 1) Z isAgg3 (tm Z) Z Z (xp (.bool (decide (c_.Asked = 0))) Z Z (pu_int (v := .bool (decide (c_.Asked = 0))) Z Z (tm Z) (AEv.int _ _) Z) (xp (.bool (decide (c_.Asked = 0))) Z Z (pu_pick (b := true) Z (tm Z) (fun _ => (tm Z)) (fun h => nomatch h)) (xq Z Z Z Z ?_))))))
     rcases Bool.eq_false_or_eq_true (decide (c_.Asked = 0)) with hb118 | hb118
     ·replace h := ite_t (dec_t hb118) h
      refine aops_known 45 Z hb118 (xp (.ptr p60 10) Z Z (fa Z underlying56 Z sizeOf54 Z Z Z) (xg Z Z (op_load1 (i := 1) Z isAgg54 (tm Z) Z Z (xp (.i (r108.length : Int)) Z Z (pu_lenM Z underlying54 (tm Z)) (xp (.bool (decide ((r108.length : Int) = 0))) Z Z (pu_int (v := .bool (decide ((r108.length : Int) = 0))) Z Z (tm Z) (AEv.int _ _) Z) (xp (.bool (decide ((r108.length : Int) = 0))) Z Z (pu_pick (b := true) Z (tm Z) (fun _ => (tm Z)) (fun h => nomatch h)) (xa (.bool (decide ((r108.length : Int) = 0))) Z (pu_pick (b := false) Z (tm Z) (fun h => nomatch h) (fun _ => (tm Z))) (xa (.ptr p60 14) Z (fa Z underlying56 Z sizeOf4 Z Z Z) (ac0 Z Z (op_store (i := 1) (cs' := (api.Conn.ct .no (.own t109) { c_ with Held := r108, Out := s83.2, Closed := decide ((r108.length : Int) = 0) })) Z sizeOf4 (tm Z) (v := .bool (decide ((r108.length : Int) = 0))) (tm Z) Z Z Z (nb Z) Z (xe ?_)))))))))))
      subst h
      exact ⟨(), Weak.mkL [1, 2, 0] (by decide) ⟨⟨_, Z, ⟨vr, vr, vr, vr, vr, vr, vr, vr, vr, vr, vr, vr, vr, vr, vr, trivial⟩, Z⟩, ⟨_, Z, cr, Z⟩, ⟨_, Z, Z⟩, trivial⟩ ⟨tm Z, tm Z, trivial⟩⟩
     ·replace h := ite_f (dec_f hb118) h
      refine aops_known 45 Z hb118 (xn Z Z Z (xn Z Z Z (xn Z Z Z (xn Z Z Z (xp (.bool false) Z Z (pu_pick (b := false) Z (tm Z) (fun h => nomatch h) (fun _ => (AEv.bool _))) (xa (.bool false) Z (pu_pick (b := false) Z (tm Z) (fun h => nomatch h) (fun _ => (tm Z))) (xa (.ptr p60 14) Z (fa Z underlying56 Z sizeOf4 Z Z Z) (ac0 Z Z (op_store (i := 1) (cs' := (api.Conn.ct .no (.own t109) { c_ with Held := r108, Out := s83.2, Closed := false })) Z sizeOf4 (tm Z) (v := .bool false) (tm Z) Z Z Z (nb Z) Z (xe ?_))))))))))
      subst h
      exact ⟨(), Weak.mkL [1, 2, 0] (by decide) ⟨⟨_, Z, cr, Z⟩, ⟨_, Z, cr, Z⟩, ⟨_, Z, Z⟩, trivial⟩ ⟨tm Z, tm Z, trivial⟩⟩
    ·replace h := ite_fb hb117 h
     refine aops_known 40 Z hb117 (xn Z Z Z (xn Z Z Z (xn Z Z Z (xp (.bool false) Z Z (pu_pick (b := false) Z (tm Z) (fun h => nomatch h) (fun _ => (AEv.bool _))) (xq Z Z Z Z (xn Z Z Z (xn Z Z Z (xn Z Z Z (xn Z Z Z ?_)))))))))
     refine xp (.bool false) Z Z (pu_pick (b := false) Z (tm Z) (fun h => nomatch h) (fun _ => (AEv.bool _))) (xa (.bool false) Z (pu_pick (b := false) Z (tm Z) (fun h => nomatch h) (fun _ => (tm Z))) (xa (.ptr p60 14) Z (fa Z underlying56 Z sizeOf4 Z Z Z) (ac0 Z Z (op_store (i := 1) (cs' := (api.Conn.ct .no (.own t109) { c_ with Held := r108, Out := s83.2, Closed := false })) Z sizeOf4 (tm Z) (v := .bool false) (tm Z) Z Z Z (nb Z) Z (xe ?_)))))
     subst h
     exact ⟨(), Weak.mkL [1, 2, 0] (by decide) ⟨⟨_, Z, cr, Z⟩, ⟨_, Z, cr, Z⟩, ⟨_, Z, Z⟩, trivial⟩ ⟨tm Z, tm Z, trivial⟩⟩
  ·intro _
   have h := h114
   refine xr (xc Z (op_loadN (i := 0) Z isAgg56 sizeOf56 (tm Z) Z (nb Z) Z (ac0 Z Z (op_store (i := 1) (cs' := (api.Conn.ct .no (.own t109) { c_ with Held := r108, Out := s83.2, Closed := s113 })) Z sizeOf56 (tm Z) (v := .agg (api.Conn.ct .no (.own t109) { c_ with Held := r108, Out := s83.2, Closed := s113 })) (tm Z) Z Z Z (nb Z) Z (xe (aw_ret ?_))))))
   obtain rfl := some_of h
   exact ⟨[.agg (api.Conn.ct .no (.own t109) { c_ with Held := r108, Out := s83.2, Closed := s113 })], _, [(t109, .spare)], ⟨(CellOk.agg 1 (tm Z) Z isAgg56 sizeOf56 (nb Z) Z), trivial⟩, vr, Weak.mkL [2] (by decide) ⟨⟨_, Z, Z⟩, trivial⟩ trivial, ⟨t109, Z, Z⟩⟩

theorem conn.Pending.ok {c_ : api.Conn} {r : Int} (h : conn.Pending c_ = some r) : Go.Lift.Spec prog 30 [.agg (api.Conn.ct .no .no c_)] [] (fun v H => v = .i r ∧ H = []) := by
 unfold conn.Pending at h
 refine Go.Lift.Spec.of_body (rs := [.tmp 2]) func30 Z Z (nb Z) Z (xr (xc Z (op_box (cs := (api.Conn.ct .no .no c_)) (v := .agg (api.Conn.ct .no .no c_)) Z (tm Z) Z Z ?_)))
 intro p35
 refine xa (.i 0) Z (pu_assign Z (AEv.int _ _)) (xe (xr (xa (.ptr p35 11) Z (fa Z underlying56 Z sizeOf9 Z Z Z) (xc Z (op_load1 (i := 0) Z isAgg9 (tm Z) Z Z (xa (.i (c_.Out.length : Int)) Z (pu_strLen Z underlying9 (tm Z)) (xm Z Z Z (xe ?_))))))))
 obtain ⟨s51, s51e, h52⟩ := bind_some h
 refine aw_meet (ν := Unit) (fun v => [(3, .i s51)]) (fun v => []) ?_ ?_
 ·have h := s51e
  refine xr (xa (.ptr p35 10) Z (fa Z underlying56 Z sizeOf54 Z Z Z) (xc Z (op_load1 (i := 0) Z isAgg54 (tm Z) Z Z (xa (.i (c_.Held.length : Int)) Z (pu_lenM Z underlying54 (tm Z)) (xa (.i 0) Z (pu_move Z (AEv.int _ _)) (xe (aw_block (aw_while (σ := conn.Pending.S0) (ν := Unit) (conn.Pending.body0 c_) (fun s62 v => [(3, .i s62.n), (10, .sl .no 2 (c_.Held.map api.Held.av)), (11, .i (c_.Held.length : Int)), (12, .i s62.t12)]) (fun s62 v => []) ⟨(c_.Out.length : Int), 0⟩ () _ h (Weak.mkL [] (by decide) trivial ⟨tm Z, tm Z, tm Z, tm Z, trivial⟩) ?_))))))))
  rintro s62 _ x64 h hx63
  unfold conn.Pending.body0 at h
  refine xr (xa (.bool (decide (s62.t12 < (c_.Held.length : Int)))) Z (pu_int (v := .bool (decide (s62.t12 < (c_.Held.length : Int)))) Z Z (tm Z) (tm Z) Z) (xe (aw_seq (aw_cond (b := decide (s62.t12 < (c_.Held.length : Int))) (tm Z) (fun hb68 => ?_) (fun hb68 => ?_)))))
  ·replace h := ite_t (dec_t hb68) h
   refine aw_skip (aw_seq (aw_block (aw_seq (aw_region ?_))))
   obtain ⟨c66, h⟩ := need_of h
   refine xa (.vptr [.i (ix c_.Held s62.t12).Need, .str (ix c_.Held s62.t12).S]) Z (pu_indexAddrM Z underlying54 sizeOf61 (tm Z) (tm Z) c66 Z) (xc Z (op_loadVN Z isAgg61 sizeOf61 (tm Z) (nb Z) Z (xc Z (op_alloc (cs := [.i 0, .str ([] : List UInt8)]) (v := .agg [.i 0, .str ([] : List UInt8)]) Z zeroValue61 Z Z Z ?_))))
   intro p67
   refine ac0 Z Z (op_store (i := 0) (cs' := [.i (ix c_.Held s62.t12).Need, .str (ix c_.Held s62.t12).S]) Z sizeOf61 (tm Z) (v := .agg [.i (ix c_.Held s62.t12).Need, .str (ix c_.Held s62.t12).S]) (tm Z) Z Z Z (nb Z) Z (xe (aw_region (xm Z Z Z (xa (.ptr p67 1) Z (fa Z underlying61 Z sizeOf9 Z Z Z) (xc Z (op_load1 (i := 0) Z isAgg9 (tm Z) Z Z (xa (.i ((ix c_.Held s62.t12).S.length : Int)) Z (pu_strLen Z underlying9 (tm Z)) (xa (.i (IntKind.wrap .i64 (s62.n + ((ix c_.Held s62.t12).S.length : Int)))) Z (pu_int (v := .i (IntKind.wrap .i64 (s62.n + ((ix c_.Held s62.t12).S.length : Int)))) Z Z (tm Z) (tm Z) Z) (xm Z Z Z (xe ?_)))))))))))
   refine aw_region (xa (.i (IntKind.wrap .i64 (s62.t12 + 1))) Z (pu_int (v := .i (IntKind.wrap .i64 (s62.t12 + 1))) Z Z (tm Z) (AEv.int _ _) Z) (xm Z Z Z (xe ?_)))
   obtain rfl := some_of h
   exact ⟨_, (), Z, Weak.mkL [] (by decide) trivial ⟨(AEv.le (tm Z) vr), tm Z, tm Z, (AEv.le (tm Z) vr), trivial⟩⟩
  ·replace h := ite_f (dec_f hb68) h
   refine aw_exit ?_
   obtain rfl := some_of h
   have h := congrArg some (hx63 _ rfl)
   obtain rfl := some_of h
   exact ⟨(), Weak.mkL [] (by decide) trivial ⟨tm Z, trivial⟩⟩
 ·intro _
  have h := h52
  refine xr (xm Z Z Z (xm Z Z Z (xe (aw_ret ?_))))
  obtain rfl := some_of h
  exact ⟨[.i s51], _, [], ⟨(tm Z), trivial⟩, vr, Weak.mkL [] (by decide) trivial trivial, ⟨Z, Z⟩⟩

theorem conn.Say.ok {c_ : api.Conn} {s_ : List UInt8} {need_ : Int} {durable : Int} {t_ : api.Tenant} {r : api.Conn} (h : conn.Say c_ s_ need_ durable t_ = some r) : Go.Lift.Spec prog 27 [.agg (api.Conn.ct .no .no c_), .str s_, .i need_, .i durable, .agg (api.Tenant.ct t_)] [] (fun v H => v = .agg [.i r.Born, .i r.Tenant, .str r.In.Rest, .sl .no 1 (r.In.Args.map AV.str), .i r.In.Left, .i r.In.Size, .bool r.In.Body, .i r.In.Need, .i r.In.Dead, .i r.Asked, .sl .no 2 (r.Held.map api.Held.av), .str r.Out, .i r.Taken, .bool r.Shut, .bool r.Closed] ∧ H = []) := by
 unfold conn.Say at h
 refine Go.Lift.Spec.of_body (rs := [.cell 10 56]) func27 Z Z (nb Z) Z (xr (xc Z (op_box (cs := (api.Conn.ct .no .no c_)) (v := .agg (api.Conn.ct .no .no c_)) Z (tm Z) Z Z ?_)))
 intro p20
 refine xc Z (op_box (cs := (api.Tenant.ct t_)) (v := .agg (api.Tenant.ct t_)) Z (tm Z) Z Z ?_)
 intro p21
 refine xc Z (op_alloc (cs := [.i 0, .i 0, .str ([] : List UInt8), .sl .full 1 (([] : List (List UInt8)).map AV.str), .i 0, .i 0, .bool false, .i 0, .i 0, .i 0, .sl .full 2 (([] : List api.Held).map api.Held.av), .str ([] : List UInt8), .i 0, .bool false, .bool false]) (v := .agg [.i 0, .i 0, .str ([] : List UInt8), .sl .full 1 (([] : List (List UInt8)).map AV.str), .i 0, .i 0, .bool false, .i 0, .i 0, .i 0, .sl .full 2 (([] : List api.Held).map api.Held.av), .str ([] : List UInt8), .i 0, .bool false, .bool false]) Z zeroValue56 Z Z Z ?_)
 intro p22
 refine xe (aw_seq (xr (xa (.ptr p20 14) Z (fa Z underlying56 Z sizeOf4 Z Z Z) (xc Z (op_load1 (i := 2) Z isAgg4 (tm Z) Z Z (xe (aw_cond (b := c_.Closed) (tm Z) (fun hb38 => ?_) (fun hb38 => ?_))))))))
 ·replace h := ite_t hb38 h
  refine xr (xc Z (op_loadN (i := 2) Z isAgg56 sizeOf56 (tm Z) Z (nb Z) Z (ac0 Z Z (op_store (i := 0) (cs' := (api.Conn.ct .no .no c_)) Z sizeOf56 (tm Z) (v := .agg (api.Conn.ct .no .no c_)) (tm Z) Z Z Z (nb Z) Z (xe (aw_ret ?_))))))
  obtain rfl := some_of h
  exact ⟨[.agg (api.Conn.ct .no .no c_)], _, [], ⟨(CellOk.agg 0 (tm Z) Z isAgg56 sizeOf56 (nb Z) Z), trivial⟩, vr, Weak.mkL [] (by decide) trivial trivial, ⟨Z, Z⟩⟩
 ·replace h := ite_fb hb38 h
  refine aw_skip (xr (xa (.ptr p20 10) Z (fa Z underlying56 Z sizeOf54 Z Z Z) (xc Z (op_load1 (i := 2) Z isAgg54 (tm Z) Z Z ?_))))
  obtain ⟨r23, r23e, h⟩ := bind_some h
  refine xc Z (op_call (vs := [.sl .no 2 (c_.Held.map api.Held.av)]) (H := []) Z call61 ⟨(tm Z), trivial⟩ (List.Perm.refl _) (slices.Clone_api_Held.ok r23e) ?_)
  rintro _ _ ⟨t24, rfl, rfl⟩
  refine xm Z Z Z (xm Z Z Z (xa (.agg [.i need_, .str s_]) Z (pu_build (zs := [.i 0, .str ([] : List UInt8)]) (szs := [1, 1]) (aparts := [(0, .i need_), (1, .str s_)]) (cs := [.i need_, .str s_]) Z underlying61 zeroValue61 Z ⟨sizeOf3, sizeOf9, trivial⟩ ⟨Z, (tm Z), ⟨Z, (tm Z), trivial⟩⟩ Z) (xc Z (op_buildSlice (xs := ([({ Need := need_, S := s_ } : api.Held)] : List api.Held).map api.Held.av) (aparts := [(0, .agg [.i need_, .str s_])]) Z underlying54 sizeOf61 zeroValue61 (by decide) (by decide) ⟨Z, (tm Z), trivial⟩ Z Z Z ?_))))
  obtain ⟨c25, h⟩ := need_of h
  refine xc Z (op_appendOM (q := 0) Z underlying54 underlying54 (.inl Z) typeInfo61 Z Z Z (by decide) (tm Z) Z (given_sl (tm Z)) c25 ?_)
  intro t26
  refine xa (.ptr p20 10) Z (fa Z underlying56 Z sizeOf54 Z Z Z) (ac0 Z Z (op_store (i := 3) (cs' := (api.Conn.ct .no (.own t26) { c_ with Held := r23 ++ [({ Need := need_, S := s_ } : api.Held)] })) Z sizeOf54 (tm Z) (v := .sl (.own t26) 2 ((r23 ++ [({ Need := need_, S := s_ } : api.Held)]).map api.Held.av)) (tm Z) Z Z Z (nb Z) Z (xe (xr (xc Z (op_loadN (i := 3) Z isAgg56 sizeOf56 (tm Z) Z (nb Z) Z (xm Z Z Z ?_)))))))
  obtain ⟨r27, r27e, h⟩ := bind_some h
  refine xc Z (op_call (vs := [.agg (api.Conn.ct .no .no { c_ with Held := r23 ++ [({ Need := need_, S := s_ } : api.Held)] }), .i durable]) (H := []) Z call28 ⟨(AEv.le (tm Z) (AV.Le.agg ⟨vr, vr, vr, vr, vr, vr, vr, vr, vr, vr, (AV.Le.forget _ _ _), vr, vr, vr, vr, trivial⟩)), (tm Z), trivial⟩ (List.Perm.refl _) (conn.Free.ok r27e) ?_)
  rintro _ _ ⟨t28, rfl, rfl⟩
  refine ac0 Z Z (op_store (i := 4) (cs' := (api.Conn.ct .no (.own t28) r27)) Z sizeOf56 (tm Z) (v := .agg (api.Conn.ct .no (.own t28) r27)) (tm Z) Z Z Z (nb Z) Z (xe ?_))
  obtain ⟨s31, s31e, h33⟩ := bind_some h
  refine aw_meet (ν := Nat) (fun v => [(5, .ptr p20 0), (10, .ptr p22 0)]) (fun v => [(p20, .cells (api.Conn.ct .no (.own v) { r27 with Held := s31.1, Out := s31.2.1, Closed := s31.2.2 })), (p22, .cells [.i 0, .i 0, .str ([] : List UInt8), .sl .full 1 (([] : List (List UInt8)).map AV.str), .i 0, .i 0, .bool false, .i 0, .i 0, .i 0, .sl .full 2 (([] : List api.Held).map api.Held.av), .str ([] : List UInt8), .i 0, .bool false, .bool false]), (v, .spare)]) ?_ ?_
  ·have h := s31e
   refine aw_upd (aw_seq ?_)
   obtain ⟨r35, r35e, h⟩ := bind_some h
   refine aw_planR (by decide +kernel) [[(4, 0, false)], [], [], [(3, 0, false)], []] [[], [], [], [], []] [[[(t28, .spare)]], [[(t26, .spare)]], [[(p22, .cells [.i 0, .i 0, .str ([] : List UInt8), .sl .full 1 (([] : List (List UInt8)).map AV.str), .i 0, .i 0, .bool false, .i 0, .i 0, .i 0, .sl .full 2 (([] : List api.Held).map api.Held.av), .str ([] : List UInt8), .i 0, .bool false, .bool false])]], [[(p21, .cells (api.Tenant.ct t_))]], [[(p20, .cells (api.Conn.ct .no (.own t28) r27))]]] [.agg (api.Conn.ct .no (.own t28) r27), .i r35, .ptr p21 6, .i t_.Out, .bool (decide (t_.Out < r35))] (by decide +kernel) Z Z ?_ ?_
   ·exact ⟨stepg_plain Z (op_loadN (i := 0) Z isAgg56 sizeOf56 (tm Z) Z (nb Z) Z ⟨Z, Z⟩), stepg_plain Z (op_call (vs := [.agg (api.Conn.ct .no .no r27)]) (H := []) Z call30 ⟨(AEv.le (tm Z) (AV.Le.agg ⟨vr, vr, vr, vr, vr, vr, vr, vr, vr, vr, (AV.Le.forget _ _ _), vr, vr, vr, vr, trivial⟩)), trivial⟩ (R := []) (List.Perm.refl _) (conn.Pending.ok r35e) (by rintro _ _ ⟨rfl, rfl⟩; exact ⟨Z, Z⟩)), yp Z (fa Z underlying53 Z sizeOf3 Z Z Z), stepg_plain Z (op_load1 (i := 0) Z isAgg3 (tm Z) Z Z ⟨Z, Z⟩), yp Z (pu_int (v := .bool (decide (t_.Out < r35))) Z Z (tm Z) (tm Z) Z), trivial⟩
   refine aw_cond (b := decide (t_.Out < r35)) (tm Z) (fun hb37 => ?_) (fun hb37 => ?_)
   ·replace h := ite_t (dec_t hb37) h
    refine aw_region (xa (.ptr p20 10) Z (fa Z underlying56 Z sizeOf54 Z Z Z) (ac0 Z Z (op_store (i := 4) (cs' := (api.Conn.ct .no .full { r27 with Held := ([] : List api.Held) })) Z sizeOf54 (tm Z) (v := .sl .full 2 (([] : List api.Held).map api.Held.av)) (AEv.nil 2 (by decide)) Z Z Z (nb Z) Z (xa (.ptr p20 11) Z (fa Z underlying56 Z sizeOf9 Z Z Z) (ac0 Z Z (op_store (i := 4) (cs' := (api.Conn.ct .no .full { r27 with Held := ([] : List api.Held), Out := ([] : List UInt8) })) Z sizeOf9 (tm Z) (v := .str ([] : List UInt8)) (AEv.const Z) Z Z Z (nb Z) Z (xa (.ptr p20 14) Z (fa Z underlying56 Z sizeOf4 Z Z Z) (ac0 Z Z (op_store (i := 4) (cs' := (api.Conn.ct .no .full { r27 with Held := ([] : List api.Held), Out := ([] : List UInt8), Closed := true })) Z sizeOf4 (tm Z) (v := .bool true) (AEv.bool _) Z Z Z (nb Z) Z (xe (upd_claimCell 4 10 Z Z fun t36 => (upd_done ?_))))))))))))
    obtain rfl := some_of h
    exact ⟨t36, Weak.mkL [5, 3, 0] (by decide) ⟨⟨_, Z, cr, Z⟩, ⟨_, Z, cr, Z⟩, ⟨_, Z, Z⟩, trivial⟩ ⟨tm Z, tm Z, trivial⟩⟩
   ·replace h := ite_f (dec_f hb37) h
    refine aw_skip (upd_done ?_)
    obtain rfl := some_of h
    exact ⟨t28, Weak.mkL [4, 2, 0] (by decide) ⟨⟨_, Z, cr, Z⟩, ⟨_, Z, cr, Z⟩, ⟨_, Z, Z⟩, trivial⟩ ⟨tm Z, tm Z, trivial⟩⟩
  ·intro n32
   have h := h33
   refine xr (xc Z (op_loadN (i := 0) Z isAgg56 sizeOf56 (tm Z) Z (nb Z) Z (ac0 Z Z (op_store (i := 1) (cs' := (api.Conn.ct .no (.own n32) { r27 with Held := s31.1, Out := s31.2.1, Closed := s31.2.2 })) Z sizeOf56 (tm Z) (v := .agg (api.Conn.ct .no (.own n32) { r27 with Held := s31.1, Out := s31.2.1, Closed := s31.2.2 })) (tm Z) Z Z Z (nb Z) Z (xe (aw_ret ?_))))))
   obtain rfl := some_of h
   exact ⟨[.agg (api.Conn.ct .no (.own n32) { r27 with Held := s31.1, Out := s31.2.1, Closed := s31.2.2 })], .agg (api.Conn.ct .no .no { r27 with Held := s31.1, Out := s31.2.1, Closed := s31.2.2 }), [], ⟨(CellOk.agg 1 (tm Z) Z isAgg56 sizeOf56 (nb Z) Z), trivial⟩, (AV.Le.agg ⟨vr, vr, vr, vr, vr, vr, vr, vr, vr, vr, (AV.Le.forget _ _ _), vr, vr, vr, vr, trivial⟩), Weak.mkL [] (by decide) trivial trivial, ⟨Z, Z⟩⟩

theorem conn.Take.ok {c_ : api.Conn} {n_ : Int} {r : api.Conn × (List UInt8)} (h : conn.Take c_ n_ = some r) : Go.Lift.Spec prog 29 [.agg (api.Conn.ct .no .no c_), .i n_] [] (fun v H => v = .tup [.agg [.i r.1.Born, .i r.1.Tenant, .str r.1.In.Rest, .sl .no 1 (r.1.In.Args.map AV.str), .i r.1.In.Left, .i r.1.In.Size, .bool r.1.In.Body, .i r.1.In.Need, .i r.1.In.Dead, .i r.1.Asked, .sl .no 2 (r.1.Held.map api.Held.av), .str r.1.Out, .i r.1.Taken, .bool r.1.Shut, .bool r.1.Closed], .str r.2] ∧ H = []) := by
 unfold conn.Take at h
 refine Go.Lift.Spec.of_body (rs := [.cell 4 56, .tmp 5]) func29 Z Z (nb Z) Z (xr (xc Z (op_box (cs := (api.Conn.ct .no .no c_)) (v := .agg (api.Conn.ct .no .no c_)) Z (tm Z) Z Z ?_)))
 intro p5
 refine xc Z (op_alloc (cs := [.i 0, .i 0, .str ([] : List UInt8), .sl .full 1 (([] : List (List UInt8)).map AV.str), .i 0, .i 0, .bool false, .i 0, .i 0, .i 0, .sl .full 2 (([] : List api.Held).map api.Held.av), .str ([] : List UInt8), .i 0, .bool false, .bool false]) (v := .agg [.i 0, .i 0, .str ([] : List UInt8), .sl .full 1 (([] : List (List UInt8)).map AV.str), .i 0, .i 0, .bool false, .i 0, .i 0, .i 0, .sl .full 2 (([] : List api.Held).map api.Held.av), .str ([] : List UInt8), .i 0, .bool false, .bool false]) Z zeroValue56 Z Z Z ?_)
 intro p6
 refine xa (.str ([] : List UInt8)) Z (pu_assign Z (AEv.const Z)) (xe (xr (xm Z Z Z (xa (.i (if n_ < 0 then 0 else n_)) Z (pu_max2 Z (tm Z) (AEv.int _ _)) (xa (.ptr p5 11) Z (fa Z underlying56 Z sizeOf9 Z Z Z) (xc Z (op_load1 (i := 1) Z isAgg9 (tm Z) Z Z (xa (.i (c_.Out.length : Int)) Z (pu_strLen Z underlying9 (tm Z)) (xa (.i (if (c_.Out.length : Int) < (if n_ < 0 then 0 else n_) then (c_.Out.length : Int) else (if n_ < 0 then 0 else n_))) Z (pu_min2 Z (tm Z) (tm Z)) ?_)))))))))
 refine xm Z Z Z (xe (xr (xa (.ptr p5 11) Z (fa Z underlying56 Z sizeOf9 Z Z Z) (xc Z (op_load1 (i := 1) Z isAgg9 (tm Z) Z Z (xm Z Z Z ?_))))))
 obtain ⟨c7, h⟩ := need_of h
 refine xa (.str (sub c_.Out 0 (if (c_.Out.length : Int) < (if n_ < 0 then 0 else n_) then (c_.Out.length : Int) else (if n_ < 0 then 0 else n_)))) Z (pu_strSliceM Z underlying9 (tm Z) Z ⟨_, (tm Z)⟩ c7) (xm Z Z Z (xe (xr (xa (.ptr p5 11) Z (fa Z underlying56 Z sizeOf9 Z Z Z) (xc Z (op_load1 (i := 1) Z isAgg9 (tm Z) Z Z (xm Z Z Z ?_)))))))
 obtain ⟨c8, h⟩ := need_of h
 refine xa (.str (sub c_.Out (if (c_.Out.length : Int) < (if n_ < 0 then 0 else n_) then (c_.Out.length : Int) else (if n_ < 0 then 0 else n_)) (c_.Out.length : Int))) Z (pu_strSliceM Z underlying9 (tm Z) ⟨_, (tm Z)⟩ Z c8) (xa (.ptr p5 11) Z (fa Z underlying56 Z sizeOf9 Z Z Z) (ac0 Z Z (op_store (i := 1) (cs' := (api.Conn.ct .no .no { c_ with Out := sub c_.Out (if (c_.Out.length : Int) < (if n_ < 0 then 0 else n_) then (c_.Out.length : Int) else (if n_ < 0 then 0 else n_)) (c_.Out.length : Int) })) Z sizeOf9 (tm Z) (v := .str (sub c_.Out (if (c_.Out.length : Int) < (if n_ < 0 then 0 else n_) then (c_.Out.length : Int) else (if n_ < 0 then 0 else n_)) (c_.Out.length : Int))) (tm Z) Z Z Z (nb Z) Z (xe (xr (xa (.ptr p5 12) Z (fa Z underlying56 Z sizeOf3 Z Z Z) (xc Z (op_load1 (i := 1) Z isAgg3 (tm Z) Z Z (xm Z Z Z (xa (.i (IntKind.wrap .i64 (c_.Taken + (if (c_.Out.length : Int) < (if n_ < 0 then 0 else n_) then (c_.Out.length : Int) else (if n_ < 0 then 0 else n_))))) Z (pu_int (v := .i (IntKind.wrap .i64 (c_.Taken + (if (c_.Out.length : Int) < (if n_ < 0 then 0 else n_) then (c_.Out.length : Int) else (if n_ < 0 then 0 else n_))))) Z Z (tm Z) (tm Z) Z) ?_))))))))))
 refine xa (.ptr p5 12) Z (fa Z underlying56 Z sizeOf3 Z Z Z) (ac0 Z Z (op_store (i := 1) (cs' := (api.Conn.ct .no .no { c_ with Out := sub c_.Out (if (c_.Out.length : Int) < (if n_ < 0 then 0 else n_) then (c_.Out.length : Int) else (if n_ < 0 then 0 else n_)) (c_.Out.length : Int), Taken := IntKind.wrap .i64 (c_.Taken + (if (c_.Out.length : Int) < (if n_ < 0 then 0 else n_) then (c_.Out.length : Int) else (if n_ < 0 then 0 else n_))) })) Z sizeOf3 (tm Z) (v := .i (IntKind.wrap .i64 (c_.Taken + (if (c_.Out.length : Int) < (if n_ < 0 then 0 else n_) then (c_.Out.length : Int) else (if n_ < 0 then 0 else n_))))) (tm Z) Z Z Z (nb Z) Z (xe (xr (xc Z (op_loadN (i := 1) Z isAgg56 sizeOf56 (tm Z) Z (nb Z) Z (xm Z Z Z (ac0 Z Z (op_store (i := 0) (cs' := (api.Conn.ct .no .no { c_ with Out := sub c_.Out (if (c_.Out.length : Int) < (if n_ < 0 then 0 else n_) then (c_.Out.length : Int) else (if n_ < 0 then 0 else n_)) (c_.Out.length : Int), Taken := IntKind.wrap .i64 (c_.Taken + (if (c_.Out.length : Int) < (if n_ < 0 then 0 else n_) then (c_.Out.length : Int) else (if n_ < 0 then 0 else n_))) })) Z sizeOf56 (tm Z) (v := .agg (api.Conn.ct .no .no { c_ with Out := sub c_.Out (if (c_.Out.length : Int) < (if n_ < 0 then 0 else n_) then (c_.Out.length : Int) else (if n_ < 0 then 0 else n_)) (c_.Out.length : Int), Taken := IntKind.wrap .i64 (c_.Taken + (if (c_.Out.length : Int) < (if n_ < 0 then 0 else n_) then (c_.Out.length : Int) else (if n_ < 0 then 0 else n_))) })) (tm Z) Z Z Z (nb Z) Z (xm Z Z Z (xe ?_)))))))))))
 refine aw_ret ?_
 obtain rfl := some_of h
 exact ⟨[.agg (api.Conn.ct .no .no { c_ with Out := sub c_.Out (if (c_.Out.length : Int) < (if n_ < 0 then 0 else n_) then (c_.Out.length : Int) else (if n_ < 0 then 0 else n_)) (c_.Out.length : Int), Taken := IntKind.wrap .i64 (c_.Taken + (if (c_.Out.length : Int) < (if n_ < 0 then 0 else n_) then (c_.Out.length : Int) else (if n_ < 0 then 0 else n_))) }), .str (sub c_.Out 0 (if (c_.Out.length : Int) < (if n_ < 0 then 0 else n_) then (c_.Out.length : Int) else (if n_ < 0 then 0 else n_)))], .tup [.agg (api.Conn.ct .no .no { c_ with Out := sub c_.Out (if (c_.Out.length : Int) < (if n_ < 0 then 0 else n_) then (c_.Out.length : Int) else (if n_ < 0 then 0 else n_)) (c_.Out.length : Int), Taken := IntKind.wrap .i64 (c_.Taken + (if (c_.Out.length : Int) < (if n_ < 0 then 0 else n_) then (c_.Out.length : Int) else (if n_ < 0 then 0 else n_))) }), .str (sub c_.Out 0 (if (c_.Out.length : Int) < (if n_ < 0 then 0 else n_) then (c_.Out.length : Int) else (if n_ < 0 then 0 else n_)))], [], ⟨(CellOk.agg 0 (tm Z) Z isAgg56 sizeOf56 (nb Z) Z), (tm Z), trivial⟩, (AV.Le.tup cr), Weak.mkL [] (by decide) trivial trivial, ⟨Z, Z⟩⟩

end Go.Pu
