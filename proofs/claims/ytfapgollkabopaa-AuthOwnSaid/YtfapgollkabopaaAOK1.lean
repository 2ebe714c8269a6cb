/- Printed by lift.py: the functions come to them. -/
import Derived.Test.YtfapgollkabopaaLiftU
import Derived.Test.YtfapgollkabopaaAOK0
set_option maxRecDepth 100000
set_option maxHeartbeats 0
namespace Go.Pu
open Go.Lift Go.Proofs.Try Go.RowKit Go.Proofs

theorem parse.parser.line.ok {p_ : parse.parser} {r : Bool × parse.parser} (h : parse.parser.line p_ = some r) (o0 q0 q1 : Nat) : Go.Lift.Spec prog 75 [.ptr o0 0] [(o0, .cells (parse.parser.ct (.own q0) (.own q1) p_)), (q0, .spare), (q1, .spare)] (fun v H => ∃ n0 n1, v = .bool r.1 ∧ H = [(o0, .cells [.str r.2.in_.Rest, .sl (.own n0) 1 (r.2.in_.Args.map AV.str), .int .i64 r.2.in_.Left, .int .i64 r.2.in_.Size, .bool r.2.in_.Body, .int .i64 r.2.in_.Need, .int .i64 r.2.in_.Dead, .str r.2.s, .int .i64 r.2.l.Args, .int .i64 r.2.l.Bulk, .int .i64 r.2.l.Line, .sl (.own n1) 2 (r.2.out.map api.Request.av)]), (n0, .spare), (n1, .spare)]) := by
 unfold parse.parser.line at h
 refine Go.Lift.Spec.of_body (rs := [.tmp 2]) func75 Z Z (Nat.le_of_ble_eq_true Z) Z (aw_seq (aw_region (ac Z Z Z (op_box (cs := [.ptr o0 0]) (v := .ptr o0 0) Z (tm Z) Z Z ?_))))
 intro p35
 refine ap (.bool false) Z Z Z (pu_assign Z (AEv.bool _)) (aops_nil (aw_seq (aw_region (ac Z Z Z (op_load1 (i := 0) Z isAgg91 (tm Z) Z Z (ap (.ptr o0 0) Z Z Z (pu_nilCheck Z (tm Z) Z) (ap (.ptr o0 7) Z Z Z (pu_fieldAddr Z underlying93 Z sizeOf9 (by decide) (tm Z) Z) (ac Z Z Z (op_load1 (i := 1) Z isAgg9 (tm Z) Z Z ?_)))))))))
 obtain ⟨r36, r36e, h⟩ := bind_some h
 refine ac Z Z Z (op_call (vs := [.str p_.s, .int .u8 10]) (H := []) Z call87 ⟨(tm Z), (AEv.int _ _), trivial⟩ (List.Perm.refl _) (strings.IndexByte.ok r36e) ?_)
 rintro _ _ ⟨rfl, rfl⟩
 refine ap (.int .i64 r36) Z Z Z (pu_assign Z (tm Z)) (aops_nil (aw_seq ?_))
 obtain ⟨s39, s39e, h40⟩ := letO_of h
 refine aw_meet (ν := Unit) (fun v => [(1, .ptr p35 0), (3, .int .i64 r36), (35, .bool s39)]) (fun v => [(p35, .cells [.ptr o0 0]), (o0, .cells (parse.parser.ct (.own q0) (.own q1) p_)), (q0, .spare), (q1, .spare)]) ?_ ?_
 ·have h := s39e.symm
  rcases Bool.eq_false_or_eq_true (decide (r36 < 0)) with hb42 | hb42
  ·replace h := ite_t (dec_t hb42) h
   rcases Bool.eq_false_or_eq_true (decide (p_.l.Line < (p_.s.length : Int))) with hb43 | hb43
   ·replace h := ite_t (dec_t hb43) h
    refine aw_plan (by decide +kernel) [([], some 12, [3]), ([0], some 13, [12]), ([1], some 14, [13]), ([2], some 15, [1, 14]), ([3, 2], some 16, [15, 14]), ([4, 2], some 17, [16, 14]), ([5, 2], some 18, [17, 14]), ([6, 2], some 19, [18, 14]), ([2], some 20, [1, 14]), ([8, 2], some 21, [20, 14]), ([9, 2], some 22, [21, 14]), ([10, 2], some 23, [22, 14]), ([11, 2], some 24, [23, 14]), ([7, 12, 2], some 25, [19, 24, 14]), ([2, 13], some 26, [14, 25]), ([14, 2], some 27, [26]), ([15], some 28, [3, 27]), ([15], some 29, [1, 27]), ([17, 15], some 30, [29, 27]), ([18, 15], some 31, [30, 27]), ([19, 15], some 32, [31, 27]), ([20, 15], some 33, [32, 27]), ([16, 21, 15], some 34, [28, 33, 27]), ([15, 22], some 35, [27, 34])] Z [[], [0], [0, 1], [0, 1, 2], [0, 1, 2, 3], [0, 1, 2, 3, 4], [0, 1, 2, 3, 4, 5], [0, 1, 2, 3, 4, 5, 6], [0, 1, 2], [0, 1, 2, 8], [0, 1, 2, 8, 9], [0, 1, 2, 8, 9, 10], [0, 1, 2, 8, 9, 10, 11], [0, 1, 2, 3, 4, 5, 6, 7, 8, 9, 10, 11, 12], [0, 1, 2, 3, 4, 5, 6, 7, 8, 9, 10, 11, 12, 13], [0, 1, 2, 3, 4, 5, 6, 7, 8, 9, 10, 11, 12, 13, 14], [0, 1, 2, 3, 4, 5, 6, 7, 8, 9, 10, 11, 12, 13, 14, 15], [0, 1, 2, 3, 4, 5, 6, 7, 8, 9, 10, 11, 12, 13, 14, 15], [0, 1, 2, 3, 4, 5, 6, 7, 8, 9, 10, 11, 12, 13, 14, 15, 17], [0, 1, 2, 3, 4, 5, 6, 7, 8, 9, 10, 11, 12, 13, 14, 15, 17, 18], [0, 1, 2, 3, 4, 5, 6, 7, 8, 9, 10, 11, 12, 13, 14, 15, 17, 18, 19], [0, 1, 2, 3, 4, 5, 6, 7, 8, 9, 10, 11, 12, 13, 14, 15, 17, 18, 19, 20], [0, 1, 2, 3, 4, 5, 6, 7, 8, 9, 10, 11, 12, 13, 14, 15, 16, 17, 18, 19, 20, 21], [0, 1, 2, 3, 4, 5, 6, 7, 8, 9, 10, 11, 12, 13, 14, 15, 16, 17, 18, 19, 20, 21, 22]] [[], [], [], [(0, 0, false)], [], [], [(1, 0, false)], [], [(0, 0, false)], [], [], [], [(1, 0, false)], [], [], [], [], [], [], [], [], [], [], []] [[], [], [], []] [[[(p35, .cells [.ptr o0 0])]], [[(o0, .cells (parse.parser.ct (.own q0) (.own q1) p_))]], [[(q0, .spare)]], [[(q1, .spare)]]] [.int .i64 r36, .bool (decide (r36 < 0)), .bool true, .ptr o0 0, .ptr o0 0, .ptr o0 7, .str p_.s, .int .i64 (p_.s.length : Int), .ptr o0 0, .ptr o0 0, .ptr o0 8, .ptr o0 10, .int .i64 p_.l.Line, .bool (decide (p_.l.Line < (p_.s.length : Int))), .bool (decide (p_.l.Line < (p_.s.length : Int))), .bool true, .lit undef, .lit undef, .lit undef, .lit undef, .lit undef, .lit undef, .lit undef, .bool true] (by decide +kernel) Z Z ?_ ?_
    ·refine ⟨⟨[3], Z, stepg_pure Z (pu_move Z (tm Z))⟩, ?_⟩
     refine ⟨⟨[12], Z, stepg_pure Z (pu_int (v := .bool (decide (r36 < 0))) Z Z (tm Z) (AEv.int _ _) Z)⟩, ?_⟩
     refine ⟨⟨[13], Z, (stepg_pure Z (pu_move Z (tm Z))).cast (congrArg AV.bool hb42)⟩, ?_⟩
     refine ⟨⟨[1, 14], Z, stepg_guard Z Z Z (by decide) Z (op_load1 (i := 0) Z isAgg91 (tm Z) Z Z ⟨Z, Z⟩)⟩, ?_⟩
     refine ⟨⟨[14, 15], Z, stepg_guardP Z Z Z (by decide) Z (pu_nilCheck Z (tm Z) Z)⟩, ?_⟩
     refine ⟨⟨[14, 16], Z, stepg_guardP Z Z Z (by decide) Z (pu_fieldAddr Z underlying93 Z sizeOf9 (by decide) (tm Z) Z)⟩, ?_⟩
     refine ⟨⟨[14, 17], Z, stepg_guard Z Z Z (by decide) Z (op_load1 (i := 0) Z isAgg9 (tm Z) Z Z ⟨Z, Z⟩)⟩, ?_⟩
     refine ⟨⟨[14, 18], Z, stepg_guardP Z Z Z (by decide) Z (pu_strLen Z underlying9 (tm Z))⟩, ?_⟩
     refine ⟨⟨[1, 14], Z, stepg_guard Z Z Z (by decide) Z (op_load1 (i := 0) Z isAgg91 (tm Z) Z Z ⟨Z, Z⟩)⟩, ?_⟩
     refine ⟨⟨[14, 20], Z, stepg_guardP Z Z Z (by decide) Z (pu_nilCheck Z (tm Z) Z)⟩, ?_⟩
     refine ⟨⟨[14, 21], Z, stepg_guardP Z Z Z (by decide) Z (pu_fieldAddr Z underlying93 Z sizeOf23 (by decide) (tm Z) Z)⟩, ?_⟩
     refine ⟨⟨[14, 22], Z, stepg_guardP Z Z Z (by decide) Z (pu_fieldAddr Z underlying23 Z sizeOf3 (by decide) (tm Z) Z)⟩, ?_⟩
     refine ⟨⟨[14, 23], Z, stepg_guard Z Z Z (by decide) Z (op_load1 (i := 0) Z isAgg3 (tm Z) Z Z ⟨Z, Z⟩)⟩, ?_⟩
     refine ⟨⟨[14, 19, 24], Z, stepg_guardP Z Z Z (by decide) Z (pu_int (v := .bool (decide (p_.l.Line < (p_.s.length : Int)))) Z Z (tm Z) (tm Z) Z)⟩, ?_⟩
     refine ⟨⟨[14, 25], Z, stepg_pure Z (pu_pick (b := true) Z (tm Z) (fun _ => (tm Z)) (fun h => nomatch h))⟩, ?_⟩
     refine ⟨⟨[26], Z, (stepg_pure Z (pu_move Z (tm Z))).cast (congrArg AV.bool hb43)⟩, ?_⟩
     refine ⟨⟨[3, 27], Z, stepg_pass Z Z Z (by decide) Z (by decide)⟩, ?_⟩
     refine ⟨⟨[1, 27], Z, stepg_pass Z Z Z (by decide) Z (by decide)⟩, ?_⟩
     refine ⟨⟨[27, 29], Z, stepg_pass Z Z Z (by decide) Z (by decide)⟩, ?_⟩
     refine ⟨⟨[27, 30], Z, stepg_pass Z Z Z (by decide) Z (by decide)⟩, ?_⟩
     refine ⟨⟨[27, 31], Z, stepg_pass Z Z Z (by decide) Z (by decide)⟩, ?_⟩
     refine ⟨⟨[27, 32], Z, stepg_pass Z Z Z (by decide) Z (by decide)⟩, ?_⟩
     refine ⟨⟨[27, 28, 33], Z, stepg_pass Z Z Z (by decide) Z (by decide)⟩, ?_⟩
     refine ⟨⟨[27, 34], Z, stepg_pure Z (pu_pick (b := true) Z (tm Z) (fun _ => (AEv.bool _)) (fun h => nomatch h))⟩, ?_⟩
     trivial
    subst h
    exact ⟨(), Weak.mkL [0, 1, 2, 3] (by decide) ⟨⟨_, Z, ⟨(AV.Le.refl _), trivial⟩, Z⟩, ⟨_, Z, (CellsLe.refl _), Z⟩, ⟨_, Z, Z⟩, ⟨_, Z, Z⟩, trivial⟩ ⟨AEv.tmp Z, AEv.tmp Z, AEv.tmp Z, trivial⟩⟩
   ·replace h := ite_f (dec_f hb43) h
    refine aw_plan (by decide +kernel) [([], some 12, [3]), ([0], some 13, [12]), ([1], some 14, [13]), ([2], some 15, [1, 14]), ([3, 2], some 16, [15, 14]), ([4, 2], some 17, [16, 14]), ([5, 2], some 18, [17, 14]), ([6, 2], some 19, [18, 14]), ([2], some 20, [1, 14]), ([8, 2], some 21, [20, 14]), ([9, 2], some 22, [21, 14]), ([10, 2], some 23, [22, 14]), ([11, 2], some 24, [23, 14]), ([7, 12, 2], some 25, [19, 24, 14]), ([2, 13], some 26, [14, 25]), ([14, 2], some 27, [26]), ([15], some 28, [3, 27]), ([15], some 29, [1, 27]), ([17, 15], some 30, [29, 27]), ([18, 15], some 31, [30, 27]), ([19, 15], some 32, [31, 27]), ([20, 15], some 33, [32, 27]), ([16, 21, 15], some 34, [28, 33, 27]), ([15, 22], some 35, [27, 34])] Z [[], [0], [0, 1], [0, 1, 2], [0, 1, 2, 3], [0, 1, 2, 3, 4], [0, 1, 2, 3, 4, 5], [0, 1, 2, 3, 4, 5, 6], [0, 1, 2], [0, 1, 2, 8], [0, 1, 2, 8, 9], [0, 1, 2, 8, 9, 10], [0, 1, 2, 8, 9, 10, 11], [0, 1, 2, 3, 4, 5, 6, 7, 8, 9, 10, 11, 12], [0, 1, 2, 3, 4, 5, 6, 7, 8, 9, 10, 11, 12, 13], [0, 1, 2, 3, 4, 5, 6, 7, 8, 9, 10, 11, 12, 13, 14], [0, 1, 2, 3, 4, 5, 6, 7, 8, 9, 10, 11, 12, 13, 14, 15], [0, 1, 2, 3, 4, 5, 6, 7, 8, 9, 10, 11, 12, 13, 14, 15], [0, 1, 2, 3, 4, 5, 6, 7, 8, 9, 10, 11, 12, 13, 14, 15, 17], [0, 1, 2, 3, 4, 5, 6, 7, 8, 9, 10, 11, 12, 13, 14, 15, 17, 18], [0, 1, 2, 3, 4, 5, 6, 7, 8, 9, 10, 11, 12, 13, 14, 15, 17, 18, 19], [0, 1, 2, 3, 4, 5, 6, 7, 8, 9, 10, 11, 12, 13, 14, 15, 17, 18, 19, 20], [0, 1, 2, 3, 4, 5, 6, 7, 8, 9, 10, 11, 12, 13, 14, 15, 16, 17, 18, 19, 20, 21], [0, 1, 2, 3, 4, 5, 6, 7, 8, 9, 10, 11, 12, 13, 14, 15, 16, 17, 18, 19, 20, 21, 22]] [[], [], [], [(0, 0, false)], [], [], [(1, 0, false)], [], [(0, 0, false)], [], [], [], [(1, 0, false)], [], [], [], [], [(0, 0, false)], [], [], [], [(1, 0, false)], [], []] [[], [], [], []] [[[(p35, .cells [.ptr o0 0])]], [[(o0, .cells (parse.parser.ct (.own q0) (.own q1) p_))]], [[(q0, .spare)]], [[(q1, .spare)]]] [.int .i64 r36, .bool (decide (r36 < 0)), .bool true, .ptr o0 0, .ptr o0 0, .ptr o0 7, .str p_.s, .int .i64 (p_.s.length : Int), .ptr o0 0, .ptr o0 0, .ptr o0 8, .ptr o0 10, .int .i64 p_.l.Line, .bool (decide (p_.l.Line < (p_.s.length : Int))), .bool (decide (p_.l.Line < (p_.s.length : Int))), .bool false, .int .i64 r36, .ptr o0 0, .ptr o0 0, .ptr o0 8, .ptr o0 10, .int .i64 p_.l.Line, .bool (decide (p_.l.Line < r36)), .bool (decide (p_.l.Line < r36))] (by decide +kernel) Z Z ?_ ?_
    ·refine ⟨⟨[3], Z, stepg_pure Z (pu_move Z (tm Z))⟩, ?_⟩
     refine ⟨⟨[12], Z, stepg_pure Z (pu_int (v := .bool (decide (r36 < 0))) Z Z (tm Z) (AEv.int _ _) Z)⟩, ?_⟩
     refine ⟨⟨[13], Z, (stepg_pure Z (pu_move Z (tm Z))).cast (congrArg AV.bool hb42)⟩, ?_⟩
     refine ⟨⟨[1, 14], Z, stepg_guard Z Z Z (by decide) Z (op_load1 (i := 0) Z isAgg91 (tm Z) Z Z ⟨Z, Z⟩)⟩, ?_⟩
     refine ⟨⟨[14, 15], Z, stepg_guardP Z Z Z (by decide) Z (pu_nilCheck Z (tm Z) Z)⟩, ?_⟩
     refine ⟨⟨[14, 16], Z, stepg_guardP Z Z Z (by decide) Z (pu_fieldAddr Z underlying93 Z sizeOf9 (by decide) (tm Z) Z)⟩, ?_⟩
     refine ⟨⟨[14, 17], Z, stepg_guard Z Z Z (by decide) Z (op_load1 (i := 0) Z isAgg9 (tm Z) Z Z ⟨Z, Z⟩)⟩, ?_⟩
     refine ⟨⟨[14, 18], Z, stepg_guardP Z Z Z (by decide) Z (pu_strLen Z underlying9 (tm Z))⟩, ?_⟩
     refine ⟨⟨[1, 14], Z, stepg_guard Z Z Z (by decide) Z (op_load1 (i := 0) Z isAgg91 (tm Z) Z Z ⟨Z, Z⟩)⟩, ?_⟩
     refine ⟨⟨[14, 20], Z, stepg_guardP Z Z Z (by decide) Z (pu_nilCheck Z (tm Z) Z)⟩, ?_⟩
     refine ⟨⟨[14, 21], Z, stepg_guardP Z Z Z (by decide) Z (pu_fieldAddr Z underlying93 Z sizeOf23 (by decide) (tm Z) Z)⟩, ?_⟩
     refine ⟨⟨[14, 22], Z, stepg_guardP Z Z Z (by decide) Z (pu_fieldAddr Z underlying23 Z sizeOf3 (by decide) (tm Z) Z)⟩, ?_⟩
     refine ⟨⟨[14, 23], Z, stepg_guard Z Z Z (by decide) Z (op_load1 (i := 0) Z isAgg3 (tm Z) Z Z ⟨Z, Z⟩)⟩, ?_⟩
     refine ⟨⟨[14, 19, 24], Z, stepg_guardP Z Z Z (by decide) Z (pu_int (v := .bool (decide (p_.l.Line < (p_.s.length : Int)))) Z Z (tm Z) (tm Z) Z)⟩, ?_⟩
     refine ⟨⟨[14, 25], Z, stepg_pure Z (pu_pick (b := true) Z (tm Z) (fun _ => (tm Z)) (fun h => nomatch h))⟩, ?_⟩
     refine ⟨⟨[26], Z, (stepg_pure Z (pu_move Z (tm Z))).cast (congrArg AV.bool hb43)⟩, ?_⟩
     refine ⟨⟨[3, 27], Z, stepg_guardP Z Z Z (by decide) Z (pu_move Z (tm Z))⟩, ?_⟩
     refine ⟨⟨[1, 27], Z, stepg_guard Z Z Z (by decide) Z (op_load1 (i := 0) Z isAgg91 (tm Z) Z Z ⟨Z, Z⟩)⟩, ?_⟩
     refine ⟨⟨[27, 29], Z, stepg_guardP Z Z Z (by decide) Z (pu_nilCheck Z (tm Z) Z)⟩, ?_⟩
     refine ⟨⟨[27, 30], Z, stepg_guardP Z Z Z (by decide) Z (pu_fieldAddr Z underlying93 Z sizeOf23 (by decide) (tm Z) Z)⟩, ?_⟩
     refine ⟨⟨[27, 31], Z, stepg_guardP Z Z Z (by decide) Z (pu_fieldAddr Z underlying23 Z sizeOf3 (by decide) (tm Z) Z)⟩, ?_⟩
     refine ⟨⟨[27, 32], Z, stepg_guard Z Z Z (by decide) Z (op_load1 (i := 0) Z isAgg3 (tm Z) Z Z ⟨Z, Z⟩)⟩, ?_⟩
     refine ⟨⟨[27, 28, 33], Z, stepg_guardP Z Z Z (by decide) Z (pu_int (v := .bool (decide (p_.l.Line < r36))) Z Z (tm Z) (tm Z) Z)⟩, ?_⟩
     refine ⟨⟨[27, 34], Z, stepg_pure Z (pu_pick (b := false) Z (tm Z) (fun h => nomatch h) (fun _ => (tm Z)))⟩, ?_⟩
     trivial
    subst h
    exact ⟨(), Weak.mkL [0, 1, 2, 3] (by decide) ⟨⟨_, Z, ⟨(AV.Le.refl _), trivial⟩, Z⟩, ⟨_, Z, (CellsLe.refl _), Z⟩, ⟨_, Z, Z⟩, ⟨_, Z, Z⟩, trivial⟩ ⟨AEv.tmp Z, AEv.tmp Z, (AEv.le (tm Z) (AV.Le.refl _)), trivial⟩⟩
  ·replace h := ite_f (dec_f hb42) h
   refine aw_plan (by decide +kernel) [([], some 12, [3]), ([0], some 13, [12]), ([1], some 14, [13]), ([2], some 15, [1, 14]), ([3, 2], some 16, [15, 14]), ([4, 2], some 17, [16, 14]), ([5, 2], some 18, [17, 14]), ([6, 2], some 19, [18, 14]), ([2], some 20, [1, 14]), ([8, 2], some 21, [20, 14]), ([9, 2], some 22, [21, 14]), ([10, 2], some 23, [22, 14]), ([11, 2], some 24, [23, 14]), ([7, 12, 2], some 25, [19, 24, 14]), ([2, 13], some 26, [14, 25]), ([14, 2], some 27, [26]), ([15], some 28, [3, 27]), ([15], some 29, [1, 27]), ([17, 15], some 30, [29, 27]), ([18, 15], some 31, [30, 27]), ([19, 15], some 32, [31, 27]), ([20, 15], some 33, [32, 27]), ([16, 21, 15], some 34, [28, 33, 27]), ([15, 22], some 35, [27, 34])] Z [[], [0], [0, 1], [0, 1, 2], [0, 1, 2, 3], [0, 1, 2, 3, 4], [0, 1, 2, 3, 4, 5], [0, 1, 2, 3, 4, 5, 6], [0, 1, 2], [0, 1, 2, 8], [0, 1, 2, 8, 9], [0, 1, 2, 8, 9, 10], [0, 1, 2, 8, 9, 10, 11], [0, 1, 2, 3, 4, 5, 6, 7, 8, 9, 10, 11, 12], [0, 1, 2, 3, 4, 5, 6, 7, 8, 9, 10, 11, 12, 13], [0, 1, 2, 3, 4, 5, 6, 7, 8, 9, 10, 11, 12, 13, 14], [0, 1, 2, 3, 4, 5, 6, 7, 8, 9, 10, 11, 12, 13, 14, 15], [0, 1, 2, 3, 4, 5, 6, 7, 8, 9, 10, 11, 12, 13, 14, 15], [0, 1, 2, 3, 4, 5, 6, 7, 8, 9, 10, 11, 12, 13, 14, 15, 17], [0, 1, 2, 3, 4, 5, 6, 7, 8, 9, 10, 11, 12, 13, 14, 15, 17, 18], [0, 1, 2, 3, 4, 5, 6, 7, 8, 9, 10, 11, 12, 13, 14, 15, 17, 18, 19], [0, 1, 2, 3, 4, 5, 6, 7, 8, 9, 10, 11, 12, 13, 14, 15, 17, 18, 19, 20], [0, 1, 2, 3, 4, 5, 6, 7, 8, 9, 10, 11, 12, 13, 14, 15, 16, 17, 18, 19, 20, 21], [0, 1, 2, 3, 4, 5, 6, 7, 8, 9, 10, 11, 12, 13, 14, 15, 16, 17, 18, 19, 20, 21, 22]] [[], [], [], [], [], [], [], [], [], [], [], [], [], [], [], [], [], [(0, 0, false)], [], [], [], [(1, 0, false)], [], []] [[], [], [], []] [[[(p35, .cells [.ptr o0 0])]], [[(o0, .cells (parse.parser.ct (.own q0) (.own q1) p_))]], [[(q0, .spare)]], [[(q1, .spare)]]] [.int .i64 r36, .bool (decide (r36 < 0)), .bool false, .lit undef, .lit undef, .lit undef, .lit undef, .lit undef, .lit undef, .lit undef, .lit undef, .lit undef, .lit undef, .lit undef, .bool false, .bool false, .int .i64 r36, .ptr o0 0, .ptr o0 0, .ptr o0 8, .ptr o0 10, .int .i64 p_.l.Line, .bool (decide (p_.l.Line < r36)), .bool (decide (p_.l.Line < r36))] (by decide +kernel) Z Z ?_ ?_
   ·refine ⟨⟨[3], Z, stepg_pure Z (pu_move Z (tm Z))⟩, ?_⟩
    refine ⟨⟨[12], Z, stepg_pure Z (pu_int (v := .bool (decide (r36 < 0))) Z Z (tm Z) (AEv.int _ _) Z)⟩, ?_⟩
    refine ⟨⟨[13], Z, (stepg_pure Z (pu_move Z (tm Z))).cast (congrArg AV.bool hb42)⟩, ?_⟩
    refine ⟨⟨[1, 14], Z, stepg_pass Z Z Z (by decide) Z (by decide)⟩, ?_⟩
    refine ⟨⟨[14, 15], Z, stepg_pass Z Z Z (by decide) Z (by decide)⟩, ?_⟩
    refine ⟨⟨[14, 16], Z, stepg_pass Z Z Z (by decide) Z (by decide)⟩, ?_⟩
    refine ⟨⟨[14, 17], Z, stepg_pass Z Z Z (by decide) Z (by decide)⟩, ?_⟩
    refine ⟨⟨[14, 18], Z, stepg_pass Z Z Z (by decide) Z (by decide)⟩, ?_⟩
    refine ⟨⟨[1, 14], Z, stepg_pass Z Z Z (by decide) Z (by decide)⟩, ?_⟩
    refine ⟨⟨[14, 20], Z, stepg_pass Z Z Z (by decide) Z (by decide)⟩, ?_⟩
    refine ⟨⟨[14, 21], Z, stepg_pass Z Z Z (by decide) Z (by decide)⟩, ?_⟩
    refine ⟨⟨[14, 22], Z, stepg_pass Z Z Z (by decide) Z (by decide)⟩, ?_⟩
    refine ⟨⟨[14, 23], Z, stepg_pass Z Z Z (by decide) Z (by decide)⟩, ?_⟩
    refine ⟨⟨[14, 19, 24], Z, stepg_pass Z Z Z (by decide) Z (by decide)⟩, ?_⟩
    refine ⟨⟨[14, 25], Z, stepg_pure Z (pu_pick (b := false) Z (tm Z) (fun h => nomatch h) (fun _ => (AEv.bool _)))⟩, ?_⟩
    refine ⟨⟨[26], Z, stepg_pure Z (pu_move Z (tm Z))⟩, ?_⟩
    refine ⟨⟨[3, 27], Z, stepg_guardP Z Z Z (by decide) Z (pu_move Z (tm Z))⟩, ?_⟩
    refine ⟨⟨[1, 27], Z, stepg_guard Z Z Z (by decide) Z (op_load1 (i := 0) Z isAgg91 (tm Z) Z Z ⟨Z, Z⟩)⟩, ?_⟩
    refine ⟨⟨[27, 29], Z, stepg_guardP Z Z Z (by decide) Z (pu_nilCheck Z (tm Z) Z)⟩, ?_⟩
    refine ⟨⟨[27, 30], Z, stepg_guardP Z Z Z (by decide) Z (pu_fieldAddr Z underlying93 Z sizeOf23 (by decide) (tm Z) Z)⟩, ?_⟩
    refine ⟨⟨[27, 31], Z, stepg_guardP Z Z Z (by decide) Z (pu_fieldAddr Z underlying23 Z sizeOf3 (by decide) (tm Z) Z)⟩, ?_⟩
    refine ⟨⟨[27, 32], Z, stepg_guard Z Z Z (by decide) Z (op_load1 (i := 0) Z isAgg3 (tm Z) Z Z ⟨Z, Z⟩)⟩, ?_⟩
    refine ⟨⟨[27, 28, 33], Z, stepg_guardP Z Z Z (by decide) Z (pu_int (v := .bool (decide (p_.l.Line < r36))) Z Z (tm Z) (tm Z) Z)⟩, ?_⟩
    refine ⟨⟨[27, 34], Z, stepg_pure Z (pu_pick (b := false) Z (tm Z) (fun h => nomatch h) (fun _ => (tm Z)))⟩, ?_⟩
    trivial
   subst h
   exact ⟨(), Weak.mkL [0, 1, 2, 3] (by decide) ⟨⟨_, Z, ⟨(AV.Le.refl _), trivial⟩, Z⟩, ⟨_, Z, (CellsLe.refl _), Z⟩, ⟨_, Z, Z⟩, ⟨_, Z, Z⟩, trivial⟩ ⟨AEv.tmp Z, AEv.tmp Z, (AEv.le (tm Z) (AV.Le.refl _)), trivial⟩⟩
 ·intro _
  have h := h40
  refine aw_cond (b := s39) (tm Z) (fun hb73 => ?_) (fun hb73 => ?_)
  ·replace h := ite_t hb73 h
   refine aw_seq (aw_region (ac Z Z Z (op_load1 (i := 0) Z isAgg91 (tm Z) Z Z ?_)))
   obtain ⟨r44, r44e, h⟩ := bind_some h
   refine aops_weak (weak_pick [1, 2, 3, 0] (by decide) Z) (ac Z Z Z (op_call (vs := [.ptr o0 0, .int .i64 6]) (H := [(o0, .cells (parse.parser.ct (.own q0) (.own q1) p_)), (q0, .spare), (q1, .spare)]) Z call85 ⟨(tm Z), (AEv.int _ _), trivial⟩ (List.Perm.refl _) (parse.parser.dies.ok r44e o0 q0 q1) ?_))
   rintro _ _ ⟨t45, rfl, rfl⟩
   refine ap (.bool r44.1) Z Z Z (pu_assign Z (tm Z)) (aops_nil (aw_claimCell 0 1 Z Z fun t46 => (aw_ret ?_)))
   obtain rfl := some_of h
   exact ⟨[.bool r44.1], _, [(o0, .cells (parse.parser.ct (.own t46) (.own t45) r44.2)), (t46, .spare), (t45, .spare)], ⟨(tm Z), trivial⟩, (AV.Le.refl _), Weak.mkL [1, 0, 2] (by decide) ⟨⟨_, Z, (CellsLe.refl _), Z⟩, ⟨_, Z, Z⟩, ⟨_, Z, Z⟩, trivial⟩ trivial, ⟨t46, t45, Z, Z⟩⟩
  ·replace h := ite_fb hb73 h
   refine aw_skip (aw_seq (aw_seq (aw_region (ap (.int .i64 r36) Z Z Z (pu_move Z (tm Z)) (ap (.bool (decide (r36 < 0))) Z Z Z (pu_int (v := .bool (decide (r36 < 0))) Z Z (tm Z) (AEv.int _ _) Z) (aops_nil (aw_cond (b := decide (r36 < 0)) (tm Z) (fun hb72 => ?_) (fun hb72 => ?_))))))))
   ·replace h := ite_t (dec_t hb72) h
    refine aw_seq (aw_region (ap (.bool false) Z Z Z (pu_assign Z (AEv.bool _)) (aops_nil (aw_ret ?_))))
    obtain rfl := some_of h
    exact ⟨[.bool false], _, [(o0, .cells (parse.parser.ct (.own q0) (.own q1) p_)), (q0, .spare), (q1, .spare)], ⟨(tm Z), trivial⟩, (AV.Le.refl _), Weak.mkL [1, 2, 3] (by decide) ⟨⟨_, Z, (CellsLe.refl _), Z⟩, ⟨_, Z, Z⟩, ⟨_, Z, Z⟩, trivial⟩ trivial, ⟨q0, q1, Z, Z⟩⟩
   ·replace h := ite_f (dec_f hb72) h
    refine aw_skip (aw_seq (aw_region (ac Z Z Z (op_load1 (i := 0) Z isAgg91 (tm Z) Z Z (ap (.ptr o0 0) Z Z Z (pu_nilCheck Z (tm Z) Z) (ap (.ptr o0 7) Z Z Z (pu_fieldAddr Z underlying93 Z sizeOf9 (by decide) (tm Z) Z) (ac Z Z Z (op_load1 (i := 1) Z isAgg9 (tm Z) Z Z (ap (.int .i64 r36) Z Z Z (pu_move Z (tm Z)) ?_)))))))))
    obtain ⟨c47, h⟩ := need_of h
    refine ap (.str (sub p_.s 0 r36)) Z Z Z (pu_strSliceM Z underlying9 (tm Z) Z ⟨_, (tm Z)⟩ c47) ?_
    obtain ⟨r48, r48e, h⟩ := bind_some h
    refine ac Z Z Z (op_call (vs := [.str (sub p_.s 0 r36), .str [13]]) (H := []) Z call89 ⟨(tm Z), (AEv.const Z), trivial⟩ (List.Perm.refl _) (strings.TrimSuffix.ok r48e) ?_)
    rintro _ _ ⟨rfl, rfl⟩
    obtain ⟨r49, r49e, h⟩ := bind_some h
    refine ac Z Z Z (op_call (vs := [.str r48]) (H := []) Z call88 ⟨(tm Z), trivial⟩ (List.Perm.refl _) (line.Split.ok r49e) ?_)
    rintro _ _ ⟨t50, rfl, rfl⟩
    refine ap (.tup [.sl (.own t50) 1 (r49.1.map AV.str), .bool r49.2]) Z Z Z (pu_move Z (tm Z)) (ap (.sl (.own t50) 1 (r49.1.map AV.str)) Z Z Z (pu_extract Z (tm Z) (Nat.le_of_ble_eq_true Z) Z) (ap (.bool r49.2) Z Z Z (pu_extract Z (tm Z) (Nat.le_of_ble_eq_true Z) Z) (ap (.sl (.own t50) 1 (r49.1.map AV.str)) Z Z Z (pu_assign Z (tm Z)) (ap (.bool r49.2) Z Z Z (pu_assign Z (tm Z)) (aops_nil (aw_seq (aw_region (ap (.fn 90 [.ptr p35 0]) Z Z Z (pu_makeFunc Z ⟨(tm Z), trivial⟩) (ap (.fn 90 [.ptr p35 0]) Z Z Z (pu_assign Z (tm Z)) ?_)))))))))
    refine aops_nil (aw_seq (aw_block (aw_seq (aw_region (ap (.bool r49.2) Z Z Z (pu_move Z (tm Z)) (ap (.bool (!r49.2)) Z Z Z (pu_not Z (tm Z)) (ap (.bool (!r49.2)) Z Z Z (pu_assign Z (tm Z)) (aops_nil (aw_cond (b := (!r49.2)) (tm Z) (fun hb71 => ?_) (fun hb71 => ?_))))))))))
    ·replace h := ite_t hb71 h
     refine aw_seq (aw_region (ac Z Z Z (op_load1 (i := 1) Z isAgg91 (tm Z) Z Z ?_)))
     obtain ⟨r51, r51e, h⟩ := bind_some h
     refine aops_weak (weak_pick [2, 3, 4, 0, 1] (by decide) Z) (ac Z Z Z (op_call (vs := [.ptr o0 0, .int .i64 16]) (H := [(o0, .cells (parse.parser.ct (.own q0) (.own q1) p_)), (q0, .spare), (q1, .spare)]) Z call85 ⟨(tm Z), (AEv.int _ _), trivial⟩ (List.Perm.refl _) (parse.parser.dies.ok r51e o0 q0 q1) ?_))
     rintro _ _ ⟨t52, rfl, rfl⟩
     refine ap (.bool r51.1) Z Z Z (pu_assign Z (tm Z)) (aops_nil (aw_claimCell 0 1 Z Z fun t53 => (aw_ret ?_)))
     obtain rfl := some_of h
     exact ⟨[.bool r51.1], _, [(o0, .cells (parse.parser.ct (.own t53) (.own t52) r51.2)), (t53, .spare), (t52, .spare)], ⟨(tm Z), trivial⟩, (AV.Le.refl _), Weak.mkL [1, 0, 2] (by decide) ⟨⟨_, Z, (CellsLe.refl _), Z⟩, ⟨_, Z, Z⟩, ⟨_, Z, Z⟩, trivial⟩ trivial, ⟨t53, t52, Z, Z⟩⟩
    ·replace h := ite_fb hb71 h
     refine aw_seq (aw_region (ap (.sl (.own t50) 1 (r49.1.map AV.str)) Z Z Z (pu_move Z (tm Z)) (ap (.int .i64 (r49.1.length : Int)) Z Z Z (pu_lenM Z underlying26 (tm Z)) (ac Z Z Z (op_load1 (i := 1) Z isAgg91 (tm Z) Z Z (ap (.ptr o0 0) Z Z Z (pu_nilCheck Z (tm Z) Z) (ap (.ptr o0 8) Z Z Z (pu_fieldAddr Z underlying93 Z sizeOf23 (by decide) (tm Z) Z) (ap (.ptr o0 8) Z Z Z (pu_fieldAddr Z underlying23 Z sizeOf3 (by decide) (tm Z) Z) (ac Z Z Z (op_load1 (i := 2) Z isAgg3 (tm Z) Z Z (ap (.bool (decide (p_.l.Args < (r49.1.length : Int)))) Z Z Z (pu_int (v := .bool (decide (p_.l.Args < (r49.1.length : Int)))) Z Z (tm Z) (tm Z) Z) ?_)))))))))))
     refine ap (.bool (decide (p_.l.Args < (r49.1.length : Int)))) Z Z Z (pu_assign Z (tm Z)) (aops_nil (aw_cond (b := decide (p_.l.Args < (r49.1.length : Int))) (tm Z) (fun hb70 => ?_) (fun hb70 => ?_)))
     ·replace h := ite_t (dec_t hb70) h
      refine aw_seq (aw_region (ac Z Z Z (op_load1 (i := 1) Z isAgg91 (tm Z) Z Z ?_)))
      obtain ⟨r54, r54e, h⟩ := bind_some h
      refine aops_weak (weak_pick [2, 3, 4, 0, 1] (by decide) Z) (ac Z Z Z (op_call (vs := [.ptr o0 0, .int .i64 7]) (H := [(o0, .cells (parse.parser.ct (.own q0) (.own q1) p_)), (q0, .spare), (q1, .spare)]) Z call85 ⟨(tm Z), (AEv.int _ _), trivial⟩ (List.Perm.refl _) (parse.parser.dies.ok r54e o0 q0 q1) ?_))
      rintro _ _ ⟨t55, rfl, rfl⟩
      refine ap (.bool r54.1) Z Z Z (pu_assign Z (tm Z)) (aops_nil (aw_claimCell 0 1 Z Z fun t56 => (aw_ret ?_)))
      obtain rfl := some_of h
      exact ⟨[.bool r54.1], _, [(o0, .cells (parse.parser.ct (.own t56) (.own t55) r54.2)), (t56, .spare), (t55, .spare)], ⟨(tm Z), trivial⟩, (AV.Le.refl _), Weak.mkL [1, 0, 2] (by decide) ⟨⟨_, Z, (CellsLe.refl _), Z⟩, ⟨_, Z, Z⟩, ⟨_, Z, Z⟩, trivial⟩ trivial, ⟨t56, t55, Z, Z⟩⟩
     ·replace h := ite_f (dec_f hb70) h
      refine aw_seq (aw_region (ap (.sl (.own t50) 1 (r49.1.map AV.str)) Z Z Z (pu_move Z (tm Z)) (ap (.fn 90 [.ptr p35 0]) Z Z Z (pu_move Z (tm Z)) ?_)))
      obtain ⟨r57, r57e, h⟩ := bind_some h
      refine aops_weak (weak_pick [1, 2, 3, 4, 0] (by decide) Z) (ac Z Z Z (op_call (vs := [.sl .no 1 (r49.1.map AV.str), .fn 90 [.ptr p35 0]]) (H := [(p35, .cells [.ptr o0 0]), (o0, .cells (parse.parser.ct (.own q0) (.own q1) p_)), (q0, .spare), (q1, .spare)]) Z call91 ⟨(AEv.le (tm Z) (AV.Le.forget _ _ _)), (tm Z), trivial⟩ (List.Perm.refl _) (slices.ContainsFunc_string_parse_parser_line_1.ok r57e p35 o0 q0 q1) ?_))
      rintro _ _ ⟨t58, t59, rfl, rfl⟩
      refine ap (.bool r57) Z Z Z (pu_assign Z (tm Z)) (aops_nil (aw_cond (b := r57) (tm Z) (fun hb69 => ?_) (fun hb69 => ?_)))
      ·replace h := ite_t hb69 h
       refine aw_seq (aw_region (ac Z Z Z (op_load1 (i := 0) Z isAgg91 (tm Z) Z Z ?_)))
       obtain ⟨r60, r60e, h⟩ := bind_some h
       refine aops_weak (weak_pick [1, 2, 3, 0, 4] (by decide) Z) (ac Z Z Z (op_call (vs := [.ptr o0 0, .int .i64 6]) (H := [(o0, .cells (parse.parser.ct (.own t58) (.own t59) p_)), (t58, .spare), (t59, .spare)]) Z call85 ⟨(tm Z), (AEv.int _ _), trivial⟩ (List.Perm.refl _) (parse.parser.dies.ok r60e o0 t58 t59) ?_))
       rintro _ _ ⟨t61, rfl, rfl⟩
       refine ap (.bool r60.1) Z Z Z (pu_assign Z (tm Z)) (aops_nil (aw_claimCell 0 1 Z Z fun t62 => (aw_ret ?_)))
       obtain rfl := some_of h
       exact ⟨[.bool r60.1], _, [(o0, .cells (parse.parser.ct (.own t62) (.own t61) r60.2)), (t62, .spare), (t61, .spare)], ⟨(tm Z), trivial⟩, (AV.Le.refl _), Weak.mkL [1, 0, 2] (by decide) ⟨⟨_, Z, (CellsLe.refl _), Z⟩, ⟨_, Z, Z⟩, ⟨_, Z, Z⟩, trivial⟩ trivial, ⟨t62, t61, Z, Z⟩⟩
      ·replace h := ite_fb hb69 h
       refine aw_skip (aw_seq (aw_region (ac Z Z Z (op_load1 (i := 0) Z isAgg91 (tm Z) Z Z (ap (.int .i64 r36) Z Z Z (pu_move Z (tm Z)) (ap (.int .i64 (IntKind.wrap .i64 (r36 + 1))) Z Z Z (pu_int (v := .int .i64 (IntKind.wrap .i64 (r36 + 1))) Z Z (tm Z) (AEv.int _ _) Z) ?_))))))
       obtain ⟨r63, r63e, h⟩ := bind_some h
       refine aops_weak (weak_pick [1, 2, 3, 0, 4] (by decide) Z) (ac Z Z Z (op_call (vs := [.ptr o0 0, .int .i64 (IntKind.wrap .i64 (r36 + 1))]) (H := [(o0, .cells (parse.parser.ct (.own t58) (.own t59) p_)), (t58, .spare), (t59, .spare)]) Z call86 ⟨(tm Z), (tm Z), trivial⟩ (List.Perm.refl _) (parse.parser.past.ok r63e o0 t58 t59) ?_))
       rintro _ _ ⟨t64, t65, rfl, rfl⟩
       refine aops_nil (aw_seq (aw_region (ac Z Z Z (op_load1 (i := 3) Z isAgg91 (tm Z) Z Z (ap (.sl (.own t50) 1 (r49.1.map AV.str)) Z Z Z (pu_move Z (tm Z)) ?_)))))
       obtain ⟨r66, r66e, h⟩ := bind_some h
       refine ac Z Z Z (op_call (vs := [.ptr o0 0, .sl .no 1 (r49.1.map AV.str)]) (H := [(o0, .cells (parse.parser.ct (.own t64) (.own t65) r63)), (t64, .spare), (t65, .spare)]) Z call76 ⟨(tm Z), (AEv.le (tm Z) (AV.Le.forget _ _ _)), trivial⟩ (List.Perm.refl _) (parse.parser.whole.ok r66e o0 t64 t65) ?_)
       rintro _ _ ⟨t67, rfl, rfl⟩
       refine aops_nil (aw_seq (aw_region (ap (.bool true) Z Z Z (pu_assign Z (AEv.bool _)) (aops_nil (aw_claimCell 0 1 Z Z fun t68 => (aw_ret ?_))))))
       obtain rfl := some_of h
       exact ⟨[.bool true], _, [(o0, .cells (parse.parser.ct (.own t68) (.own t67) r66)), (t68, .spare), (t67, .spare)], ⟨(tm Z), trivial⟩, (AV.Le.refl _), Weak.mkL [1, 0, 2] (by decide) ⟨⟨_, Z, (CellsLe.refl _), Z⟩, ⟨_, Z, Z⟩, ⟨_, Z, Z⟩, trivial⟩ trivial, ⟨t68, t67, Z, Z⟩⟩

theorem parse.parser.step.ok {p_ : parse.parser} {r : Bool × parse.parser} (h : parse.parser.step p_ = some r) (o0 q0 q1 : Nat) : Go.Lift.Spec prog 51 [.ptr o0 0] [(o0, .cells (parse.parser.ct (.own q0) (.own q1) p_)), (q0, .spare), (q1, .spare)] (fun v H => ∃ n0 n1, v = .bool r.1 ∧ H = [(o0, .cells [.str r.2.in_.Rest, .sl (.own n0) 1 (r.2.in_.Args.map AV.str), .int .i64 r.2.in_.Left, .int .i64 r.2.in_.Size, .bool r.2.in_.Body, .int .i64 r.2.in_.Need, .int .i64 r.2.in_.Dead, .str r.2.s, .int .i64 r.2.l.Args, .int .i64 r.2.l.Bulk, .int .i64 r.2.l.Line, .sl (.own n1) 2 (r.2.out.map api.Request.av)]), (n0, .spare), (n1, .spare)]) := by
 unfold parse.parser.step at h
 refine Go.Lift.Spec.of_body (rs := [.tmp 2]) func51 Z Z (Nat.le_of_ble_eq_true Z) Z (aw_seq (aw_region (ap (.bool false) Z Z Z (pu_assign Z (AEv.bool _)) (aops_nil (aw_seq (aw_block (aw_seq (aw_region (ap (.ptr o0 0) Z Z Z (pu_move Z (tm Z)) ?_)))))))))
 refine ap (.ptr o0 0) Z Z Z (pu_nilCheck Z (tm Z) Z) (ap (.ptr o0 0) Z Z Z (pu_fieldAddr Z underlying93 Z sizeOf29 (by decide) (tm Z) Z) (ap (.ptr o0 4) Z Z Z (pu_fieldAddr Z underlying29 Z sizeOf4 (by decide) (tm Z) Z) (ac Z Z Z (op_load1 (i := 0) Z isAgg4 (tm Z) Z Z (ap (.bool p_.in_.Body) Z Z Z (pu_assign Z (tm Z)) (aops_nil (aw_cond (b := p_.in_.Body) (tm Z) (fun hb98 => ?_) (fun hb98 => ?_))))))))
 ·replace h := ite_t hb98 h
  refine aw_seq (aw_region (ap (.ptr o0 0) Z Z Z (pu_move Z (tm Z)) ?_))
  obtain ⟨r50, r50e, h⟩ := bind_some h
  refine ac Z Z Z (op_call (vs := [.ptr o0 0]) (H := [(o0, .cells (parse.parser.ct (.own q0) (.own q1) p_)), (q0, .spare), (q1, .spare)]) Z call73 ⟨(tm Z), trivial⟩ (List.Perm.refl _) (parse.parser.body.ok r50e o0 q0 q1) ?_)
  rintro _ _ ⟨t51, t52, rfl, rfl⟩
  refine ap (.bool r50.1) Z Z Z (pu_assign Z (tm Z)) (aops_nil (aw_ret ?_))
  obtain rfl := some_of h
  exact ⟨[.bool r50.1], _, [(o0, .cells (parse.parser.ct (.own t51) (.own t52) r50.2)), (t51, .spare), (t52, .spare)], ⟨(tm Z), trivial⟩, (AV.Le.refl _), Weak.mkL [0, 1, 2] (by decide) ⟨⟨_, Z, (CellsLe.refl _), Z⟩, ⟨_, Z, Z⟩, ⟨_, Z, Z⟩, trivial⟩ trivial, ⟨t51, t52, Z, Z⟩⟩
 ·replace h := ite_fb hb98 h
  refine aw_seq (aw_region (ap (.ptr o0 0) Z Z Z (pu_move Z (tm Z)) (ap (.ptr o0 0) Z Z Z (pu_nilCheck Z (tm Z) Z) (ap (.ptr o0 0) Z Z Z (pu_fieldAddr Z underlying93 Z sizeOf29 (by decide) (tm Z) Z) (ap (.ptr o0 2) Z Z Z (pu_fieldAddr Z underlying29 Z sizeOf3 (by decide) (tm Z) Z) (ac Z Z Z (op_load1 (i := 0) Z isAgg3 (tm Z) Z Z (ap (.bool (decide (0 < p_.in_.Left))) Z Z Z (pu_int (v := .bool (decide (0 < p_.in_.Left))) Z Z (tm Z) (AEv.int _ _) Z) (ap (.bool (decide (0 < p_.in_.Left))) Z Z Z (pu_assign Z (tm Z)) (aops_nil ?_))))))))))
  refine aw_cond (b := decide (0 < p_.in_.Left)) (tm Z) (fun hb97 => ?_) (fun hb97 => ?_)
  ·replace h := ite_t (dec_t hb97) h
   refine aw_seq (aw_region (ap (.ptr o0 0) Z Z Z (pu_move Z (tm Z)) (ap (.ptr o0 0) Z Z Z (pu_move Z (tm Z)) (ap (.ptr o0 0) Z Z Z (pu_nilCheck Z (tm Z) Z) (ap (.ptr o0 8) Z Z Z (pu_fieldAddr Z underlying93 Z sizeOf23 (by decide) (tm Z) Z) (ap (.ptr o0 9) Z Z Z (pu_fieldAddr Z underlying23 Z sizeOf3 (by decide) (tm Z) Z) (ac Z Z Z (op_load1 (i := 0) Z isAgg3 (tm Z) Z Z ?_))))))))
   obtain ⟨r53, r53e, h⟩ := bind_some h
   refine ac Z Z Z (op_call (vs := [.ptr o0 0, .int .u8 36, .int .i64 p_.l.Bulk, .int .i64 6]) (H := [(o0, .cells (parse.parser.ct (.own q0) (.own q1) p_)), (q0, .spare), (q1, .spare)]) Z call74 ⟨(tm Z), (AEv.int _ _), (tm Z), (AEv.int _ _), trivial⟩ (List.Perm.refl _) (parse.parser.header.ok r53e o0 q0 q1) ?_)
   rintro _ _ ⟨t54, t55, rfl, rfl⟩
   refine ap (.tup [.int .i64 r53.1, .bool r53.2.1]) Z Z Z (pu_move Z (tm Z)) (ap (.int .i64 r53.1) Z Z Z (pu_extract Z (tm Z) (Nat.le_of_ble_eq_true Z) Z) (ap (.bool r53.2.1) Z Z Z (pu_extract Z (tm Z) (Nat.le_of_ble_eq_true Z) Z) (ap (.int .i64 r53.1) Z Z Z (pu_assign Z (tm Z)) (ap (.bool r53.2.1) Z Z Z (pu_assign Z (tm Z)) (aops_nil ?_)))))
   obtain ⟨s57, s57e, h58⟩ := letO_of h
   refine aw_meet (ν := Unit) (fun v => [(4, .bool r53.2.1)]) (fun v => [(o0, .cells (parse.parser.ct (.own t54) (.own t55) { r53.2.2 with in_ := { r53.2.2.in_ with Body := s57.1, Need := s57.2 } })), (t54, .spare), (t55, .spare)]) ?_ ?_
   ·have h := s57e.symm
    refine aw_seq (aw_region (ap (.bool r53.2.1) Z Z Z (pu_move Z (tm Z)) (aops_nil (aw_cond (b := r53.2.1) (tm Z) (fun hb60 => ?_) (fun hb60 => ?_)))))
    ·replace h := ite_t hb60 h
     refine aw_region (ap (.ptr o0 0) Z Z Z (pu_move Z (tm Z)) (ap (.ptr o0 0) Z Z Z (pu_move Z (tm Z)) (ap (.int .i64 r53.1) Z Z Z (pu_move Z (tm Z)) (ap (.ptr o0 0) Z Z Z (pu_nilCheck Z (tm Z) Z) (ap (.ptr o0 0) Z Z Z (pu_fieldAddr Z underlying93 Z sizeOf29 (by decide) (tm Z) Z) (ap (.ptr o0 4) Z Z Z (pu_fieldAddr Z underlying29 Z sizeOf4 (by decide) (tm Z) Z) (ac0 Z Z (op_store (i := 0) (cs' := (parse.parser.ct (.own t54) (.own t55) { r53.2.2 with in_ := { r53.2.2.in_ with Body := true } })) Z sizeOf4 (tm Z) (v := .bool true) (AEv.bool _) Z Z Z (Nat.le_of_ble_eq_true Z) Z (ap (.ptr o0 0) Z Z Z (pu_nilCheck Z (tm Z) Z) (ap (.ptr o0 0) Z Z Z (pu_fieldAddr Z underlying93 Z sizeOf29 (by decide) (tm Z) Z) ?_))))))))))
     refine ap (.ptr o0 5) Z Z Z (pu_fieldAddr Z underlying29 Z sizeOf3 (by decide) (tm Z) Z) (ac0 Z Z (op_store (i := 0) (cs' := (parse.parser.ct (.own t54) (.own t55) { r53.2.2 with in_ := { r53.2.2.in_ with Body := true, Need := r53.1 } })) Z sizeOf3 (tm Z) (v := .int .i64 r53.1) (tm Z) Z Z Z (Nat.le_of_ble_eq_true Z) Z (aops_nil ?_)))
     subst h
     exact ⟨(), Weak.mkL [0, 1, 2] (by decide) ⟨⟨_, Z, (CellsLe.refl _), Z⟩, ⟨_, Z, Z⟩, ⟨_, Z, Z⟩, trivial⟩ ⟨AEv.tmp Z, trivial⟩⟩
    ·replace h := ite_fb hb60 h
     refine aw_skip ?_
     subst h
     exact ⟨(), Weak.mkL [0, 1, 2] (by decide) ⟨⟨_, Z, (CellsLe.refl _), Z⟩, ⟨_, Z, Z⟩, ⟨_, Z, Z⟩, trivial⟩ ⟨AEv.tmp Z, trivial⟩⟩
   ·intro _
    have h := h58
    refine aw_seq (aw_region (ap (.bool r53.2.1) Z Z Z (pu_move Z (tm Z)) (ap (.bool r53.2.1) Z Z Z (pu_assign Z (tm Z)) (aops_nil (aw_ret ?_)))))
    obtain rfl := some_of h
    exact ⟨[.bool r53.2.1], _, [(o0, .cells (parse.parser.ct (.own t54) (.own t55) { r53.2.2 with in_ := { r53.2.2.in_ with Body := s57.1, Need := s57.2 } })), (t54, .spare), (t55, .spare)], ⟨(tm Z), trivial⟩, (AV.Le.refl _), Weak.mkL [0, 1, 2] (by decide) ⟨⟨_, Z, (CellsLe.refl _), Z⟩, ⟨_, Z, Z⟩, ⟨_, Z, Z⟩, trivial⟩ trivial, ⟨t54, t55, Z, Z⟩⟩
  ·replace h := ite_f (dec_f hb97) h
   refine aw_seq (aw_region (ap (.ptr o0 0) Z Z Z (pu_move Z (tm Z)) (ap (.ptr o0 0) Z Z Z (pu_nilCheck Z (tm Z) Z) (ap (.ptr o0 7) Z Z Z (pu_fieldAddr Z underlying93 Z sizeOf9 (by decide) (tm Z) Z) (ac Z Z Z (op_load1 (i := 0) Z isAgg9 (tm Z) Z Z (ap (.bool (decide (p_.s = ([] : List UInt8)))) Z Z Z (pu_str (v := .bool (decide (p_.s = ([] : List UInt8)))) Z Z (tm Z) (AEv.const Z) Z) (ap (.bool (decide (p_.s = ([] : List UInt8)))) Z Z Z (pu_assign Z (tm Z)) (aops_nil (aw_cond (b := decide (p_.s = ([] : List UInt8))) (tm Z) (fun hb96 => ?_) (fun hb96 => ?_)))))))))))
   ·replace h := ite_t (dec_t hb96) h
    refine aw_seq (aw_region (ap (.bool false) Z Z Z (pu_assign Z (AEv.bool _)) (aops_nil (aw_ret ?_))))
    obtain rfl := some_of h
    exact ⟨[.bool false], _, [(o0, .cells (parse.parser.ct (.own q0) (.own q1) p_)), (q0, .spare), (q1, .spare)], ⟨(tm Z), trivial⟩, (AV.Le.refl _), Weak.mkL [0, 1, 2] (by decide) ⟨⟨_, Z, (CellsLe.refl _), Z⟩, ⟨_, Z, Z⟩, ⟨_, Z, Z⟩, trivial⟩ trivial, ⟨q0, q1, Z, Z⟩⟩
   ·replace h := ite_f (dec_f hb96) h
    refine aw_seq (aw_region (ap (.ptr o0 0) Z Z Z (pu_move Z (tm Z)) (ap (.ptr o0 0) Z Z Z (pu_nilCheck Z (tm Z) Z) (ap (.ptr o0 7) Z Z Z (pu_fieldAddr Z underlying93 Z sizeOf9 (by decide) (tm Z) Z) (ac Z Z Z (op_load1 (i := 0) Z isAgg9 (tm Z) Z Z ?_))))))
    obtain ⟨c61, h⟩ := need_of h
    refine ap (.int .u8 (bix p_.s 0)) Z Z Z (pu_strIdxM Z underlying9 (tm Z) (AEv.int _ _) c61) (ap (.bool (!decide ((bix p_.s 0) = 42))) Z Z Z (pu_int (v := .bool (!decide ((bix p_.s 0) = 42))) Z Z (tm Z) (AEv.int _ _) Z) (ap (.bool (!decide ((bix p_.s 0) = 42))) Z Z Z (pu_assign Z (tm Z)) (aops_nil (aw_cond (b := (!decide ((bix p_.s 0) = 42))) (tm Z) (fun hb95 => ?_) (fun hb95 => ?_)))))
    ·replace h := ite_f (ndec_t hb95) h
     refine aw_seq (aw_region (ap (.ptr o0 0) Z Z Z (pu_move Z (tm Z)) ?_))
     obtain ⟨r62, r62e, h⟩ := bind_some h
     refine ac Z Z Z (op_call (vs := [.ptr o0 0]) (H := [(o0, .cells (parse.parser.ct (.own q0) (.own q1) p_)), (q0, .spare), (q1, .spare)]) Z call75 ⟨(tm Z), trivial⟩ (List.Perm.refl _) (parse.parser.line.ok r62e o0 q0 q1) ?_)
     rintro _ _ ⟨t63, t64, rfl, rfl⟩
     refine ap (.bool r62.1) Z Z Z (pu_assign Z (tm Z)) (aops_nil (aw_ret ?_))
     obtain rfl := some_of h
     exact ⟨[.bool r62.1], _, [(o0, .cells (parse.parser.ct (.own t63) (.own t64) r62.2)), (t63, .spare), (t64, .spare)], ⟨(tm Z), trivial⟩, (AV.Le.refl _), Weak.mkL [0, 1, 2] (by decide) ⟨⟨_, Z, (CellsLe.refl _), Z⟩, ⟨_, Z, Z⟩, ⟨_, Z, Z⟩, trivial⟩ trivial, ⟨t63, t64, Z, Z⟩⟩
    ·replace h := ite_t (ndec_f hb95) h
     refine aw_skip (aw_seq (aw_region (ap (.ptr o0 0) Z Z Z (pu_move Z (tm Z)) (ap (.ptr o0 0) Z Z Z (pu_move Z (tm Z)) (ap (.ptr o0 0) Z Z Z (pu_nilCheck Z (tm Z) Z) (ap (.ptr o0 8) Z Z Z (pu_fieldAddr Z underlying93 Z sizeOf23 (by decide) (tm Z) Z) (ap (.ptr o0 8) Z Z Z (pu_fieldAddr Z underlying23 Z sizeOf3 (by decide) (tm Z) Z) (ac Z Z Z (op_load1 (i := 0) Z isAgg3 (tm Z) Z Z ?_)))))))))
     obtain ⟨r65, r65e, h⟩ := bind_some h
     refine ac Z Z Z (op_call (vs := [.ptr o0 0, .int .u8 42, .int .i64 p_.l.Args, .int .i64 7]) (H := [(o0, .cells (parse.parser.ct (.own q0) (.own q1) p_)), (q0, .spare), (q1, .spare)]) Z call74 ⟨(tm Z), (AEv.int _ _), (tm Z), (AEv.int _ _), trivial⟩ (List.Perm.refl _) (parse.parser.header.ok r65e o0 q0 q1) ?_)
     rintro _ _ ⟨t66, t67, rfl, rfl⟩
     refine ap (.tup [.int .i64 r65.1, .bool r65.2.1]) Z Z Z (pu_move Z (tm Z)) (ap (.int .i64 r65.1) Z Z Z (pu_extract Z (tm Z) (Nat.le_of_ble_eq_true Z) Z) (ap (.bool r65.2.1) Z Z Z (pu_extract Z (tm Z) (Nat.le_of_ble_eq_true Z) Z) (ap (.int .i64 r65.1) Z Z Z (pu_assign Z (tm Z)) (ap (.bool r65.2.1) Z Z Z (pu_assign Z (tm Z)) (aops_nil ?_)))))
     obtain ⟨s69, s69e, h70⟩ := letO_of h
     refine aw_meet (ν := Unit) (fun v => [(0, .ptr o0 0), (5, .int .i64 r65.1), (6, .bool r65.2.1)]) (fun v => [(o0, .cells (parse.parser.ct (.own t66) (.own t67) { r65.2.2 with in_ := { r65.2.2.in_ with Left := s69 } })), (t66, .spare), (t67, .spare)]) ?_ ?_
     ·have h := s69e.symm
      refine aw_seq (aw_region (ap (.bool r65.2.1) Z Z Z (pu_move Z (tm Z)) (aops_nil (aw_cond (b := r65.2.1) (tm Z) (fun hb72 => ?_) (fun hb72 => ?_)))))
      ·replace h := ite_t hb72 h
       refine aw_region (ap (.ptr o0 0) Z Z Z (pu_move Z (tm Z)) (ap (.int .i64 r65.1) Z Z Z (pu_move Z (tm Z)) (ap (.ptr o0 0) Z Z Z (pu_nilCheck Z (tm Z) Z) (ap (.ptr o0 0) Z Z Z (pu_fieldAddr Z underlying93 Z sizeOf29 (by decide) (tm Z) Z) (ap (.ptr o0 2) Z Z Z (pu_fieldAddr Z underlying29 Z sizeOf3 (by decide) (tm Z) Z) (ac0 Z Z (op_store (i := 0) (cs' := (parse.parser.ct (.own t66) (.own t67) { r65.2.2 with in_ := { r65.2.2.in_ with Left := r65.1 } })) Z sizeOf3 (tm Z) (v := .int .i64 r65.1) (tm Z) Z Z Z (Nat.le_of_ble_eq_true Z) Z (aops_nil ?_))))))))
       subst h
       exact ⟨(), Weak.mkL [0, 1, 2] (by decide) ⟨⟨_, Z, (CellsLe.refl _), Z⟩, ⟨_, Z, Z⟩, ⟨_, Z, Z⟩, trivial⟩ ⟨AEv.tmp Z, AEv.tmp Z, AEv.tmp Z, trivial⟩⟩
      ·replace h := ite_fb hb72 h
       refine aw_skip ?_
       subst h
       exact ⟨(), Weak.mkL [0, 1, 2] (by decide) ⟨⟨_, Z, (CellsLe.refl _), Z⟩, ⟨_, Z, Z⟩, ⟨_, Z, Z⟩, trivial⟩ ⟨AEv.tmp Z, AEv.tmp Z, AEv.tmp Z, trivial⟩⟩
     ·intro _
      have h := h70
      obtain ⟨s81, s81e, h84⟩ := bind_some h
      refine aw_meet (ν := Nat × Nat) (fun v => [(6, .bool r65.2.1)]) (fun v => [(o0, .cells [.str s81.1, .sl (.own v.1) 1 (s81.2.1.map AV.str), .int .i64 s81.2.2.1, .int .i64 s81.2.2.2.1, .bool s81.2.2.2.2.1, .int .i64 s81.2.2.2.2.2.1, .int .i64 s81.2.2.2.2.2.2.1, .str s81.2.2.2.2.2.2.2.1, .int .i64 s81.2.2.2.2.2.2.2.2.1, .int .i64 s81.2.2.2.2.2.2.2.2.2.1, .int .i64 s81.2.2.2.2.2.2.2.2.2.2.1, .sl (.own v.2) 2 (s81.2.2.2.2.2.2.2.2.2.2.2.map api.Request.av)]), (v.1, .spare), (v.2, .spare)]) ?_ ?_
      ·have h := s81e
       refine aw_upd ?_
       obtain ⟨s87, s87e, h88⟩ := letO_of h
       refine aw_meet (ν := Unit) (fun v => [(0, .ptr o0 0), (6, .bool r65.2.1), (78, .bool s87)]) (fun v => [(o0, .cells (parse.parser.ct (.own t66) (.own t67) { r65.2.2 with in_ := { r65.2.2.in_ with Left := s69 } })), (t66, .spare), (t67, .spare)]) ?_ ?_
       ·have h := s87e.symm
        refine aw_region (ap (.bool r65.2.1) Z Z Z (pu_move Z (tm Z)) (ap (.bool r65.2.1) Z Z Z (pu_move Z (tm Z)) ?_))
        rcases Bool.eq_false_or_eq_true r65.2.1 with hb90 | hb90
        ·replace h := ite_t hb90 h
         refine aops_known 75 Z hb90 (agp (.int .i64 r65.1) Z Z Z Z Z Z Z (pu_move Z (tm Z)) (agp (.bool (decide (r65.1 = 0))) Z Z Z Z Z Z Z (pu_int (v := .bool (decide (r65.1 = 0))) Z Z (tm Z) (AEv.int _ _) Z) (ap (.bool (decide (r65.1 = 0))) Z Z Z (pu_pick (b := true) Z (tm Z) (fun _ => (tm Z)) (fun h => nomatch h)) (aops_nil ?_))))
         subst h
         exact ⟨(), Weak.mkL [0, 1, 2] (by decide) ⟨⟨_, Z, (CellsLe.refl _), Z⟩, ⟨_, Z, Z⟩, ⟨_, Z, Z⟩, trivial⟩ ⟨AEv.tmp Z, AEv.tmp Z, (AEv.le (tm Z) (AV.Le.refl _)), trivial⟩⟩
        ·replace h := ite_fb hb90 h
         refine aops_known 75 Z hb90 (an Z Z Z Z Z Z Z Z (an Z Z Z Z Z Z Z Z (ap (.bool false) Z Z Z (pu_pick (b := false) Z (tm Z) (fun h => nomatch h) (fun _ => (AEv.bool _))) (aops_nil ?_))))
         subst h
         exact ⟨(), Weak.mkL [0, 1, 2] (by decide) ⟨⟨_, Z, (CellsLe.refl _), Z⟩, ⟨_, Z, Z⟩, ⟨_, Z, Z⟩, trivial⟩ ⟨AEv.tmp Z, AEv.tmp Z, AEv.tmp Z, trivial⟩⟩
       ·intro _
        have h := h88
        refine aw_cond (b := s87) (tm Z) (fun hb94 => ?_) (fun hb94 => ?_)
        ·replace h := ite_t hb94 h
         refine aw_region (ap (.ptr o0 0) Z Z Z (pu_move Z (tm Z)) ?_)
         obtain ⟨r91, r91e, h⟩ := bind_some h
         refine ac Z Z Z (op_call (vs := [.ptr o0 0, .sl .no 1 (([] : List (List UInt8)).map AV.str)]) (H := [(o0, .cells (parse.parser.ct (.own t66) (.own t67) { r65.2.2 with in_ := { r65.2.2.in_ with Left := s69 } })), (t66, .spare), (t67, .spare)]) Z call76 ⟨(tm Z), (AEv.le (AEv.nil 1 (by decide)) (AV.Le.forget _ _ _)), trivial⟩ (List.Perm.refl _) (parse.parser.whole.ok r91e o0 t66 t67) ?_)
         rintro _ _ ⟨t92, rfl, rfl⟩
         refine aops_nil (upd_claimCell 0 1 Z Z fun t93 => (upd_done ?_))
         obtain rfl := some_of h
         exact ⟨(t93, t92), Weak.mkL [1, 0, 2] (by decide) ⟨⟨_, Z, (CellsLe.refl _), Z⟩, ⟨_, Z, Z⟩, ⟨_, Z, Z⟩, trivial⟩ ⟨AEv.tmp Z, trivial⟩⟩
        ·replace h := ite_fb hb94 h
         refine aw_skip (upd_done ?_)
         obtain rfl := some_of h
         exact ⟨(t66, t67), Weak.mkL [0, 1, 2] (by decide) ⟨⟨_, Z, (CellsLe.refl _), Z⟩, ⟨_, Z, Z⟩, ⟨_, Z, Z⟩, trivial⟩ ⟨AEv.tmp Z, trivial⟩⟩
      ·rintro ⟨n82, n83⟩
       have h := h84
       refine aw_seq (aw_region (ap (.bool r65.2.1) Z Z Z (pu_move Z (tm Z)) (ap (.bool r65.2.1) Z Z Z (pu_assign Z (tm Z)) (aops_nil (aw_ret ?_)))))
       obtain rfl := some_of h
       exact ⟨[.bool r65.2.1], _, [(o0, .cells [.str s81.1, .sl (.own n82) 1 (s81.2.1.map AV.str), .int .i64 s81.2.2.1, .int .i64 s81.2.2.2.1, .bool s81.2.2.2.2.1, .int .i64 s81.2.2.2.2.2.1, .int .i64 s81.2.2.2.2.2.2.1, .str s81.2.2.2.2.2.2.2.1, .int .i64 s81.2.2.2.2.2.2.2.2.1, .int .i64 s81.2.2.2.2.2.2.2.2.2.1, .int .i64 s81.2.2.2.2.2.2.2.2.2.2.1, .sl (.own n83) 2 (s81.2.2.2.2.2.2.2.2.2.2.2.map api.Request.av)]), (n82, .spare), (n83, .spare)], ⟨(tm Z), trivial⟩, (AV.Le.refl _), Weak.mkL [0, 1, 2] (by decide) ⟨⟨_, Z, (CellsLe.refl _), Z⟩, ⟨_, Z, Z⟩, ⟨_, Z, Z⟩, trivial⟩ trivial, ⟨n82, n83, Z, Z⟩⟩

theorem parse.Feed.ok {in_ : api.Input} {b : List UInt8} {l : api.Limits} {r : api.Input × (List api.Request) × Int} (h : parse.Feed in_ b l = some r) : Go.Lift.Spec prog 15 [.agg (api.Input.ct .no in_), .str b, .agg [.int .i64 l.Args, .int .i64 l.Bulk, .int .i64 l.Line]] [] (fun v H => ∃ n0, v = .tup [.agg [.str r.1.Rest, .sl .no 1 (r.1.Args.map AV.str), .int .i64 r.1.Left, .int .i64 r.1.Size, .bool r.1.Body, .int .i64 r.1.Need, .int .i64 r.1.Dead], .sl (.own n0) 2 (r.2.1.map api.Request.av), .int .i64 r.2.2] ∧ H = [(n0, .spare)]) := by
 unfold parse.Feed at h
 refine Go.Lift.Spec.of_body (rs := [.cell 6 29, .tmp 7, .tmp 8]) func15 Z Z (Nat.le_of_ble_eq_true Z) Z (aw_seq (aw_region (ac Z Z Z (op_box (cs := (api.Input.ct .no in_)) (v := .agg (api.Input.ct .no in_)) Z (tm Z) Z Z ?_))))
 intro p64
 refine ac Z Z Z (op_box (cs := [.int .i64 l.Args, .int .i64 l.Bulk, .int .i64 l.Line]) (v := .agg [.int .i64 l.Args, .int .i64 l.Bulk, .int .i64 l.Line]) Z (tm Z) Z Z ?_)
 intro p65
 refine ac Z Z Z (op_alloc (cs := [.str ([] : List UInt8), .sl .full 1 (([] : List (List UInt8)).map AV.str), .int .i64 0, .int .i64 0, .bool false, .int .i64 0, .int .i64 0]) (v := .agg [.str ([] : List UInt8), .sl .full 1 (([] : List (List UInt8)).map AV.str), .int .i64 0, .int .i64 0, .bool false, .int .i64 0, .int .i64 0]) Z zeroValue29 Z Z Z ?_)
 intro p66
 refine ap (.sl .full 2 (([] : List api.Request).map api.Request.av)) Z Z Z (pu_assign Z (AEv.nil 2 (by decide))) (ap (.int .i64 0) Z Z Z (pu_assign Z (AEv.int _ _)) (aops_nil (aw_seq (aw_seq (aw_region (ap (.ptr p64 6) Z Z Z (pu_fieldAddr Z underlying29 Z sizeOf27 (by decide) (tm Z) Z) (ac Z Z Z (op_load1 (i := 2) Z isAgg27 (tm Z) Z Z (ap (.bool (!decide (in_.Dead = 0))) Z Z Z (pu_int (v := .bool (!decide (in_.Dead = 0))) Z Z (tm Z) (AEv.int _ _) Z) (aops_nil ?_))))))))))
 refine aw_cond (b := (!decide (in_.Dead = 0))) (tm Z) (fun hb127 => ?_) (fun hb127 => ?_)
 ·replace h := ite_f (ndec_t hb127) h
  refine aw_seq (aw_plan (by decide +kernel) [([], some 13, [3]), ([0], some 14, [13]), ([1], some 15, [14]), ([], some 16, [3]), ([3], some 17, [16]), ([2, 0, 1, 2], none, [6, 15]), ([5, 0, 1, 2, 5], some 7, []), ([4, 6, 0, 1, 2, 3, 4, 5, 6], some 8, [17])] Z [[], [0], [0, 1], [], [3], [0, 1, 2], [0, 1, 2, 5], [0, 1, 2, 3, 4, 5, 6]] [[], [(2, 0, false)], [], [], [(2, 0, false)], [(0, 0, true)], [], []] [[5], [], []] [[[(p66, .cells [.str ([] : List UInt8), .sl .full 1 (([] : List (List UInt8)).map AV.str), .int .i64 0, .int .i64 0, .bool false, .int .i64 0, .int .i64 0])], [(p66, .cells [.str ([] : List UInt8), .sl .full 1 (([] : List (List UInt8)).map AV.str), .int .i64 0, .int .i64 0, .bool false, .int .i64 0, .int .i64 in_.Dead])]], [[(p65, .cells [.int .i64 l.Args, .int .i64 l.Bulk, .int .i64 l.Line])]], [[(p64, .cells (api.Input.ct .no in_))]]] [.ptr p64 6, .int .i64 in_.Dead, .agg [.str ([] : List UInt8), .sl .full 1 (([] : List (List UInt8)).map AV.str), .int .i64 0, .int .i64 0, .bool false, .int .i64 0, .int .i64 in_.Dead], .ptr p64 6, .int .i64 in_.Dead, .un, .sl .full 2 (([] : List api.Request).map api.Request.av), .int .i64 in_.Dead] (by decide +kernel) Z Z ?_ ?_)
  ·refine ⟨⟨[3], Z, stepg_pure Z (pu_fieldAddr Z underlying29 Z sizeOf27 (by decide) (tm Z) Z)⟩, ?_⟩
   refine ⟨⟨[13], Z, stepg_plain Z (op_load1 (i := 0) Z isAgg27 (tm Z) Z Z ⟨Z, Z⟩)⟩, ?_⟩
   refine ⟨⟨[14], Z, stepg_pure Z (pu_build (zs := [.str ([] : List UInt8), .sl .full 1 (([] : List (List UInt8)).map AV.str), .int .i64 0, .int .i64 0, .bool false, .int .i64 0, .int .i64 0]) (szs := [1, 1, 1, 1, 1, 1, 1]) (aparts := [(6, .int .i64 in_.Dead)]) (cs := [.str ([] : List UInt8), .sl .full 1 (([] : List (List UInt8)).map AV.str), .int .i64 0, .int .i64 0, .bool false, .int .i64 0, .int .i64 in_.Dead]) Z underlying29 zeroValue29 Z ⟨sizeOf9, sizeOf26, sizeOf3, sizeOf3, sizeOf4, sizeOf3, sizeOf27, trivial⟩ ⟨Z, (tm Z), trivial⟩ Z)⟩, ?_⟩
   refine ⟨⟨[3], Z, stepg_pure Z (pu_fieldAddr Z underlying29 Z sizeOf27 (by decide) (tm Z) Z)⟩, ?_⟩
   refine ⟨⟨[16], Z, stepg_plain Z (op_load1 (i := 0) Z isAgg27 (tm Z) Z Z ⟨Z, Z⟩)⟩, ?_⟩
   refine ⟨⟨[6, 15], Z, stepg_plain Z (op_store (i := 0) (cs' := [.str ([] : List UInt8), .sl .full 1 (([] : List (List UInt8)).map AV.str), .int .i64 0, .int .i64 0, .bool false, .int .i64 0, .int .i64 in_.Dead]) Z sizeOf29 (tm Z) (v := .agg [.str ([] : List UInt8), .sl .full 1 (([] : List (List UInt8)).map AV.str), .int .i64 0, .int .i64 0, .bool false, .int .i64 0, .int .i64 in_.Dead]) (tm Z) Z Z Z (Nat.le_of_ble_eq_true Z) Z ⟨Z, Z⟩)⟩, ?_⟩
   refine ⟨⟨[], Z, stepg_pure Z (pu_assign Z (AEv.nil 2 (by decide)))⟩, ?_⟩
   refine ⟨⟨[17], Z, stepg_pure Z (pu_assign Z (tm Z))⟩, ?_⟩
   trivial
  refine aw_claim 7 (tm Z) fun t67 => (aw_ret ?_)
  obtain rfl := some_of h
  exact ⟨[.agg [.str ([] : List UInt8), .sl .full 1 (([] : List (List UInt8)).map AV.str), .int .i64 0, .int .i64 0, .bool false, .int .i64 0, .int .i64 in_.Dead], .sl (.own t67) 2 (([] : List api.Request).map api.Request.av), .int .i64 in_.Dead], .tup [.agg [.str ([] : List UInt8), .sl .no 1 (([] : List (List UInt8)).map AV.str), .int .i64 0, .int .i64 0, .bool false, .int .i64 0, .int .i64 in_.Dead], .sl (.own t67) 2 (([] : List api.Request).map api.Request.av), .int .i64 in_.Dead], [(t67, .spare)], ⟨(CellOk.agg 1 (tm Z) Z isAgg29 sizeOf29 (Nat.le_of_ble_eq_true Z) Z), (tm Z), (tm Z), trivial⟩, (AV.Le.tup ⟨(AV.Le.agg ⟨(AV.Le.refl _), (AV.Le.forget _ _ _), (AV.Le.refl _), (AV.Le.refl _), (AV.Le.refl _), (AV.Le.refl _), (AV.Le.refl _), trivial⟩), (AV.Le.refl _), (AV.Le.refl _), trivial⟩), Weak.mkL [0] (by decide) ⟨⟨_, Z, Z⟩, trivial⟩ trivial, ⟨t67, Z, Z⟩⟩
 ·replace h := ite_t (ndec_f hb127) h
  refine aw_skip (aw_seq ?_)
  obtain ⟨c68, h⟩ := need_of h
  obtain ⟨r69, r69e, h⟩ := bind_some h
  refine aw_reserve fun p70 => (aw_plan (by decide +kernel) [([], some 18, [3]), ([], some 19, [3]), ([1], some 20, [19]), ([], some 21, [1]), ([2, 3], some 22, [20, 21]), ([], some 23, [5]), ([5], some 24, [23]), ([0, 4, 6], some 25, [18, 22, 24]), ([7], some 26, [25]), ([8, 6, 0, 1, 2, 3, 4, 5, 6, 7, 8], some 9, [26])] Z [[], [], [1], [], [1, 2, 3], [], [5], [0, 1, 2, 3, 4, 5, 6], [0, 1, 2, 3, 4, 5, 6, 7], [0, 1, 2, 3, 4, 5, 6, 7, 8]] [[(3, 0, false)], [], [(3, 0, false)], [], [], [(2, 0, false)], [], [], [(0, 0, true)], []] [[8], [], [], []] [[[(p70, .resv)], [(p70, .cells (parse.parser.ct .no .full ({ in_ := in_, s := in_.Rest ++ b, l := r69, out := ([] : List api.Request) } : parse.parser)))]], [[(p66, .cells [.str ([] : List UInt8), .sl .full 1 (([] : List (List UInt8)).map AV.str), .int .i64 0, .int .i64 0, .bool false, .int .i64 0, .int .i64 0])]], [[(p65, .cells [.int .i64 l.Args, .int .i64 l.Bulk, .int .i64 l.Line])]], [[(p64, .cells (api.Input.ct .no in_))]]] [.agg (api.Input.ct .no in_), .ptr p64 0, .str in_.Rest, .str b, .str (in_.Rest ++ b), .agg [.int .i64 l.Args, .int .i64 l.Bulk, .int .i64 l.Line], .agg [.int .i64 r69.Args, .int .i64 r69.Bulk, .int .i64 r69.Line], .agg (parse.parser.ct .no .full ({ in_ := in_, s := in_.Rest ++ b, l := r69, out := ([] : List api.Request) } : parse.parser)), .ptr p70 0, .ptr p70 0] (by decide +kernel) Z Z ?_ ?_)
  ·refine ⟨⟨[3], Z, stepg_plain Z (op_loadN (i := 0) Z isAgg29 sizeOf29 (tm Z) Z (Nat.le_of_ble_eq_true Z) Z ⟨Z, Z⟩)⟩, ?_⟩
   refine ⟨⟨[3], Z, stepg_pure Z (pu_fieldAddr Z underlying29 Z sizeOf9 (by decide) (tm Z) Z)⟩, ?_⟩
   refine ⟨⟨[19], Z, stepg_plain Z (op_load1 (i := 0) Z isAgg9 (tm Z) Z Z ⟨Z, Z⟩)⟩, ?_⟩
   refine ⟨⟨[1], Z, stepg_pure Z (pu_move Z (tm Z))⟩, ?_⟩
   refine ⟨⟨[20, 21], Z, stepg_pure Z (pu_strAdd Z (tm Z) (tm Z) c68)⟩, ?_⟩
   refine ⟨⟨[5], Z, stepg_plain Z (op_loadN (i := 0) Z isAgg23 sizeOf23 (tm Z) Z (Nat.le_of_ble_eq_true Z) Z ⟨Z, Z⟩)⟩, ?_⟩
   refine ⟨⟨[23], Z, stepg_plain Z (op_call (vs := [.agg [.int .i64 l.Args, .int .i64 l.Bulk, .int .i64 l.Line]]) (H := []) Z call19 ⟨(tm Z), trivial⟩ (R := []) (List.Perm.refl _) (parse.Limits.ok r69e) (by rintro _ _ ⟨rfl, rfl⟩; exact ⟨Z, Z⟩))⟩, ?_⟩
   refine ⟨⟨[18, 22, 24], Z, stepg_pure Z (pu_build (zs := [.str ([] : List UInt8), .sl .full 1 (([] : List (List UInt8)).map AV.str), .int .i64 0, .int .i64 0, .bool false, .int .i64 0, .int .i64 0, .str ([] : List UInt8), .int .i64 0, .int .i64 0, .int .i64 0, .sl .full 2 (([] : List api.Request).map api.Request.av)]) (szs := [7, 1, 3, 1]) (aparts := [(0, .agg (api.Input.ct .no in_)), (1, .str (in_.Rest ++ b)), (2, .agg [.int .i64 r69.Args, .int .i64 r69.Bulk, .int .i64 r69.Line])]) (cs := [.str in_.Rest, .sl .no 1 (in_.Args.map AV.str), .int .i64 in_.Left, .int .i64 in_.Size, .bool in_.Body, .int .i64 in_.Need, .int .i64 in_.Dead, .str (in_.Rest ++ b), .int .i64 r69.Args, .int .i64 r69.Bulk, .int .i64 r69.Line, .sl .full 2 (([] : List api.Request).map api.Request.av)]) Z underlying93 zeroValue93 Z ⟨sizeOf29, sizeOf9, sizeOf23, sizeOf30, trivial⟩ ⟨Z, (tm Z), ⟨Z, (tm Z), ⟨Z, (tm Z), trivial⟩⟩⟩ Z)⟩, ?_⟩
   refine ⟨⟨[25], Z, stepg_plain Z (aop_settleP (op_box (cs := (parse.parser.ct .no .full ({ in_ := in_, s := in_.Rest ++ b, l := r69, out := ([] : List api.Request) } : parse.parser))) (v := .agg (parse.parser.ct .no .full ({ in_ := in_, s := in_.Rest ++ b, l := r69, out := ([] : List api.Request) } : parse.parser))) Z (tm Z) Z Z fun t => ⟨t, Z, Z⟩) ⟨Z, Z⟩)⟩, ?_⟩
   refine ⟨⟨[26], Z, stepg_pure Z (pu_assign Z (tm Z))⟩, ?_⟩
   trivial
  refine aw_seq (aw_region (ap (.ptr p70 0) Z Z Z (pu_move Z (tm Z)) (ap (.ptr p70 0) Z Z Z (pu_move Z (tm Z)) (ap (.ptr p64 1) Z Z Z (pu_fieldAddr Z underlying29 Z sizeOf26 (by decide) (tm Z) Z) (ac Z Z Z (op_load1 (i := 3) Z isAgg26 (tm Z) Z Z ?_))))))
  obtain ⟨r71, r71e, h⟩ := bind_some h
  refine ac Z Z Z (op_call (vs := [.sl .no 1 (in_.Args.map AV.str)]) (H := []) Z call50 ⟨(tm Z), trivial⟩ (List.Perm.refl _) (slices.Clone_string.ok r71e) ?_)
  rintro _ _ ⟨t72, rfl, rfl⟩
  refine ap (.ptr p70 0) Z Z Z (pu_nilCheck Z (tm Z) Z) (ap (.ptr p70 0) Z Z Z (pu_fieldAddr Z underlying93 Z sizeOf29 (by decide) (tm Z) Z) (ap (.ptr p70 1) Z Z Z (pu_fieldAddr Z underlying29 Z sizeOf26 (by decide) (tm Z) Z) (ac0 Z Z (op_store (i := 1) (cs' := (parse.parser.ct (.own t72) .full ({ in_ := { in_ with Args := r71 }, s := in_.Rest ++ b, l := r69, out := ([] : List api.Request) } : parse.parser))) Z sizeOf26 (tm Z) (v := .sl (.own t72) 1 (r71.map AV.str)) (tm Z) Z Z Z (Nat.le_of_ble_eq_true Z) Z (ap (.ptr p70 0) Z Z Z (pu_nilCheck Z (tm Z) Z) (ap (.ptr p70 0) Z Z Z (pu_fieldAddr Z underlying93 Z sizeOf29 (by decide) (tm Z) Z) (ap (.ptr p70 0) Z Z Z (pu_fieldAddr Z underlying29 Z sizeOf9 (by decide) (tm Z) Z) (ac0 Z Z (op_store (i := 1) (cs' := (parse.parser.ct (.own t72) .full ({ in_ := { in_ with Rest := ([] : List UInt8), Args := r71 }, s := in_.Rest ++ b, l := r69, out := ([] : List api.Request) } : parse.parser))) Z sizeOf9 (tm Z) (v := .str ([] : List UInt8)) (AEv.const Z) Z Z Z (Nat.le_of_ble_eq_true Z) Z (aops_nil ?_))))))))))
  obtain ⟨s97, s97e, h100⟩ := bind_some h
  refine aw_meet (ν := Nat × Nat) (fun v => [(6, .ptr p66 0), (9, .ptr p70 0)]) (fun v => [(p66, .cells [.str ([] : List UInt8), .sl .full 1 (([] : List (List UInt8)).map AV.str), .int .i64 0, .int .i64 0, .bool false, .int .i64 0, .int .i64 0]), (p70, .cells [.str s97.1, .sl (.own v.1) 1 (s97.2.1.map AV.str), .int .i64 s97.2.2.1, .int .i64 s97.2.2.2.1, .bool s97.2.2.2.2.1, .int .i64 s97.2.2.2.2.2.1, .int .i64 s97.2.2.2.2.2.2.1, .str s97.2.2.2.2.2.2.2.1, .int .i64 s97.2.2.2.2.2.2.2.2.1, .int .i64 s97.2.2.2.2.2.2.2.2.2.1, .int .i64 s97.2.2.2.2.2.2.2.2.2.2.1, .sl (.own v.2) 2 (s97.2.2.2.2.2.2.2.2.2.2.2.map api.Request.av)]), (v.1, .spare), (v.2, .spare)]) ?_ ?_
  ·have h := s97e
   refine aw_block (aw_claimCell 1 11 Z Z fun t125 => (aw_while (σ := parse.Feed.S0) (ν := Nat × Nat) (parse.Feed.body0 in_ l) (fun s115 v => [(6, .ptr p66 0), (9, .ptr p70 0)]) (fun s115 v => [(p66, .cells [.str ([] : List UInt8), .sl .full 1 (([] : List (List UInt8)).map AV.str), .int .i64 0, .int .i64 0, .bool false, .int .i64 0, .int .i64 0]), (p70, .cells [.str s115.c, .sl (.own v.1) 1 (s115.c2.map AV.str), .int .i64 s115.c3, .int .i64 s115.c4, .bool s115.c5, .int .i64 s115.c6, .int .i64 s115.c7, .str s115.c8, .int .i64 s115.c9, .int .i64 s115.c10, .int .i64 s115.c11, .sl (.own v.2) 2 (s115.c12.map api.Request.av)]), (v.1, .spare), (v.2, .spare)]) ⟨([] : List UInt8), r71, in_.Left, in_.Size, in_.Body, in_.Need, in_.Dead, in_.Rest ++ b, r69.Args, r69.Bulk, r69.Line, ([] : List api.Request)⟩ (t72, t125) _ h (Weak.mkL [3, 2, 1, 0] (by decide) ⟨⟨_, Z, (CellsLe.refl _), Z⟩, ⟨_, Z, ⟨(AV.Le.refl _), (AV.Le.refl _), (AV.Le.refl _), (AV.Le.refl _), (AV.Le.refl _), (AV.Le.refl _), (AV.Le.refl _), (AV.Le.refl _), (AV.Le.refl _), (AV.Le.refl _), (AV.Le.refl _), (AV.Le.refl _), trivial⟩, Z⟩, ⟨_, Z, Z⟩, ⟨_, Z, Z⟩, trivial⟩ ⟨AEv.tmp Z, AEv.tmp Z, trivial⟩) ?_))
   rintro s115 ⟨n116, n117⟩ x119 h hx118
   unfold parse.Feed.body0 at h
   refine aw_seq (aw_seq (aw_region (ap (.ptr p70 0) Z Z Z (pu_move Z (tm Z)) ?_)))
   obtain ⟨r121, r121e, h⟩ := bind_some h
   refine aops_weak (weak_pick [1, 2, 3, 0] (by decide) Z) (ac Z Z Z (op_call (vs := [.ptr p70 0]) (H := [(p70, .cells [.str s115.c, .sl (.own n116) 1 (s115.c2.map AV.str), .int .i64 s115.c3, .int .i64 s115.c4, .bool s115.c5, .int .i64 s115.c6, .int .i64 s115.c7, .str s115.c8, .int .i64 s115.c9, .int .i64 s115.c10, .int .i64 s115.c11, .sl (.own n117) 2 (s115.c12.map api.Request.av)]), (n116, .spare), (n117, .spare)]) Z call51 ⟨(tm Z), trivial⟩ (List.Perm.refl _) (parse.parser.step.ok r121e p70 n116 n117) ?_))
   rintro _ _ ⟨t122, t123, rfl, rfl⟩
   refine aops_nil (aw_cond (b := r121.1) (tm Z) (fun hb124 => ?_) (fun hb124 => ?_))
   ·replace h := ite_t hb124 h
    refine aw_skip (aw_block (aw_skip ?_))
    obtain rfl := some_of h
    exact ⟨_, (t122, t123), Z, Weak.mkL [3, 0, 1, 2] (by decide) ⟨⟨_, Z, (CellsLe.refl _), Z⟩, ⟨_, Z, (CellsLe.refl _), Z⟩, ⟨_, Z, Z⟩, ⟨_, Z, Z⟩, trivial⟩ ⟨AEv.tmp Z, AEv.tmp Z, trivial⟩⟩
   ·replace h := ite_fb hb124 h
    refine aw_exit ?_
    obtain rfl := some_of h
    have h := congrArg some (hx118 _ rfl)
    obtain rfl := some_of h
    exact ⟨(t122, t123), Weak.mkL [3, 0, 1, 2] (by decide) ⟨⟨_, Z, (CellsLe.refl _), Z⟩, ⟨_, Z, (CellsLe.refl _), Z⟩, ⟨_, Z, Z⟩, ⟨_, Z, Z⟩, trivial⟩ ⟨AEv.tmp Z, AEv.tmp Z, trivial⟩⟩
  ·rintro ⟨n98, n99⟩
   have h := h100
   refine aw_seq (aw_region (ap (.ptr p70 0) Z Z Z (pu_move Z (tm Z)) (ap (.ptr p70 0) Z Z Z (pu_move Z (tm Z)) (ap (.ptr p70 0) Z Z Z (pu_nilCheck Z (tm Z) Z) (ap (.ptr p70 7) Z Z Z (pu_fieldAddr Z underlying93 Z sizeOf9 (by decide) (tm Z) Z) (ac Z Z Z (op_load1 (i := 1) Z isAgg9 (tm Z) Z Z ?_)))))))
   obtain ⟨r126, r126e, h⟩ := bind_some h
   refine ac Z Z Z (op_call (vs := [.str s97.2.2.2.2.2.2.2.1]) (H := []) Z call52 ⟨(tm Z), trivial⟩ (List.Perm.refl _) (strings.Clone.ok r126e) ?_)
   rintro _ _ ⟨rfl, rfl⟩
   refine ap (.ptr p70 0) Z Z Z (pu_nilCheck Z (tm Z) Z) (ap (.ptr p70 0) Z Z Z (pu_fieldAddr Z underlying93 Z sizeOf29 (by decide) (tm Z) Z) (ap (.ptr p70 0) Z Z Z (pu_fieldAddr Z underlying29 Z sizeOf9 (by decide) (tm Z) Z) (ac0 Z Z (op_store (i := 1) (cs' := [.str r126, .sl (.own n98) 1 (s97.2.1.map AV.str), .int .i64 s97.2.2.1, .int .i64 s97.2.2.2.1, .bool s97.2.2.2.2.1, .int .i64 s97.2.2.2.2.2.1, .int .i64 s97.2.2.2.2.2.2.1, .str s97.2.2.2.2.2.2.2.1, .int .i64 s97.2.2.2.2.2.2.2.2.1, .int .i64 s97.2.2.2.2.2.2.2.2.2.1, .int .i64 s97.2.2.2.2.2.2.2.2.2.2.1, .sl (.own n99) 2 (s97.2.2.2.2.2.2.2.2.2.2.2.map api.Request.av)]) Z sizeOf9 (tm Z) (v := .str r126) (tm Z) Z Z Z (Nat.le_of_ble_eq_true Z) Z (aops_nil (aw_seq (aw_plan (by decide +kernel) [([], some 49, [9]), ([0], some 50, [49]), ([1], some 51, [50]), ([2], some 52, [51]), ([], some 53, [9]), ([4], some 54, [53]), ([5], some 55, [54]), ([6], some 56, [55]), ([], some 57, [9]), ([8], some 58, [57]), ([9], some 59, [58]), ([10], some 60, [59]), ([11], some 61, [60]), ([3, 0, 1, 2, 3], none, [6, 52]), ([7, 13, 0, 1, 2, 3, 4, 5, 6, 7, 13], some 7, [56]), ([12, 14, 0, 1, 2, 3, 4, 5, 6, 7, 8, 9, 10, 11, 12, 13, 14], some 8, [61])] Z [[], [0], [0, 1], [0, 1, 2], [], [4], [4, 5], [4, 5, 6], [], [8], [8, 9], [8, 9, 10], [8, 9, 10, 11], [0, 1, 2, 3], [0, 1, 2, 3, 4, 5, 6, 7, 13], [0, 1, 2, 3, 4, 5, 6, 7, 8, 9, 10, 11, 12, 13, 14]] [[], [], [], [(1, 0, false)], [], [], [], [(1, 0, false)], [], [], [], [], [(1, 0, false)], [(0, 0, true)], [], []] [[13], [], [], []] [[[(p66, .cells [.str ([] : List UInt8), .sl .full 1 (([] : List (List UInt8)).map AV.str), .int .i64 0, .int .i64 0, .bool false, .int .i64 0, .int .i64 0])], [(p66, .cells [.str r126, .sl (.own n98) 1 (s97.2.1.map AV.str), .int .i64 s97.2.2.1, .int .i64 s97.2.2.2.1, .bool s97.2.2.2.2.1, .int .i64 s97.2.2.2.2.2.1, .int .i64 s97.2.2.2.2.2.2.1])]], [[(p70, .cells [.str r126, .sl (.own n98) 1 (s97.2.1.map AV.str), .int .i64 s97.2.2.1, .int .i64 s97.2.2.2.1, .bool s97.2.2.2.2.1, .int .i64 s97.2.2.2.2.2.1, .int .i64 s97.2.2.2.2.2.2.1, .str s97.2.2.2.2.2.2.2.1, .int .i64 s97.2.2.2.2.2.2.2.2.1, .int .i64 s97.2.2.2.2.2.2.2.2.2.1, .int .i64 s97.2.2.2.2.2.2.2.2.2.2.1, .sl (.own n99) 2 (s97.2.2.2.2.2.2.2.2.2.2.2.map api.Request.av)])]], [[(n98, .spare)]], [[(n99, .spare)]]] [.ptr p70 0, .ptr p70 0, .ptr p70 0, .agg [.str r126, .sl (.own n98) 1 (s97.2.1.map AV.str), .int .i64 s97.2.2.1, .int .i64 s97.2.2.2.1, .bool s97.2.2.2.2.1, .int .i64 s97.2.2.2.2.2.1, .int .i64 s97.2.2.2.2.2.2.1], .ptr p70 0, .ptr p70 0, .ptr p70 11, .sl (.own n99) 2 (s97.2.2.2.2.2.2.2.2.2.2.2.map api.Request.av), .ptr p70 0, .ptr p70 0, .ptr p70 0, .ptr p70 6, .int .i64 s97.2.2.2.2.2.2.1, .un, .sl (.own n99) 2 (s97.2.2.2.2.2.2.2.2.2.2.2.map api.Request.av), .int .i64 s97.2.2.2.2.2.2.1] (by decide +kernel) Z Z ?_ ?_)))))))
   ·refine ⟨⟨[9], Z, stepg_pure Z (pu_move Z (tm Z))⟩, ?_⟩
    refine ⟨⟨[49], Z, stepg_pure Z (pu_nilCheck Z (tm Z) Z)⟩, ?_⟩
    refine ⟨⟨[50], Z, stepg_pure Z (pu_fieldAddr Z underlying93 Z sizeOf29 (by decide) (tm Z) Z)⟩, ?_⟩
    refine ⟨⟨[51], Z, stepg_plain Z (op_loadN (i := 0) Z isAgg29 sizeOf29 (tm Z) Z (Nat.le_of_ble_eq_true Z) Z ⟨Z, Z⟩)⟩, ?_⟩
    refine ⟨⟨[9], Z, stepg_pure Z (pu_move Z (tm Z))⟩, ?_⟩
    refine ⟨⟨[53], Z, stepg_pure Z (pu_nilCheck Z (tm Z) Z)⟩, ?_⟩
    refine ⟨⟨[54], Z, stepg_pure Z (pu_fieldAddr Z underlying93 Z sizeOf30 (by decide) (tm Z) Z)⟩, ?_⟩
    refine ⟨⟨[55], Z, stepg_plain Z (op_load1 (i := 0) Z isAgg30 (tm Z) Z Z ⟨Z, Z⟩)⟩, ?_⟩
    refine ⟨⟨[9], Z, stepg_pure Z (pu_move Z (tm Z))⟩, ?_⟩
    refine ⟨⟨[57], Z, stepg_pure Z (pu_nilCheck Z (tm Z) Z)⟩, ?_⟩
    refine ⟨⟨[58], Z, stepg_pure Z (pu_fieldAddr Z underlying93 Z sizeOf29 (by decide) (tm Z) Z)⟩, ?_⟩
    refine ⟨⟨[59], Z, stepg_pure Z (pu_fieldAddr Z underlying29 Z sizeOf27 (by decide) (tm Z) Z)⟩, ?_⟩
    refine ⟨⟨[60], Z, stepg_plain Z (op_load1 (i := 0) Z isAgg27 (tm Z) Z Z ⟨Z, Z⟩)⟩, ?_⟩
    refine ⟨⟨[6, 52], Z, stepg_plain Z (op_store (i := 0) (cs' := [.str r126, .sl (.own n98) 1 (s97.2.1.map AV.str), .int .i64 s97.2.2.1, .int .i64 s97.2.2.2.1, .bool s97.2.2.2.2.1, .int .i64 s97.2.2.2.2.2.1, .int .i64 s97.2.2.2.2.2.2.1]) Z sizeOf29 (tm Z) (v := .agg [.str r126, .sl (.own n98) 1 (s97.2.1.map AV.str), .int .i64 s97.2.2.1, .int .i64 s97.2.2.2.1, .bool s97.2.2.2.2.1, .int .i64 s97.2.2.2.2.2.1, .int .i64 s97.2.2.2.2.2.2.1]) (tm Z) Z Z Z (Nat.le_of_ble_eq_true Z) Z ⟨Z, Z⟩)⟩, ?_⟩
    refine ⟨⟨[56], Z, stepg_pure Z (pu_assign Z (tm Z))⟩, ?_⟩
    refine ⟨⟨[61], Z, stepg_pure Z (pu_assign Z (tm Z))⟩, ?_⟩
    trivial
   refine aw_ret ?_
   obtain rfl := some_of h
   exact ⟨[.agg [.str r126, .sl (.own n98) 1 (s97.2.1.map AV.str), .int .i64 s97.2.2.1, .int .i64 s97.2.2.2.1, .bool s97.2.2.2.2.1, .int .i64 s97.2.2.2.2.2.1, .int .i64 s97.2.2.2.2.2.2.1], .sl (.own n99) 2 (s97.2.2.2.2.2.2.2.2.2.2.2.map api.Request.av), .int .i64 s97.2.2.2.2.2.2.1], .tup [.agg [.str r126, .sl .no 1 (s97.2.1.map AV.str), .int .i64 s97.2.2.1, .int .i64 s97.2.2.2.1, .bool s97.2.2.2.2.1, .int .i64 s97.2.2.2.2.2.1, .int .i64 s97.2.2.2.2.2.2.1], .sl (.own n99) 2 (s97.2.2.2.2.2.2.2.2.2.2.2.map api.Request.av), .int .i64 s97.2.2.2.2.2.2.1], [(n99, .spare)], ⟨(CellOk.agg 0 (tm Z) Z isAgg29 sizeOf29 (Nat.le_of_ble_eq_true Z) Z), (tm Z), (tm Z), trivial⟩, (AV.Le.tup ⟨(AV.Le.agg ⟨(AV.Le.refl _), (AV.Le.forget _ _ _), (AV.Le.refl _), (AV.Le.refl _), (AV.Le.refl _), (AV.Le.refl _), (AV.Le.refl _), trivial⟩), (AV.Le.refl _), (AV.Le.refl _), trivial⟩), Weak.mkL [3] (by decide) ⟨⟨_, Z, Z⟩, trivial⟩ trivial, ⟨n99, Z, Z⟩⟩

theorem mewsref01.digits.rec.ok (kk : Nat) : ∀ {n_ : Int} {r : List UInt8} (h : mewsref01.digits.rec kk n_ = some r), Go.Lift.Spec prog 81 [.int .i64 n_] [] (fun v H => v = .str r ∧ H = []) := by
 induction kk with
 | zero => intro n_ r h; exact nomatch h
 | succ kk ih =>
  intro n_ r h
  rw [mewsref01.digits.rec.eq_2] at h
  refine Go.Lift.Spec.of_body (rs := [.tmp 2]) func81 Z Z (Nat.le_of_ble_eq_true Z) Z (aw_seq (aw_region (ap (.str ([] : List UInt8)) Z Z Z (pu_assign Z (AEv.const Z)) (aops_nil (aw_seq (aw_region (ap (.str [48, 49, 50, 51, 52, 53, 54, 55, 56, 57]) Z Z Z (pu_assign Z (AEv.const Z)) (aops_nil (aw_seq ?_)))))))))
  refine aw_region (ap (.int .i64 n_) Z Z Z (pu_move Z (tm Z)) (ap (.int .i64 (n_.tmod 10)) Z Z Z (pu_rem Z (tm Z) (AEv.int _ _) (by decide)) (ap (.int .i64 (IntKind.wrap .i64 (0 - (n_.tmod 10)))) Z Z Z (pu_neg Z (tm Z)) (ap (.int .i64 (IntKind.wrap .i64 (0 - (n_.tmod 10)))) Z Z Z (pu_assign Z (tm Z)) (aops_nil (aw_seq (aw_seq (aw_region (ap (.int .i64 n_) Z Z Z (pu_move Z (tm Z)) ?_)))))))))
  refine ap (.bool (decide ((-10) < n_))) Z Z Z (pu_int (v := .bool (decide ((-10) < n_))) Z Z (tm Z) (AEv.int _ _) Z) (aops_nil (aw_cond (b := decide ((-10) < n_)) (tm Z) (fun hb14 => ?_) (fun hb14 => ?_)))
  ·replace h := ite_t (dec_t hb14) h
   refine aw_seq (aw_region (ap (.str [48, 49, 50, 51, 52, 53, 54, 55, 56, 57]) Z Z Z (pu_move Z (tm Z)) (ap (.int .i64 (IntKind.wrap .i64 (0 - (n_.tmod 10)))) Z Z Z (pu_move Z (tm Z)) (ap (.int .i64 (IntKind.wrap .i64 (0 - (n_.tmod 10)))) Z Z Z (pu_move Z (tm Z)) (ap (.int .i64 (IntKind.wrap .i64 ((IntKind.wrap .i64 (0 - (n_.tmod 10))) + 1))) Z Z Z (pu_int (v := .int .i64 (IntKind.wrap .i64 ((IntKind.wrap .i64 (0 - (n_.tmod 10))) + 1))) Z Z (tm Z) (AEv.int _ _) Z) ?_)))))
   obtain ⟨c8, h⟩ := need_of h
   obtain ⟨x9, x9e, h⟩ := letO_of h
   refine ap (.str x9) Z Z Z (APure.eq (pu_strSliceM Z underlying9 (tm Z) ⟨_, (tm Z)⟩ ⟨_, (tm Z)⟩ c8) (congrArg (AV.str) x9e.symm)) (ap (.str x9) Z Z Z (pu_assign Z (tm Z)) (aops_nil (aw_ret ?_)))
   obtain rfl := some_of h
   exact ⟨[.str x9], _, [], ⟨(tm Z), trivial⟩, (AV.Le.refl _), Weak.mkL [] (by decide) trivial trivial, ⟨Z, Z⟩⟩
  ·replace h := ite_f (dec_f hb14) h
   refine aw_skip (aw_seq ?_)
   obtain ⟨r10, r10e, h⟩ := bind_some h
   obtain ⟨c11, h⟩ := need_of h
   obtain ⟨x12, x12e, h⟩ := letO_of h
   obtain ⟨c13, h⟩ := need_of h
   refine aw_plan (by decide +kernel) [([], some 15, [0]), ([0], some 16, [15]), ([1], some 17, [16]), ([], some 18, [3]), ([], some 19, [4]), ([], some 20, [4]), ([5], some 21, [20]), ([3, 4, 6], some 22, [18, 19, 21]), ([2, 7], some 23, [17, 22]), ([8, 2, 0, 1, 2, 3, 4, 5, 6, 7, 8], some 2, [23])] Z [[], [0], [0, 1], [], [], [], [5], [3, 4, 5, 6], [0, 1, 2, 3, 4, 5, 6, 7], [0, 1, 2, 3, 4, 5, 6, 7, 8]] [[], [], [], [], [], [], [], [], [], []] [] [] [.int .i64 n_, .int .i64 (IntKind.wrap .i64 (n_.tdiv 10)), .str r10, .str [48, 49, 50, 51, 52, 53, 54, 55, 56, 57], .int .i64 (IntKind.wrap .i64 (0 - (n_.tmod 10))), .int .i64 (IntKind.wrap .i64 (0 - (n_.tmod 10))), .int .i64 (IntKind.wrap .i64 ((IntKind.wrap .i64 (0 - (n_.tmod 10))) + 1)), .str x12, .str (r10 ++ x12), .str (r10 ++ x12)] (by decide +kernel) Z Z ?_ ?_
   ·refine ⟨⟨[0], Z, stepg_pure Z (pu_move Z (tm Z))⟩, ?_⟩
    refine ⟨⟨[15], Z, stepg_pure Z (pu_quo Z (tm Z) (AEv.int _ _) (by decide))⟩, ?_⟩
    refine ⟨⟨[16], Z, stepg_plain Z (op_call (vs := [.int .i64 (IntKind.wrap .i64 (n_.tdiv 10))]) (H := []) Z call81 ⟨(tm Z), trivial⟩ (R := []) (List.Perm.refl _) (ih r10e) (by rintro _ _ ⟨rfl, rfl⟩; exact ⟨Z, Z⟩))⟩, ?_⟩
    refine ⟨⟨[3], Z, stepg_pure Z (pu_move Z (tm Z))⟩, ?_⟩
    refine ⟨⟨[4], Z, stepg_pure Z (pu_move Z (tm Z))⟩, ?_⟩
    refine ⟨⟨[4], Z, stepg_pure Z (pu_move Z (tm Z))⟩, ?_⟩
    refine ⟨⟨[20], Z, stepg_pure Z (pu_int (v := .int .i64 (IntKind.wrap .i64 ((IntKind.wrap .i64 (0 - (n_.tmod 10))) + 1))) Z Z (tm Z) (AEv.int _ _) Z)⟩, ?_⟩
    refine ⟨⟨[18, 19, 21], Z, stepg_pure Z (APure.eq (pu_strSliceM Z underlying9 (tm Z) ⟨_, (tm Z)⟩ ⟨_, (tm Z)⟩ c11) (congrArg (AV.str) x12e.symm))⟩, ?_⟩
    refine ⟨⟨[17, 22], Z, stepg_pure Z (pu_strAdd Z (tm Z) (tm Z) c13)⟩, ?_⟩
    refine ⟨⟨[23], Z, stepg_pure Z (pu_assign Z (tm Z))⟩, ?_⟩
    trivial
   refine aw_ret ?_
   obtain rfl := some_of h
   exact ⟨[.str (r10 ++ x12)], _, [], ⟨(tm Z), trivial⟩, (AV.Le.refl _), Weak.mkL [] (by decide) trivial trivial, ⟨Z, Z⟩⟩

theorem mewsref01.digits.ok {n_ : Int} {r : List UInt8} (h : mewsref01.digits n_ = some r) : Go.Lift.Spec prog 81 [.int .i64 n_] [] (fun v H => v = .str r ∧ H = []) := by
 obtain ⟨kk, hk⟩ := fixO_some h
 exact mewsref01.digits.rec.ok kk hk

theorem mewsref01.Text.ok {n_ : Int} {r : List UInt8} (h : mewsref01.Text n_ = some r) : Go.Lift.Spec prog 57 [.int .i64 n_] [] (fun v H => v = .str r ∧ H = []) := by
 unfold mewsref01.Text at h
 refine Go.Lift.Spec.of_body (rs := [.tmp 2]) func57 Z Z (Nat.le_of_ble_eq_true Z) Z (aw_seq (aw_region (ap (.str ([] : List UInt8)) Z Z Z (pu_assign Z (AEv.const Z)) (aops_nil (aw_seq (aw_seq (aw_region (ap (.int .i64 n_) Z Z Z (pu_move Z (tm Z)) (ap (.bool (decide (n_ < 0))) Z Z Z (pu_int (v := .bool (decide (n_ < 0))) Z Z (tm Z) (AEv.int _ _) Z) ?_)))))))))
 refine aops_nil (aw_cond (b := decide (n_ < 0)) (tm Z) (fun hb8 => ?_) (fun hb8 => ?_))
 ·replace h := ite_t (dec_t hb8) h
  refine aw_seq (aw_region (ap (.int .i64 n_) Z Z Z (pu_move Z (tm Z)) ?_))
  obtain ⟨r5, r5e, h⟩ := bind_some h
  refine ac Z Z Z (op_call (vs := [.int .i64 n_]) (H := []) Z call81 ⟨(tm Z), trivial⟩ (List.Perm.refl _) (mewsref01.digits.ok r5e) ?_)
  rintro _ _ ⟨rfl, rfl⟩
  obtain ⟨c6, h⟩ := need_of h
  refine ap (.str ([45] ++ r5)) Z Z Z (pu_strAdd Z (AEv.const Z) (tm Z) c6) (ap (.str ([45] ++ r5)) Z Z Z (pu_assign Z (tm Z)) (aops_nil (aw_ret ?_)))
  obtain rfl := some_of h
  exact ⟨[.str ([45] ++ r5)], _, [], ⟨(tm Z), trivial⟩, (AV.Le.refl _), Weak.mkL [] (by decide) trivial trivial, ⟨Z, Z⟩⟩
 ·replace h := ite_f (dec_f hb8) h
  refine aw_skip (aw_seq (aw_region (ap (.int .i64 n_) Z Z Z (pu_move Z (tm Z)) (ap (.int .i64 (IntKind.wrap .i64 (0 - n_))) Z Z Z (pu_neg Z (tm Z)) ?_))))
  obtain ⟨r7, r7e, h⟩ := bind_some h
  refine ac Z Z Z (op_call (vs := [.int .i64 (IntKind.wrap .i64 (0 - n_))]) (H := []) Z call81 ⟨(tm Z), trivial⟩ (List.Perm.refl _) (mewsref01.digits.ok r7e) ?_)
  rintro _ _ ⟨rfl, rfl⟩
  refine ap (.str r7) Z Z Z (pu_assign Z (tm Z)) (aops_nil (aw_ret ?_))
  obtain rfl := some_of h
  exact ⟨[.str r7], _, [], ⟨(tm Z), trivial⟩, (AV.Le.refl _), Weak.mkL [] (by decide) trivial trivial, ⟨Z, Z⟩⟩

theorem mewsref05.Put.ok {args : List (List UInt8)} {r : List UInt8} (h : mewsref05.Put args = some r) : Go.Lift.Spec prog 22 [.sl .no 1 (args.map AV.str)] [] (fun v H => v = .str r ∧ H = []) := by
 unfold mewsref05.Put at h
 refine Go.Lift.Spec.of_body (rs := [.tmp 2]) func22 Z Z (Nat.le_of_ble_eq_true Z) Z (aw_seq (aw_region (ap (.str ([] : List UInt8)) Z Z Z (pu_assign Z (AEv.const Z)) (aops_nil (aw_seq (aw_region (ap (.sl .no 1 (args.map AV.str)) Z Z Z (pu_move Z (tm Z)) (ap (.int .i64 (args.length : Int)) Z Z Z (pu_lenM Z underlying26 (tm Z)) ?_))))))))
 obtain ⟨r81, r81e, h⟩ := bind_some h
 refine ac Z Z Z (op_call (vs := [.int .i64 (args.length : Int)]) (H := []) Z call57 ⟨(tm Z), trivial⟩ (List.Perm.refl _) (mewsref01.Text.ok r81e) ?_)
 rintro _ _ ⟨rfl, rfl⟩
 obtain ⟨c82, h⟩ := need_of h
 refine ap (.str ([42] ++ r81)) Z Z Z (pu_strAdd Z (AEv.const Z) (tm Z) c82) ?_
 obtain ⟨c83, h⟩ := need_of h
 refine ap (.str (([42] ++ r81) ++ [13, 10])) Z Z Z (pu_strAdd Z (tm Z) (AEv.const Z) c83) (ap (.str (([42] ++ r81) ++ [13, 10])) Z Z Z (pu_assign Z (tm Z)) (aops_nil ?_))
 obtain ⟨s121, s121e, h122⟩ := bind_some h
 refine aw_meet (ν := Unit) (fun v => [(3, .str s121)]) (fun v => []) ?_ ?_
 ·have h := s121e
  refine aw_seq (aw_region (ap (.int .i64 0) Z Z Z (pu_assign Z (AEv.int _ _)) (aops_nil (aw_block (aw_while (σ := mewsref05.Put.S0) (ν := Unit) (mewsref05.Put.body0 args) (fun s147 v => [(0, .sl .no 1 (args.map AV.str)), (3, .str s147.s), (4, .int .i64 s147.i)]) (fun s147 v => []) ⟨([42] ++ r81) ++ [13, 10], 0⟩ () _ h (Weak.mkL [] (by decide) trivial ⟨AEv.tmp Z, (AEv.le (tm Z) (AV.Le.refl _)), AEv.tmp Z, trivial⟩) ?_)))))
  rintro s147 _ x149 h hx148
  unfold mewsref05.Put.body0 at h
  refine aw_seq (aw_seq (aw_region (ap (.int .i64 s147.i) Z Z Z (pu_move Z (tm Z)) (ap (.sl .no 1 (args.map AV.str)) Z Z Z (pu_move Z (tm Z)) (ap (.int .i64 (args.length : Int)) Z Z Z (pu_lenM Z underlying26 (tm Z)) (ap (.bool (decide (s147.i < (args.length : Int)))) Z Z Z (pu_int (v := .bool (decide (s147.i < (args.length : Int)))) Z Z (tm Z) (tm Z) Z) (aops_nil (aw_cond (b := decide (s147.i < (args.length : Int))) (tm Z) (fun hb160 => ?_) (fun hb160 => ?_)))))))))
  ·replace h := ite_t (dec_t hb160) h
   refine aw_skip (aw_seq (aw_block ?_))
   obtain ⟨c151, h⟩ := need_of h
   obtain ⟨r152, r152e, h⟩ := bind_some h
   obtain ⟨c153, h⟩ := need_of h
   obtain ⟨c154, h⟩ := need_of h
   obtain ⟨c155, h⟩ := need_of h
   obtain ⟨c156, h⟩ := need_of h
   obtain ⟨x157, x157e, h⟩ := letO_of h
   obtain ⟨c158, h⟩ := need_of h
   obtain ⟨c159, h⟩ := need_of h
   refine aw_plan (by decide +kernel) [([], some 16, [3]), ([], some 17, [0]), ([], some 18, [4]), ([1, 2], some 19, [17, 18]), ([3], some 20, [19]), ([4], some 21, [20]), ([5], some 22, [21]), ([6], some 23, [22]), ([7], some 24, [23]), ([], some 25, [0]), ([], some 26, [4]), ([9, 10], some 27, [25, 26]), ([11], some 28, [27]), ([8, 12], some 29, [24, 28]), ([13], some 30, [29]), ([0, 14], some 31, [16, 30]), ([15, 6, 0, 1, 2, 3, 4, 5, 6, 7, 8, 9, 10, 11, 12, 13, 14, 15], some 3, [31])] Z [[], [], [], [1, 2], [1, 2, 3], [1, 2, 3, 4], [1, 2, 3, 4, 5], [1, 2, 3, 4, 5, 6], [1, 2, 3, 4, 5, 6, 7], [], [], [9, 10], [9, 10, 11], [1, 2, 3, 4, 5, 6, 7, 8, 9, 10, 11, 12], [1, 2, 3, 4, 5, 6, 7, 8, 9, 10, 11, 12, 13], [0, 1, 2, 3, 4, 5, 6, 7, 8, 9, 10, 11, 12, 13, 14], [0, 1, 2, 3, 4, 5, 6, 7, 8, 9, 10, 11, 12, 13, 14, 15]] [[], [], [], [], [], [], [], [], [], [], [], [], [], [], [], [], []] [] [] [.str s147.s, .sl .no 1 (args.map AV.str), .int .i64 s147.i, .vptr [.str (ix args s147.i)], .str (ix args s147.i), .int .i64 ((ix args s147.i).length : Int), .str r152, .str ([36] ++ r152), .str (([36] ++ r152) ++ [13, 10]), .sl .no 1 (args.map AV.str), .int .i64 s147.i, .vptr [.str (ix args s147.i)], .str (ix args s147.i), .str x157, .str (x157 ++ [13, 10]), .str (s147.s ++ (x157 ++ [13, 10])), .str (s147.s ++ (x157 ++ [13, 10]))] (by decide +kernel) Z Z ?_ ?_
   ·refine ⟨⟨[3], Z, stepg_pure Z (pu_move Z (tm Z))⟩, ?_⟩
    refine ⟨⟨[0], Z, stepg_pure Z (pu_move Z (tm Z))⟩, ?_⟩
    refine ⟨⟨[4], Z, stepg_pure Z (pu_move Z (tm Z))⟩, ?_⟩
    refine ⟨⟨[17, 18], Z, stepg_pure Z (pu_indexAddrM Z underlying26 sizeOf9 (tm Z) (tm Z) c151 Z)⟩, ?_⟩
    refine ⟨⟨[19], Z, stepg_plain Z (op_loadV1 Z isAgg9 (tm Z) Z ⟨Z, Z⟩)⟩, ?_⟩
    refine ⟨⟨[20], Z, stepg_pure Z (pu_strLen Z underlying9 (tm Z))⟩, ?_⟩
    refine ⟨⟨[21], Z, stepg_plain Z (op_call (vs := [.int .i64 ((ix args s147.i).length : Int)]) (H := []) Z call57 ⟨(tm Z), trivial⟩ (R := []) (List.Perm.refl _) (mewsref01.Text.ok r152e) (by rintro _ _ ⟨rfl, rfl⟩; exact ⟨Z, Z⟩))⟩, ?_⟩
    refine ⟨⟨[22], Z, stepg_pure Z (pu_strAdd Z (AEv.const Z) (tm Z) c153)⟩, ?_⟩
    refine ⟨⟨[23], Z, stepg_pure Z (pu_strAdd Z (tm Z) (AEv.const Z) c154)⟩, ?_⟩
    refine ⟨⟨[0], Z, stepg_pure Z (pu_move Z (tm Z))⟩, ?_⟩
    refine ⟨⟨[4], Z, stepg_pure Z (pu_move Z (tm Z))⟩, ?_⟩
    refine ⟨⟨[25, 26], Z, stepg_pure Z (pu_indexAddrM Z underlying26 sizeOf9 (tm Z) (tm Z) c155 Z)⟩, ?_⟩
    refine ⟨⟨[27], Z, stepg_plain Z (op_loadV1 Z isAgg9 (tm Z) Z ⟨Z, Z⟩)⟩, ?_⟩
    refine ⟨⟨[24, 28], Z, stepg_pure Z (APure.eq (pu_strAdd Z (tm Z) (tm Z) c156) (congrArg (AV.str) x157e.symm))⟩, ?_⟩
    refine ⟨⟨[29], Z, stepg_pure Z (pu_strAdd Z (tm Z) (AEv.const Z) c158)⟩, ?_⟩
    refine ⟨⟨[16, 30], Z, stepg_pure Z (pu_strAdd Z (tm Z) (tm Z) c159)⟩, ?_⟩
    refine ⟨⟨[31], Z, stepg_pure Z (pu_assign Z (tm Z))⟩, ?_⟩
    trivial
   refine aw_region (ap (.int .i64 s147.i) Z Z Z (pu_move Z (tm Z)) (ap (.int .i64 (IntKind.wrap .i64 (s147.i + 1))) Z Z Z (pu_int (v := .int .i64 (IntKind.wrap .i64 (s147.i + 1))) Z Z (tm Z) (AEv.int _ _) Z) (ap (.int .i64 (IntKind.wrap .i64 (s147.i + 1))) Z Z Z (pu_assign Z (tm Z)) (aops_nil ?_))))
   obtain rfl := some_of h
   exact ⟨_, (), Z, Weak.mkL [] (by decide) trivial ⟨AEv.tmp Z, (AEv.le (tm Z) (AV.Le.refl _)), (AEv.le (tm Z) (AV.Le.refl _)), trivial⟩⟩
  ·replace h := ite_f (dec_f hb160) h
   refine aw_exit ?_
   obtain rfl := some_of h
   have h := congrArg some (hx148 _ rfl)
   obtain rfl := some_of h
   exact ⟨(), Weak.mkL [] (by decide) trivial ⟨AEv.tmp Z, trivial⟩⟩
 ·intro _
  have h := h122
  refine aw_seq (aw_region (ap (.str s121) Z Z Z (pu_move Z (tm Z)) (ap (.str s121) Z Z Z (pu_assign Z (tm Z)) (aops_nil (aw_ret ?_)))))
  obtain rfl := some_of h
  exact ⟨[.str s121], _, [], ⟨(tm Z), trivial⟩, (AV.Le.refl _), Weak.mkL [] (by decide) trivial trivial, ⟨Z, Z⟩⟩

theorem mewslaw42.far.ok {c_ : api.Config} {l : List (List UInt8)} {r : Bool} (h : mewslaw42.far c_ l = some r) : Go.Lift.Spec prog 41 [.agg [.sl .no 14 (c_.Tenants.map api.Tenant.av), .int .i64 c_.Quantum, .int .i64 c_.Deadline], .sl .no 1 (l.map AV.str)] [] (fun v H => v = .bool r ∧ H = []) := by
 unfold mewslaw42.far at h
 refine Go.Lift.Spec.of_body (rs := [.tmp 4]) func41 Z Z (Nat.le_of_ble_eq_true Z) Z (aw_seq (aw_region (ac Z Z Z (op_box (cs := [.sl .no 14 (c_.Tenants.map api.Tenant.av), .int .i64 c_.Quantum, .int .i64 c_.Deadline]) (v := .agg [.sl .no 14 (c_.Tenants.map api.Tenant.av), .int .i64 c_.Quantum, .int .i64 c_.Deadline]) Z (tm Z) Z Z ?_))))
 intro p81
 refine ap (.bool false) Z Z Z (pu_assign Z (AEv.bool _)) (aops_nil (aw_seq (aw_region (ap (.int .i64 0) Z Z Z (pu_assign Z (AEv.int _ _)) (aops_nil ?_)))))
 obtain ⟨s160, s160e, h101⟩ := bind_some h
 refine aw_join (σ := Unit) (ν := Unit) (fun u v => [(1, .sl .no 1 (l.map AV.str)), (2, .ptr p81 0)]) (fun u v => [(p81, .cells [.sl .no 14 (c_.Tenants.map api.Tenant.av), .int .i64 c_.Quantum, .int .i64 c_.Deadline])]) (fun u => s160 = .inl u) ?_ ?_
 ·intro s100
  intro _
  rintro rfl
  have h := onSum_inl h101
  refine aw_seq (aw_region (ap (.int .i64 0) Z Z Z (pu_assign Z (AEv.int _ _)) (aops_nil ?_)))
  obtain ⟨s159, s159e, h137⟩ := bind_some h
  refine aw_join (σ := Unit) (ν := Unit) (fun u v => [(1, .sl .no 1 (l.map AV.str)), (2, .ptr p81 0)]) (fun u v => [(p81, .cells [.sl .no 14 (c_.Tenants.map api.Tenant.av), .int .i64 c_.Quantum, .int .i64 c_.Deadline])]) (fun u => s159 = .inl u) ?_ ?_
  ·intro s136
   intro _
   rintro rfl
   have h := onSum_inl h137
   obtain ⟨s155, s155e, h156⟩ := letO_of h
   refine aw_meet (ν := Unit) (fun v => [(4, .bool s155)]) (fun v => []) ?_ ?_
   ·have h := s155e.symm
    refine aw_region (ap (.ptr p81 0) Z Z Z (pu_fieldAddr Z underlying78 Z sizeOf76 (by decide) (tm Z) Z) (ac Z Z Z (op_load1 (i := 0) Z isAgg76 (tm Z) Z Z (ap (.int .i64 (c_.Tenants.length : Int)) Z Z Z (pu_lenM Z underlying76 (tm Z)) (ap (.bool (decide (100 < (c_.Tenants.length : Int)))) Z Z Z (pu_int (v := .bool (decide (100 < (c_.Tenants.length : Int)))) Z Z (tm Z) (AEv.int _ _) Z) (ap (.bool (decide (100 < (c_.Tenants.length : Int)))) Z Z Z (pu_move Z (tm Z)) ?_))))))
    rcases Bool.eq_false_or_eq_true (decide (100 < (c_.Tenants.length : Int))) with hb158 | hb158
    ·replace h := ite_t (dec_t hb158) h
     refine aops_known 48 Z hb158 (an Z Z Z Z Z Z Z Z (an Z Z Z Z Z Z Z Z (an Z Z Z Z Z Z Z Z (ap (.bool true) Z Z Z (pu_pick (b := true) Z (tm Z) (fun _ => (AEv.bool _)) (fun h => nomatch h)) (ap (.bool true) Z Z Z (pu_assign Z (tm Z)) (aops_nil ?_))))))
     subst h
     exact ⟨(), Weak.mkL [] (by decide) trivial ⟨AEv.tmp Z, trivial⟩⟩
    ·replace h := ite_f (dec_f hb158) h
     refine aops_known 48 Z hb158 (agp (.sl .no 1 (l.map AV.str)) Z Z Z Z Z Z Z (pu_move Z (tm Z)) (agp (.int .i64 (l.length : Int)) Z Z Z Z Z Z Z (pu_lenM Z underlying26 (tm Z)) (agp (.bool (decide (100 < (l.length : Int)))) Z Z Z Z Z Z Z (pu_int (v := .bool (decide (100 < (l.length : Int)))) Z Z (tm Z) (AEv.int _ _) Z) (ap (.bool (decide (100 < (l.length : Int)))) Z Z Z (pu_pick (b := false) Z (tm Z) (fun h => nomatch h) (fun _ => (tm Z))) (ap (.bool (decide (100 < (l.length : Int)))) Z Z Z (pu_assign Z (tm Z)) (aops_nil ?_))))))
     subst h
     exact ⟨(), Weak.mkL [] (by decide) trivial ⟨(AEv.le (tm Z) (AV.Le.refl _)), trivial⟩⟩
   ·intro _
    have h := h156
    refine aw_ret ?_
    obtain rfl := some_of h
    exact ⟨[.bool s155], _, [], ⟨(tm Z), trivial⟩, (AV.Le.refl _), Weak.mkL [] (by decide) trivial trivial, ⟨Z, Z⟩⟩
  ·have h := s159e
   refine aw_seq (aw_region (ap (.sl .no 1 (l.map AV.str)) Z Z Z (pu_move Z (tm Z)) (ap (.int .i64 (l.length : Int)) Z Z Z (pu_lenM Z underlying26 (tm Z)) (ap (.int .i64 0) Z Z Z (pu_move Z (AEv.int _ _)) (aops_nil (aw_block (aw_while (σ := mewslaw42.far.S2) (ν := Unit) (mewslaw42.far.body2 l) (fun s147 v => [(1, .sl .no 1 (l.map AV.str)), (2, .ptr p81 0), (5, .int .i64 s147.n), (30, .sl .no 1 (l.map AV.str)), (31, .int .i64 (l.length : Int)), (32, .int .i64 s147.t32)]) (fun s147 v => [(p81, .cells [.sl .no 14 (c_.Tenants.map api.Tenant.av), .int .i64 c_.Quantum, .int .i64 c_.Deadline])]) ⟨0, 0⟩ () _ h (Weak.mkL [0] (by decide) ⟨⟨_, Z, (CellsLe.refl _), Z⟩, trivial⟩ ⟨AEv.tmp Z, AEv.tmp Z, AEv.tmp Z, AEv.tmp Z, AEv.tmp Z, AEv.tmp Z, trivial⟩) ?_)))))))
   rintro s147 _ x149 h hx148
   unfold mewslaw42.far.body2 at h
   refine aw_seq (aw_region (ap (.bool (decide (s147.t32 < (l.length : Int)))) Z Z Z (pu_int (v := .bool (decide (s147.t32 < (l.length : Int)))) Z Z (tm Z) (tm Z) Z) (aops_nil (aw_seq (aw_cond (b := decide (s147.t32 < (l.length : Int))) (tm Z) (fun hb153 => ?_) (fun hb153 => ?_))))))
   ·replace h := ite_t (dec_t hb153) h
    refine aw_skip (aw_seq (aw_block (aw_seq (aw_region ?_))))
    obtain ⟨c151, h⟩ := need_of h
    refine ap (.vptr [.str (ix l s147.t32)]) Z Z Z (pu_indexAddrM Z underlying26 sizeOf9 (tm Z) (tm Z) c151 Z) (ac Z Z Z (op_loadV1 Z isAgg9 (tm Z) Z (ap (.str (ix l s147.t32)) Z Z Z (pu_assign Z (tm Z)) (aops_nil (aw_seq (aw_region (ap (.int .i64 s147.n) Z Z Z (pu_move Z (tm Z)) (ap (.str (ix l s147.t32)) Z Z Z (pu_move Z (tm Z)) (ap (.int .i64 ((ix l s147.t32).length : Int)) Z Z Z (pu_strLen Z underlying9 (tm Z)) (ap (.int .i64 (if 10000 < ((ix l s147.t32).length : Int) then 10000 else ((ix l s147.t32).length : Int))) Z Z Z (pu_min2 Z (tm Z) (AEv.int _ _)) ?_))))))))))
    refine ap (.int .i64 (IntKind.wrap .i64 (s147.n + (if 10000 < ((ix l s147.t32).length : Int) then 10000 else ((ix l s147.t32).length : Int))))) Z Z Z (pu_int (v := .int .i64 (IntKind.wrap .i64 (s147.n + (if 10000 < ((ix l s147.t32).length : Int) then 10000 else ((ix l s147.t32).length : Int))))) Z Z (tm Z) (tm Z) Z) (ap (.int .i64 (IntKind.wrap .i64 (s147.n + (if 10000 < ((ix l s147.t32).length : Int) then 10000 else ((ix l s147.t32).length : Int))))) Z Z Z (pu_assign Z (tm Z)) (aops_nil (aw_seq (aw_region (ap (.int .i64 (IntKind.wrap .i64 (s147.n + (if 10000 < ((ix l s147.t32).length : Int) then 10000 else ((ix l s147.t32).length : Int))))) Z Z Z (pu_move Z (tm Z)) (ap (.bool (decide (300 < (IntKind.wrap .i64 (s147.n + (if 10000 < ((ix l s147.t32).length : Int) then 10000 else ((ix l s147.t32).length : Int))))))) Z Z Z (pu_int (v := .bool (decide (300 < (IntKind.wrap .i64 (s147.n + (if 10000 < ((ix l s147.t32).length : Int) then 10000 else ((ix l s147.t32).length : Int))))))) Z Z (tm Z) (AEv.int _ _) Z) (aops_nil (aw_cond (b := decide (300 < (IntKind.wrap .i64 (s147.n + (if 10000 < ((ix l s147.t32).length : Int) then 10000 else ((ix l s147.t32).length : Int)))))) (tm Z) (fun hb152 => ?_) (fun hb152 => ?_)))))))))
    ·replace h := ite_t (dec_t hb152) h
     refine aw_seq (aw_region (ap (.bool true) Z Z Z (pu_assign Z (AEv.bool _)) (aops_nil (aw_ret ?_))))
     obtain rfl := some_of h
     have h := congrArg some (hx148 _ rfl)
     obtain rfl := some_of h
     have h := onSum_inr h137
     obtain rfl := some_of h
     exact ⟨[.bool true], _, [], ⟨(tm Z), trivial⟩, (AV.Le.refl _), Weak.mkL [] (by decide) trivial trivial, ⟨Z, Z⟩⟩
    ·replace h := ite_f (dec_f hb152) h
     refine aw_skip (aw_region (ap (.int .i64 (IntKind.wrap .i64 (s147.t32 + 1))) Z Z Z (pu_int (v := .int .i64 (IntKind.wrap .i64 (s147.t32 + 1))) Z Z (tm Z) (AEv.int _ _) Z) (ap (.int .i64 (IntKind.wrap .i64 (s147.t32 + 1))) Z Z Z (pu_move Z (tm Z)) (aops_nil ?_))))
     obtain rfl := some_of h
     exact ⟨_, (), Z, Weak.mkL [0] (by decide) ⟨⟨_, Z, (CellsLe.refl _), Z⟩, trivial⟩ ⟨AEv.tmp Z, AEv.tmp Z, (AEv.le (tm Z) (AV.Le.refl _)), AEv.tmp Z, AEv.tmp Z, (AEv.le (tm Z) (AV.Le.refl _)), trivial⟩⟩
   ·replace h := ite_f (dec_f hb153) h
    refine aw_exit ?_
    obtain rfl := some_of h
    have h := congrArg some (hx148 _ rfl)
    exact ⟨(), (), (some_of h).symm, Weak.mkL [0] (by decide) ⟨⟨_, Z, (CellsLe.refl _), Z⟩, trivial⟩ ⟨AEv.tmp Z, AEv.tmp Z, trivial⟩⟩
 ·have h := s160e
  refine aw_seq (aw_region (ap (.ptr p81 0) Z Z Z (pu_fieldAddr Z underlying78 Z sizeOf76 (by decide) (tm Z) Z) (ac Z Z Z (op_load1 (i := 0) Z isAgg76 (tm Z) Z Z (ap (.int .i64 (c_.Tenants.length : Int)) Z Z Z (pu_lenM Z underlying76 (tm Z)) (ap (.int .i64 0) Z Z Z (pu_move Z (AEv.int _ _)) (aops_nil (aw_block (aw_while (σ := mewslaw42.far.S0) (ν := Unit) (mewslaw42.far.body0 c_) (fun s113 v => [(1, .sl .no 1 (l.map AV.str)), (2, .ptr p81 0), (5, .int .i64 s113.n), (11, .sl .no 14 (c_.Tenants.map api.Tenant.av)), (12, .int .i64 (c_.Tenants.length : Int)), (13, .int .i64 s113.t13)]) (fun s113 v => [(p81, .cells [.sl .no 14 (c_.Tenants.map api.Tenant.av), .int .i64 c_.Quantum, .int .i64 c_.Deadline])]) ⟨0, 0⟩ () _ h (Weak.mkL [0] (by decide) ⟨⟨_, Z, (CellsLe.refl _), Z⟩, trivial⟩ ⟨AEv.tmp Z, AEv.tmp Z, AEv.tmp Z, AEv.tmp Z, AEv.tmp Z, AEv.tmp Z, trivial⟩) ?_)))))))))
  rintro s113 _ x115 h hx114
  unfold mewslaw42.far.body0 at h
  refine aw_seq (aw_region (ap (.bool (decide (s113.t13 < (c_.Tenants.length : Int)))) Z Z Z (pu_int (v := .bool (decide (s113.t13 < (c_.Tenants.length : Int)))) Z Z (tm Z) (tm Z) Z) (aops_nil (aw_seq (aw_cond (b := decide (s113.t13 < (c_.Tenants.length : Int))) (tm Z) (fun hb120 => ?_) (fun hb120 => ?_))))))
  ·replace h := ite_t (dec_t hb120) h
   refine aw_skip (aw_seq (aw_block (aw_seq (aw_region ?_))))
   obtain ⟨c117, h⟩ := need_of h
   refine ap (.vptr [.str (ix c_.Tenants s113.t13).Name, .str (ix c_.Tenants s113.t13).Token, .int .i64 (ix c_.Tenants s113.t13).Memory, .int .i64 (ix c_.Tenants s113.t13).Policy, .int .i64 (ix c_.Tenants s113.t13).Conns, .int .i64 (ix c_.Tenants s113.t13).In, .int .i64 (ix c_.Tenants s113.t13).Out, .int .i64 (ix c_.Tenants s113.t13).Burst, .int .i64 (ix c_.Tenants s113.t13).Rate, .int .i64 (ix c_.Tenants s113.t13).Disk, .int .i64 (ix c_.Tenants s113.t13).Sync, .int .i64 (ix c_.Tenants s113.t13).Limits.Args, .int .i64 (ix c_.Tenants s113.t13).Limits.Bulk, .int .i64 (ix c_.Tenants s113.t13).Limits.Line]) Z Z Z (pu_indexAddrM Z underlying76 sizeOf53 (tm Z) (tm Z) c117 Z) (ac Z Z Z (op_loadVN Z isAgg53 sizeOf53 (tm Z) (Nat.le_of_ble_eq_true Z) Z (ac Z Z Z (op_alloc (cs := [.str ([] : List UInt8), .str ([] : List UInt8), .int .i64 0, .int .i64 0, .int .i64 0, .int .i64 0, .int .i64 0, .int .i64 0, .int .i64 0, .int .i64 0, .int .i64 0, .int .i64 0, .int .i64 0, .int .i64 0]) (v := .agg [.str ([] : List UInt8), .str ([] : List UInt8), .int .i64 0, .int .i64 0, .int .i64 0, .int .i64 0, .int .i64 0, .int .i64 0, .int .i64 0, .int .i64 0, .int .i64 0, .int .i64 0, .int .i64 0, .int .i64 0]) Z zeroValue53 Z Z Z ?_))))
   intro p118
   refine ac0 Z Z (op_store (i := 0) (cs' := (api.Tenant.ct (ix c_.Tenants s113.t13))) Z sizeOf53 (tm Z) (v := .agg (api.Tenant.ct (ix c_.Tenants s113.t13))) (tm Z) Z Z Z (Nat.le_of_ble_eq_true Z) Z (aops_nil (aw_seq (aw_region (ap (.int .i64 s113.n) Z Z Z (pu_move Z (tm Z)) (ap (.ptr p118 0) Z Z Z (pu_fieldAddr Z underlying53 Z sizeOf9 (by decide) (tm Z) Z) (ac Z Z Z (op_load1 (i := 0) Z isAgg9 (tm Z) Z Z (ap (.int .i64 ((ix c_.Tenants s113.t13).Name.length : Int)) Z Z Z (pu_strLen Z underlying9 (tm Z)) (ap (.ptr p118 1) Z Z Z (pu_fieldAddr Z underlying53 Z sizeOf9 (by decide) (tm Z) Z) (ac Z Z Z (op_load1 (i := 0) Z isAgg9 (tm Z) Z Z ?_))))))))))))
   refine ap (.int .i64 ((ix c_.Tenants s113.t13).Token.length : Int)) Z Z Z (pu_strLen Z underlying9 (tm Z)) (ap (.int .i64 (IntKind.wrap .i64 (((ix c_.Tenants s113.t13).Name.length : Int) + ((ix c_.Tenants s113.t13).Token.length : Int)))) Z Z Z (pu_int (v := .int .i64 (IntKind.wrap .i64 (((ix c_.Tenants s113.t13).Name.length : Int) + ((ix c_.Tenants s113.t13).Token.length : Int)))) Z Z (tm Z) (tm Z) Z) (ap (.int .i64 (if 10000 < (IntKind.wrap .i64 (((ix c_.Tenants s113.t13).Name.length : Int) + ((ix c_.Tenants s113.t13).Token.length : Int))) then 10000 else (IntKind.wrap .i64 (((ix c_.Tenants s113.t13).Name.length : Int) + ((ix c_.Tenants s113.t13).Token.length : Int))))) Z Z Z (pu_min2 Z (tm Z) (AEv.int _ _)) (ap (.int .i64 (IntKind.wrap .i64 (s113.n + (if 10000 < (IntKind.wrap .i64 (((ix c_.Tenants s113.t13).Name.length : Int) + ((ix c_.Tenants s113.t13).Token.length : Int))) then 10000 else (IntKind.wrap .i64 (((ix c_.Tenants s113.t13).Name.length : Int) + ((ix c_.Tenants s113.t13).Token.length : Int))))))) Z Z Z (pu_int (v := .int .i64 (IntKind.wrap .i64 (s113.n + (if 10000 < (IntKind.wrap .i64 (((ix c_.Tenants s113.t13).Name.length : Int) + ((ix c_.Tenants s113.t13).Token.length : Int))) then 10000 else (IntKind.wrap .i64 (((ix c_.Tenants s113.t13).Name.length : Int) + ((ix c_.Tenants s113.t13).Token.length : Int))))))) Z Z (tm Z) (tm Z) Z) (ap (.int .i64 (IntKind.wrap .i64 (s113.n + (if 10000 < (IntKind.wrap .i64 (((ix c_.Tenants s113.t13).Name.length : Int) + ((ix c_.Tenants s113.t13).Token.length : Int))) then 10000 else (IntKind.wrap .i64 (((ix c_.Tenants s113.t13).Name.length : Int) + ((ix c_.Tenants s113.t13).Token.length : Int))))))) Z Z Z (pu_assign Z (tm Z)) (aops_nil (aw_seq (aw_region (ap (.int .i64 (IntKind.wrap .i64 (s113.n + (if 10000 < (IntKind.wrap .i64 (((ix c_.Tenants s113.t13).Name.length : Int) + ((ix c_.Tenants s113.t13).Token.length : Int))) then 10000 else (IntKind.wrap .i64 (((ix c_.Tenants s113.t13).Name.length : Int) + ((ix c_.Tenants s113.t13).Token.length : Int))))))) Z Z Z (pu_move Z (tm Z)) (ap (.bool (decide (5000 < (IntKind.wrap .i64 (s113.n + (if 10000 < (IntKind.wrap .i64 (((ix c_.Tenants s113.t13).Name.length : Int) + ((ix c_.Tenants s113.t13).Token.length : Int))) then 10000 else (IntKind.wrap .i64 (((ix c_.Tenants s113.t13).Name.length : Int) + ((ix c_.Tenants s113.t13).Token.length : Int))))))))) Z Z Z (pu_int (v := .bool (decide (5000 < (IntKind.wrap .i64 (s113.n + (if 10000 < (IntKind.wrap .i64 (((ix c_.Tenants s113.t13).Name.length : Int) + ((ix c_.Tenants s113.t13).Token.length : Int))) then 10000 else (IntKind.wrap .i64 (((ix c_.Tenants s113.t13).Name.length : Int) + ((ix c_.Tenants s113.t13).Token.length : Int))))))))) Z Z (tm Z) (AEv.int _ _) Z) ?_)))))))))
   refine aops_nil (aw_cond (b := decide (5000 < (IntKind.wrap .i64 (s113.n + (if 10000 < (IntKind.wrap .i64 (((ix c_.Tenants s113.t13).Name.length : Int) + ((ix c_.Tenants s113.t13).Token.length : Int))) then 10000 else (IntKind.wrap .i64 (((ix c_.Tenants s113.t13).Name.length : Int) + ((ix c_.Tenants s113.t13).Token.length : Int)))))))) (tm Z) (fun hb119 => ?_) (fun hb119 => ?_))
   ·replace h := ite_t (dec_t hb119) h
    refine aw_seq (aw_region (ap (.bool true) Z Z Z (pu_assign Z (AEv.bool _)) (aops_nil (aw_ret ?_))))
    obtain rfl := some_of h
    have h := congrArg some (hx114 _ rfl)
    obtain rfl := some_of h
    have h := onSum_inr h101
    obtain rfl := some_of h
    exact ⟨[.bool true], _, [], ⟨(tm Z), trivial⟩, (AV.Le.refl _), Weak.mkL [] (by decide) trivial trivial, ⟨Z, Z⟩⟩
   ·replace h := ite_f (dec_f hb119) h
    refine aw_skip (aw_region (ap (.int .i64 (IntKind.wrap .i64 (s113.t13 + 1))) Z Z Z (pu_int (v := .int .i64 (IntKind.wrap .i64 (s113.t13 + 1))) Z Z (tm Z) (AEv.int _ _) Z) (ap (.int .i64 (IntKind.wrap .i64 (s113.t13 + 1))) Z Z Z (pu_move Z (tm Z)) (aops_nil ?_))))
    obtain rfl := some_of h
    exact ⟨_, (), Z, Weak.mkL [1] (by decide) ⟨⟨_, Z, (CellsLe.refl _), Z⟩, trivial⟩ ⟨AEv.tmp Z, AEv.tmp Z, (AEv.le (tm Z) (AV.Le.refl _)), AEv.tmp Z, AEv.tmp Z, (AEv.le (tm Z) (AV.Le.refl _)), trivial⟩⟩
  ·replace h := ite_f (dec_f hb120) h
   refine aw_exit ?_
   obtain rfl := some_of h
   have h := congrArg some (hx114 _ rfl)
   exact ⟨(), (), (some_of h).symm, Weak.mkL [0] (by decide) ⟨⟨_, Z, (CellsLe.refl _), Z⟩, trivial⟩ ⟨AEv.tmp Z, AEv.tmp Z, trivial⟩⟩

theorem mewslaw42.some_.ok  {r : api.Config} (h : mewslaw42.some_ = some r) : Go.Lift.Spec prog 62 [] [] (fun v H => v = .agg [.sl .full 14 (r.Tenants.map api.Tenant.av), .int .i64 r.Quantum, .int .i64 r.Deadline] ∧ H = []) := by
 unfold mewslaw42.some_ at h
 refine Go.Lift.Spec.of_body (rs := [.cell 0 78]) func62 Z Z (Nat.le_of_ble_eq_true Z) Z (aw_seq (aw_region (ac Z Z Z (op_alloc (cs := [.sl .full 14 (([] : List api.Tenant).map api.Tenant.av), .int .i64 0, .int .i64 0]) (v := .agg [.sl .full 14 (([] : List api.Tenant).map api.Tenant.av), .int .i64 0, .int .i64 0]) Z zeroValue78 Z Z Z ?_))))
 intro p4
 refine aops_nil (aw_seq (aw_region (ap (.agg [.int .i64 9, .int .i64 99, .int .i64 99]) Z Z Z (pu_build (zs := [.int .i64 0, .int .i64 0, .int .i64 0]) (szs := [1, 1, 1]) (aparts := [(0, .int .i64 9), (1, .int .i64 99), (2, .int .i64 99)]) (cs := [.int .i64 9, .int .i64 99, .int .i64 99]) Z underlying23 zeroValue23 Z ⟨sizeOf3, sizeOf3, sizeOf3, trivial⟩ ⟨Z, (AEv.int _ _), ⟨Z, (AEv.int _ _), ⟨Z, (AEv.int _ _), trivial⟩⟩⟩ Z) (ap (.agg [.str [97], .str [115], .int .i64 1000, .int .i64 0, .int .i64 2, .int .i64 1000, .int .i64 1000, .int .i64 5, .int .i64 1, .int .i64 1000, .int .i64 1, .int .i64 9, .int .i64 99, .int .i64 99]) Z Z Z (pu_build (zs := [.str ([] : List UInt8), .str ([] : List UInt8), .int .i64 0, .int .i64 0, .int .i64 0, .int .i64 0, .int .i64 0, .int .i64 0, .int .i64 0, .int .i64 0, .int .i64 0, .int .i64 0, .int .i64 0, .int .i64 0]) (szs := [1, 1, 1, 1, 1, 1, 1, 1, 1, 1, 1, 3]) (aparts := [(0, .str [97]), (1, .str [115]), (2, .int .i64 1000), (4, .int .i64 2), (5, .int .i64 1000), (6, .int .i64 1000), (7, .int .i64 5), (8, .int .i64 1), (9, .int .i64 1000), (10, .int .i64 1), (11, .agg [.int .i64 9, .int .i64 99, .int .i64 99])]) (cs := [.str [97], .str [115], .int .i64 1000, .int .i64 0, .int .i64 2, .int .i64 1000, .int .i64 1000, .int .i64 5, .int .i64 1, .int .i64 1000, .int .i64 1, .int .i64 9, .int .i64 99, .int .i64 99]) Z underlying53 zeroValue53 Z ⟨sizeOf9, sizeOf9, sizeOf3, sizeOf3, sizeOf3, sizeOf3, sizeOf3, sizeOf3, sizeOf3, sizeOf3, sizeOf3, sizeOf23, trivial⟩ ⟨Z, (AEv.const Z), ⟨Z, (AEv.const Z), ⟨Z, (AEv.int _ _), ⟨Z, (AEv.int _ _), ⟨Z, (AEv.int _ _), ⟨Z, (AEv.int _ _), ⟨Z, (AEv.int _ _), ⟨Z, (AEv.int _ _), ⟨Z, (AEv.int _ _), ⟨Z, (AEv.int _ _), ⟨Z, (tm Z), trivial⟩⟩⟩⟩⟩⟩⟩⟩⟩⟩⟩ Z) (ac Z Z Z (op_alloc (cs := [.str ([] : List UInt8), .str ([] : List UInt8), .int .i64 0, .int .i64 0, .int .i64 0, .int .i64 0, .int .i64 0, .int .i64 0, .int .i64 0, .int .i64 0, .int .i64 0, .int .i64 0, .int .i64 0, .int .i64 0]) (v := .agg [.str ([] : List UInt8), .str ([] : List UInt8), .int .i64 0, .int .i64 0, .int .i64 0, .int .i64 0, .int .i64 0, .int .i64 0, .int .i64 0, .int .i64 0, .int .i64 0, .int .i64 0, .int .i64 0, .int .i64 0]) Z zeroValue53 Z Z Z ?_))))))
 intro p5
 refine ac0 Z Z (op_store (i := 0) (cs' := [.str [97], .str [115], .int .i64 1000, .int .i64 0, .int .i64 2, .int .i64 1000, .int .i64 1000, .int .i64 5, .int .i64 1, .int .i64 1000, .int .i64 1, .int .i64 9, .int .i64 99, .int .i64 99]) Z sizeOf53 (tm Z) (v := .agg [.str [97], .str [115], .int .i64 1000, .int .i64 0, .int .i64 2, .int .i64 1000, .int .i64 1000, .int .i64 5, .int .i64 1, .int .i64 1000, .int .i64 1, .int .i64 9, .int .i64 99, .int .i64 99]) (tm Z) Z Z Z (Nat.le_of_ble_eq_true Z) Z (aops_nil (aw_seq (aw_region (ac Z Z Z (op_loadN (i := 0) Z isAgg53 sizeOf53 (tm Z) Z (Nat.le_of_ble_eq_true Z) Z (ac Z Z Z (op_alloc (cs := [.str ([] : List UInt8), .str ([] : List UInt8), .int .i64 0, .int .i64 0, .int .i64 0, .int .i64 0, .int .i64 0, .int .i64 0, .int .i64 0, .int .i64 0, .int .i64 0, .int .i64 0, .int .i64 0, .int .i64 0]) (v := .agg [.str ([] : List UInt8), .str ([] : List UInt8), .int .i64 0, .int .i64 0, .int .i64 0, .int .i64 0, .int .i64 0, .int .i64 0, .int .i64 0, .int .i64 0, .int .i64 0, .int .i64 0, .int .i64 0, .int .i64 0]) Z zeroValue53 Z Z Z ?_))))))))
 intro p6
 refine ac0 Z Z (op_store (i := 0) (cs' := [.str [97], .str [115], .int .i64 1000, .int .i64 0, .int .i64 2, .int .i64 1000, .int .i64 1000, .int .i64 5, .int .i64 1, .int .i64 1000, .int .i64 1, .int .i64 9, .int .i64 99, .int .i64 99]) Z sizeOf53 (tm Z) (v := .agg [.str [97], .str [115], .int .i64 1000, .int .i64 0, .int .i64 2, .int .i64 1000, .int .i64 1000, .int .i64 5, .int .i64 1, .int .i64 1000, .int .i64 1, .int .i64 9, .int .i64 99, .int .i64 99]) (tm Z) Z Z Z (Nat.le_of_ble_eq_true Z) Z (aops_nil (aw_seq (aw_region (ap (.ptr p6 0) Z Z Z (pu_fieldAddr Z underlying53 Z sizeOf9 (by decide) (tm Z) Z) (ac0 Z Z (op_store (i := 0) (cs' := [.str [98], .str [115], .int .i64 1000, .int .i64 0, .int .i64 2, .int .i64 1000, .int .i64 1000, .int .i64 5, .int .i64 1, .int .i64 1000, .int .i64 1, .int .i64 9, .int .i64 99, .int .i64 99]) Z sizeOf9 (tm Z) (v := .str [98]) (AEv.const Z) Z Z Z (Nat.le_of_ble_eq_true Z) Z (aops_nil (aw_seq (aw_region (ap (.ptr p6 1) Z Z Z (pu_fieldAddr Z underlying53 Z sizeOf9 (by decide) (tm Z) Z) ?_)))))))))))
 refine ac0 Z Z (op_store (i := 0) (cs' := [.str [98], .str [116], .int .i64 1000, .int .i64 0, .int .i64 2, .int .i64 1000, .int .i64 1000, .int .i64 5, .int .i64 1, .int .i64 1000, .int .i64 1, .int .i64 9, .int .i64 99, .int .i64 99]) Z sizeOf9 (tm Z) (v := .str [116]) (AEv.const Z) Z Z Z (Nat.le_of_ble_eq_true Z) Z (aops_nil (aw_seq (aw_region (ac Z Z Z (op_loadN (i := 1) Z isAgg53 sizeOf53 (tm Z) Z (Nat.le_of_ble_eq_true Z) Z (ac Z Z Z (op_loadN (i := 0) Z isAgg53 sizeOf53 (tm Z) Z (Nat.le_of_ble_eq_true Z) Z (ac Z Z Z (op_buildSlice (xs := ([({ Name := [97], Token := [115], Memory := 1000, Policy := 0, Conns := 2, In := 1000, Out := 1000, Burst := 5, Rate := 1, Disk := 1000, Sync := 1, Limits := ({ Args := 9, Bulk := 99, Line := 99 } : api.Limits) } : api.Tenant), ({ Name := [98], Token := [116], Memory := 1000, Policy := 0, Conns := 2, In := 1000, Out := 1000, Burst := 5, Rate := 1, Disk := 1000, Sync := 1, Limits := ({ Args := 9, Bulk := 99, Line := 99 } : api.Limits) } : api.Tenant)] : List api.Tenant).map api.Tenant.av) (aparts := [(0, .agg [.str [97], .str [115], .int .i64 1000, .int .i64 0, .int .i64 2, .int .i64 1000, .int .i64 1000, .int .i64 5, .int .i64 1, .int .i64 1000, .int .i64 1, .int .i64 9, .int .i64 99, .int .i64 99]), (1, .agg [.str [98], .str [116], .int .i64 1000, .int .i64 0, .int .i64 2, .int .i64 1000, .int .i64 1000, .int .i64 5, .int .i64 1, .int .i64 1000, .int .i64 1, .int .i64 9, .int .i64 99, .int .i64 99])]) Z underlying76 sizeOf53 zeroValue53 (by decide) (by decide) ⟨Z, (tm Z), ⟨Z, (tm Z), trivial⟩⟩ Z Z Z (ap (.agg [.sl .full 14 ([({ Name := [97], Token := [115], Memory := 1000, Policy := 0, Conns := 2, In := 1000, Out := 1000, Burst := 5, Rate := 1, Disk := 1000, Sync := 1, Limits := ({ Args := 9, Bulk := 99, Line := 99 } : api.Limits) } : api.Tenant), ({ Name := [98], Token := [116], Memory := 1000, Policy := 0, Conns := 2, In := 1000, Out := 1000, Burst := 5, Rate := 1, Disk := 1000, Sync := 1, Limits := ({ Args := 9, Bulk := 99, Line := 99 } : api.Limits) } : api.Tenant)].map api.Tenant.av), .int .i64 3, .int .i64 100]) Z Z Z (pu_build (zs := [.sl .full 14 (([] : List api.Tenant).map api.Tenant.av), .int .i64 0, .int .i64 0]) (szs := [1, 1, 1]) (aparts := [(0, .sl .full 14 ([({ Name := [97], Token := [115], Memory := 1000, Policy := 0, Conns := 2, In := 1000, Out := 1000, Burst := 5, Rate := 1, Disk := 1000, Sync := 1, Limits := ({ Args := 9, Bulk := 99, Line := 99 } : api.Limits) } : api.Tenant), ({ Name := [98], Token := [116], Memory := 1000, Policy := 0, Conns := 2, In := 1000, Out := 1000, Burst := 5, Rate := 1, Disk := 1000, Sync := 1, Limits := ({ Args := 9, Bulk := 99, Line := 99 } : api.Limits) } : api.Tenant)].map api.Tenant.av)), (1, .int .i64 3), (2, .int .i64 100)]) (cs := [.sl .full 14 ([({ Name := [97], Token := [115], Memory := 1000, Policy := 0, Conns := 2, In := 1000, Out := 1000, Burst := 5, Rate := 1, Disk := 1000, Sync := 1, Limits := ({ Args := 9, Bulk := 99, Line := 99 } : api.Limits) } : api.Tenant), ({ Name := [98], Token := [116], Memory := 1000, Policy := 0, Conns := 2, In := 1000, Out := 1000, Burst := 5, Rate := 1, Disk := 1000, Sync := 1, Limits := ({ Args := 9, Bulk := 99, Line := 99 } : api.Limits) } : api.Tenant)].map api.Tenant.av), .int .i64 3, .int .i64 100]) Z underlying78 zeroValue78 Z ⟨sizeOf76, sizeOf3, sizeOf2, trivial⟩ ⟨Z, (tm Z), ⟨Z, (AEv.int _ _), ⟨Z, (AEv.int _ _), trivial⟩⟩⟩ Z) (ac0 Z Z (op_store (i := 2) (cs' := [.sl .full 14 ([({ Name := [97], Token := [115], Memory := 1000, Policy := 0, Conns := 2, In := 1000, Out := 1000, Burst := 5, Rate := 1, Disk := 1000, Sync := 1, Limits := ({ Args := 9, Bulk := 99, Line := 99 } : api.Limits) } : api.Tenant), ({ Name := [98], Token := [116], Memory := 1000, Policy := 0, Conns := 2, In := 1000, Out := 1000, Burst := 5, Rate := 1, Disk := 1000, Sync := 1, Limits := ({ Args := 9, Bulk := 99, Line := 99 } : api.Limits) } : api.Tenant)].map api.Tenant.av), .int .i64 3, .int .i64 100]) Z sizeOf78 (tm Z) (v := .agg [.sl .full 14 ([({ Name := [97], Token := [115], Memory := 1000, Policy := 0, Conns := 2, In := 1000, Out := 1000, Burst := 5, Rate := 1, Disk := 1000, Sync := 1, Limits := ({ Args := 9, Bulk := 99, Line := 99 } : api.Limits) } : api.Tenant), ({ Name := [98], Token := [116], Memory := 1000, Policy := 0, Conns := 2, In := 1000, Out := 1000, Burst := 5, Rate := 1, Disk := 1000, Sync := 1, Limits := ({ Args := 9, Bulk := 99, Line := 99 } : api.Limits) } : api.Tenant)].map api.Tenant.av), .int .i64 3, .int .i64 100]) (tm Z) Z Z Z (Nat.le_of_ble_eq_true Z) Z (aops_nil ?_))))))))))))))
 refine aw_ret ?_
 obtain rfl := some_of h
 exact ⟨[.agg [.sl .full 14 ([({ Name := [97], Token := [115], Memory := 1000, Policy := 0, Conns := 2, In := 1000, Out := 1000, Burst := 5, Rate := 1, Disk := 1000, Sync := 1, Limits := ({ Args := 9, Bulk := 99, Line := 99 } : api.Limits) } : api.Tenant), ({ Name := [98], Token := [116], Memory := 1000, Policy := 0, Conns := 2, In := 1000, Out := 1000, Burst := 5, Rate := 1, Disk := 1000, Sync := 1, Limits := ({ Args := 9, Bulk := 99, Line := 99 } : api.Limits) } : api.Tenant)].map api.Tenant.av), .int .i64 3, .int .i64 100]], _, [], ⟨(CellOk.agg 2 (tm Z) Z isAgg78 sizeOf78 (Nat.le_of_ble_eq_true Z) Z), trivial⟩, (AV.Le.refl _), Weak.mkL [] (by decide) trivial trivial, ⟨Z, Z⟩⟩

theorem auth.limits.ok  {r : api.Limits} (h : auth.limits = some r) : Go.Lift.Spec prog 70 [] [] (fun v H => v = .agg [.int .i64 r.Args, .int .i64 r.Bulk, .int .i64 r.Line] ∧ H = []) := by
 unfold auth.limits at h
 refine Go.Lift.Spec.of_body (rs := [.cell 0 23]) func70 Z Z (Nat.le_of_ble_eq_true Z) Z (aw_seq (aw_region (ac Z Z Z (op_alloc (cs := [.int .i64 0, .int .i64 0, .int .i64 0]) (v := .agg [.int .i64 0, .int .i64 0, .int .i64 0]) Z zeroValue23 Z Z Z ?_))))
 intro p2
 refine aops_nil (aw_seq (aw_region (ap (.agg [.int .i64 16, .int .i64 1024, .int .i64 2048]) Z Z Z (pu_build (zs := [.int .i64 0, .int .i64 0, .int .i64 0]) (szs := [1, 1, 1]) (aparts := [(0, .int .i64 16), (1, .int .i64 1024), (2, .int .i64 2048)]) (cs := [.int .i64 16, .int .i64 1024, .int .i64 2048]) Z underlying23 zeroValue23 Z ⟨sizeOf3, sizeOf3, sizeOf3, trivial⟩ ⟨Z, (AEv.int _ _), ⟨Z, (AEv.int _ _), ⟨Z, (AEv.int _ _), trivial⟩⟩⟩ Z) (ac0 Z Z (op_store (i := 0) (cs' := [.int .i64 16, .int .i64 1024, .int .i64 2048]) Z sizeOf23 (tm Z) (v := .agg [.int .i64 16, .int .i64 1024, .int .i64 2048]) (tm Z) Z Z Z (Nat.le_of_ble_eq_true Z) Z (aops_nil (aw_ret ?_)))))))
 obtain rfl := some_of h
 exact ⟨[.agg [.int .i64 16, .int .i64 1024, .int .i64 2048]], _, [], ⟨(CellOk.agg 0 (tm Z) Z isAgg23 sizeOf23 (Nat.le_of_ble_eq_true Z) Z), trivial⟩, (AV.Le.refl _), Weak.mkL [] (by decide) trivial trivial, ⟨Z, Z⟩⟩

theorem table.Upper.ok {name : List UInt8} {r : List UInt8} (h : table.Upper name = some r) : Go.Lift.Spec prog 84 [.str name] [] (fun v H => v = .str r ∧ H = []) := by
 unfold table.Upper at h
 refine Go.Lift.Spec.of_body (rs := [.tmp 2]) func84 Z Z (Nat.le_of_ble_eq_true Z) Z (aw_seq (aw_region (ap (.str ([] : List UInt8)) Z Z Z (pu_assign Z (AEv.const Z)) (aops_nil (aw_seq (aw_region (ap (.str name) Z Z Z (pu_move Z (tm Z)) ?_)))))))
 obtain ⟨c174, h⟩ := need_of h
 refine ac Z Z Z (op_strBytes Z underlying9 underlying102 underlying5 (tm Z) c174 ?_)
 intro p175
 refine ap (.vec p175) Z Z Z (pu_assign Z (tm Z)) (aops_nil ?_)
 obtain ⟨s260, s260e, h261⟩ := bind_some h
 refine aw_meet (ν := Unit) (fun v => [(3, .vec p175)]) (fun v => [(p175, .vec 1 (s260.map byteAV))]) ?_ ?_
 ·have h := s260e
  refine aw_seq (aw_region (ap (.vec p175) Z Z Z (pu_move Z (tm Z)) (ac Z Z Z (op_lenVecM (i := 0) Z underlying102 (tm Z) Z (ap (.int .i64 0) Z Z Z (pu_move Z (AEv.int _ _)) (aops_nil (aw_block (aw_while (σ := table.Upper.S0) (ν := Unit) (table.Upper.body0 name) (fun s317 v => [(3, .vec p175), (8, .vec p175), (9, .int .i64 (name.length : Int)), (10, .int .i64 s317.t10)]) (fun s317 v => [(p175, .vec 1 (s317.v.map byteAV))]) ⟨0, name⟩ () _ h (Weak.mkL [0] (by decide) ⟨⟨_, Z, Z⟩, trivial⟩ ⟨AEv.tmp Z, AEv.tmp Z, AEv.tmp Z, AEv.tmp Z, trivial⟩) ?_))))))))
  rintro s317 _ x319 h hx318
  unfold table.Upper.body0 at h
  refine aw_seq (aw_region (ap (.bool (decide (s317.t10 < (name.length : Int)))) Z Z Z (pu_int (v := .bool (decide (s317.t10 < (name.length : Int)))) Z Z (tm Z) (tm Z) Z) (aops_nil (aw_seq (aw_cond (b := decide (s317.t10 < (name.length : Int))) (tm Z) (fun hb346 => ?_) (fun hb346 => ?_))))))
  ·replace h := ite_t (dec_t hb346) h
   refine aw_skip ?_
   obtain ⟨s332, s332e, h333⟩ := bind_some h
   refine aw_meet (ν := Unit) (fun v => [(3, .vec p175), (8, .vec p175), (9, .int .i64 (name.length : Int)), (10, .int .i64 s317.t10)]) (fun v => [(p175, .vec 1 (s332.map byteAV))]) ?_ ?_
   ·have h := s332e
    refine aw_block (aw_seq (aw_region (ap (.int .i64 s317.t10) Z Z Z (pu_move Z (tm Z)) ?_)))
    obtain ⟨c335, h⟩ := need_of h
    refine ac Z Z Z (op_indexAddrVecM Z underlying102 sizeOf5 (tm Z) (j := 0) Z (tm Z) c335 ?_)
    obtain ⟨c336, h⟩ := need_of h
    refine ac Z Z Z (op_loadE1M (i := 0) (sz := 1) Z isAgg5 (tm Z) Z c336 (by decide) Z (ap (.int .i64 s317.t10) Z Z Z (pu_assign Z (tm Z)) (ap (.int .u8 ((ix s317.v s317.t10).toNat : Int)) Z Z Z (pu_assign Z (tm Z)) (aops_nil ?_))))
    obtain ⟨s338, s338e, h339⟩ := letO_of h
    refine aw_meet (ν := Unit) (fun v => [(3, .vec p175), (4, .int .i64 s317.t10), (5, .int .u8 ((ix s317.v s317.t10).toNat : Int)), (8, .vec p175), (9, .int .i64 (name.length : Int)), (10, .int .i64 s317.t10), (20, .bool s338)]) (fun v => [(p175, .vec 1 (s317.v.map byteAV))]) ?_ ?_
    ·have h := s338e.symm
     refine aw_region (ap (.int .u8 ((ix s317.v s317.t10).toNat : Int)) Z Z Z (pu_move Z (tm Z)) (ap (.bool (decide (97 ≤ ((ix s317.v s317.t10).toNat : Int)))) Z Z Z (pu_int (v := .bool (decide (97 ≤ ((ix s317.v s317.t10).toNat : Int)))) Z Z (tm Z) (AEv.int _ _) Z) (ap (.bool (decide (97 ≤ ((ix s317.v s317.t10).toNat : Int)))) Z Z Z (pu_move Z (tm Z)) ?_)))
     rcases Bool.eq_false_or_eq_true (decide (97 ≤ ((ix s317.v s317.t10).toNat : Int))) with hb341 | hb341
     ·replace h := ite_t (dec_t hb341) h
      refine aops_known 17 Z hb341 (agp (.int .u8 ((ix s317.v s317.t10).toNat : Int)) Z Z Z Z Z Z Z (pu_move Z (tm Z)) (agp (.bool (decide (((ix s317.v s317.t10).toNat : Int) ≤ 122))) Z Z Z Z Z Z Z (pu_int (v := .bool (decide (((ix s317.v s317.t10).toNat : Int) ≤ 122))) Z Z (tm Z) (AEv.int _ _) Z) (ap (.bool (decide (((ix s317.v s317.t10).toNat : Int) ≤ 122))) Z Z Z (pu_pick (b := true) Z (tm Z) (fun _ => (tm Z)) (fun h => nomatch h)) (aops_nil ?_))))
      subst h
      exact ⟨(), Weak.mkL [0] (by decide) ⟨⟨_, Z, Z⟩, trivial⟩ ⟨AEv.tmp Z, AEv.tmp Z, AEv.tmp Z, AEv.tmp Z, AEv.tmp Z, AEv.tmp Z, (AEv.le (tm Z) (AV.Le.refl _)), trivial⟩⟩
     ·replace h := ite_f (dec_f hb341) h
      refine aops_known 17 Z hb341 (an Z Z Z Z Z Z Z Z (an Z Z Z Z Z Z Z Z (ap (.bool false) Z Z Z (pu_pick (b := false) Z (tm Z) (fun h => nomatch h) (fun _ => (AEv.bool _))) (aops_nil ?_))))
      subst h
      exact ⟨(), Weak.mkL [0] (by decide) ⟨⟨_, Z, Z⟩, trivial⟩ ⟨AEv.tmp Z, AEv.tmp Z, AEv.tmp Z, AEv.tmp Z, AEv.tmp Z, AEv.tmp Z, AEv.tmp Z, trivial⟩⟩
    ·intro _
     have h := h339
     refine aw_cond (b := s338) (tm Z) (fun hb345 => ?_) (fun hb345 => ?_)
     ·replace h := ite_t hb345 h
      refine aw_region (ap (.vec p175) Z Z Z (pu_move Z (tm Z)) (ap (.int .i64 s317.t10) Z Z Z (pu_move Z (tm Z)) (ap (.int .u8 ((ix s317.v s317.t10).toNat : Int)) Z Z Z (pu_move Z (tm Z)) (ap (.int .u8 (IntKind.wrap .u8 (((ix s317.v s317.t10).toNat : Int) - 97))) Z Z Z (pu_int (v := .int .u8 (IntKind.wrap .u8 (((ix s317.v s317.t10).toNat : Int) - 97))) Z Z (tm Z) (AEv.int _ _) Z) (ap (.int .u8 (IntKind.wrap .u8 ((IntKind.wrap .u8 (((ix s317.v s317.t10).toNat : Int) - 97)) + 65))) Z Z Z (pu_int (v := .int .u8 (IntKind.wrap .u8 ((IntKind.wrap .u8 (((ix s317.v s317.t10).toNat : Int) - 97)) + 65))) Z Z (tm Z) (AEv.int _ _) Z) ?_)))))
      obtain ⟨c342, h⟩ := need_of h
      refine ac Z Z Z (op_indexAddrVecM Z underlying102 sizeOf5 (tm Z) (j := 0) Z (tm Z) c342 ?_)
      obtain ⟨c343, h⟩ := need_of h
      obtain ⟨c344, h⟩ := need_of h
      refine ac0 Z Z (op_storeEM (i := 0) (sz := 1) (y' := u8 (IntKind.wrap .u8 ((IntKind.wrap .u8 (((ix s317.v s317.t10).toNat : Int) - 97)) + 65))) Z sizeOf5 (tm Z) (v := .int .u8 (IntKind.wrap .u8 ((IntKind.wrap .u8 (((ix s317.v s317.t10).toNat : Int) - 97)) + 65))) (tm Z) Z c343 Z Z (by decide) (congrArg AV.cells (byteAV_u8 c344.1 c344.2)) (aops_nil ?_))
      obtain rfl := some_of h
      exact ⟨(), Weak.mkL [0] (by decide) ⟨⟨_, Z, Z⟩, trivial⟩ ⟨AEv.tmp Z, AEv.tmp Z, AEv.tmp Z, AEv.tmp Z, trivial⟩⟩
     ·replace h := ite_fb hb345 h
      refine aw_skip ?_
      obtain rfl := some_of h
      exact ⟨(), Weak.mkL [0] (by decide) ⟨⟨_, Z, Z⟩, trivial⟩ ⟨AEv.tmp Z, AEv.tmp Z, AEv.tmp Z, AEv.tmp Z, trivial⟩⟩
   ·intro _
    have h := h333
    refine aw_region (ap (.int .i64 (IntKind.wrap .i64 (s317.t10 + 1))) Z Z Z (pu_int (v := .int .i64 (IntKind.wrap .i64 (s317.t10 + 1))) Z Z (tm Z) (AEv.int _ _) Z) (ap (.int .i64 (IntKind.wrap .i64 (s317.t10 + 1))) Z Z Z (pu_move Z (tm Z)) (aops_nil ?_)))
    obtain rfl := some_of h
    exact ⟨_, (), Z, Weak.mkL [0] (by decide) ⟨⟨_, Z, Z⟩, trivial⟩ ⟨AEv.tmp Z, AEv.tmp Z, AEv.tmp Z, (AEv.le (tm Z) (AV.Le.refl _)), trivial⟩⟩
  ·replace h := ite_f (dec_f hb346) h
   refine aw_exit ?_
   obtain rfl := some_of h
   have h := congrArg some (hx318 _ rfl)
   obtain rfl := some_of h
   exact ⟨(), Weak.mkL [0] (by decide) ⟨⟨_, Z, Z⟩, trivial⟩ ⟨AEv.tmp Z, trivial⟩⟩
 ·intro _
  have h := h261
  refine aw_seq (aw_region (ap (.vec p175) Z Z Z (pu_move Z (tm Z)) (aops_publish 28 0 (tm Z) Z (ac Z Z Z (op_bytesStr Z underlying102 underlying5 underlying9 (tm Z) (ap (.str s260) Z Z Z (pu_assign Z (tm Z)) (aops_nil (aw_ret ?_))))))))
  obtain rfl := some_of h
  exact ⟨[.str s260], _, [], ⟨(tm Z), trivial⟩, (AV.Le.refl _), Weak.mkL [] (by decide) trivial trivial, ⟨Z, Z⟩⟩

theorem auth.Find_1.ok {t_ : api.Tenant} {a1_ : List UInt8} {r : Bool} (h : auth.Find_1 t_ a1_ = some r) (o0 : Nat) : Go.Lift.Spec prog 69 [.agg (api.Tenant.ct t_), .ptr o0 0] [(o0, .cells [.str a1_])] (fun v H => v = .bool r ∧ H = [(o0, .cells [.str a1_])]) := by
 unfold auth.Find_1 at h
 refine Go.Lift.Spec.of_body (rs := [.tmp 3]) func69 Z Z (Nat.le_of_ble_eq_true Z) Z (aw_seq (aw_region (ac Z Z Z (op_box (cs := (api.Tenant.ct t_)) (v := .agg (api.Tenant.ct t_)) Z (tm Z) Z Z ?_))))
 intro p2
 refine ap (.bool false) Z Z Z (pu_assign Z (AEv.bool _)) (aops_nil (aw_seq (aw_region (ap (.ptr p2 1) Z Z Z (pu_fieldAddr Z underlying53 Z sizeOf9 (by decide) (tm Z) Z) (ac Z Z Z (op_load1 (i := 0) Z isAgg9 (tm Z) Z Z (ac Z Z Z (op_load1 (i := 1) Z isAgg9 (tm Z) Z Z (ap (.bool (decide (t_.Token = a1_))) Z Z Z (pu_str (v := .bool (decide (t_.Token = a1_))) Z Z (tm Z) (tm Z) Z) (ap (.bool (decide (t_.Token = a1_))) Z Z Z (pu_assign Z (tm Z)) (aops_nil ?_)))))))))))
 refine aw_ret ?_
 obtain rfl := some_of h
 exact ⟨[.bool (decide (t_.Token = a1_))], _, [(o0, .cells [.str a1_])], ⟨(tm Z), trivial⟩, (AV.Le.refl _), Weak.mkL [1] (by decide) ⟨⟨_, Z, ⟨(AV.Le.refl _), trivial⟩, Z⟩, trivial⟩ trivial, ⟨Z, Z⟩⟩

theorem slices.IndexFunc_api_Tenant_auth_Find_1.ok {s_ : List api.Tenant} {b0_ : List UInt8} {r : Int} (h : slices.IndexFunc_api_Tenant_auth_Find_1 s_ b0_ = some r) (o0 : Nat) : Go.Lift.Spec prog 68 [.sl .no 14 (s_.map api.Tenant.av), .fn 69 [.ptr o0 0]] [(o0, .cells [.str b0_])] (fun v H => v = .int .i64 r ∧ H = [(o0, .cells [.str b0_])]) := by
 unfold slices.IndexFunc_api_Tenant_auth_Find_1 at h
 refine Go.Lift.Spec.of_body (rs := [.tmp 4]) func68 Z Z (Nat.le_of_ble_eq_true Z) Z (aw_seq (aw_region (ap (.int .i64 0) Z Z Z (pu_assign Z (AEv.int _ _)) (aops_nil ?_))))
 obtain ⟨s80, s80e, h60⟩ := bind_some h
 refine aw_join (σ := Unit) (ν := Unit) (fun u v => []) (fun u v => [(o0, .cells [.str b0_])]) (fun u => s80 = .inl u) ?_ ?_
 ·intro s59
  intro _
  rintro rfl
  have h := onSum_inl h60
  refine aw_seq (aw_region (ap (.int .i64 (-1)) Z Z Z (pu_assign Z (AEv.int _ _)) (aops_nil (aw_ret ?_))))
  obtain rfl := some_of h
  exact ⟨[.int .i64 (-1)], _, [(o0, .cells [.str b0_])], ⟨(tm Z), trivial⟩, (AV.Le.refl _), Weak.mkL [0] (by decide) ⟨⟨_, Z, ⟨(AV.Le.refl _), trivial⟩, Z⟩, trivial⟩ trivial, ⟨Z, Z⟩⟩
 ·have h := s80e
  refine aw_seq (aw_region (ap (.sl .no 14 (s_.map api.Tenant.av)) Z Z Z (pu_move Z (tm Z)) (ap (.int .i64 (s_.length : Int)) Z Z Z (pu_lenM Z underlying76 (tm Z)) (ap (.int .i64 0) Z Z Z (pu_move Z (AEv.int _ _)) (aops_nil (aw_block (aw_while (σ := slices.IndexFunc_api_Tenant_auth_Find_1.S0) (ν := Unit) (slices.IndexFunc_api_Tenant_auth_Find_1.body0 s_ b0_) (fun s72 v => [(0, .sl .no 14 (s_.map api.Tenant.av)), (1, .fn 69 [.ptr o0 0]), (7, .int .i64 (s_.length : Int)), (8, .int .i64 s72.t8)]) (fun s72 v => [(o0, .cells [.str b0_])]) ⟨0⟩ () _ h (Weak.mkL [0] (by decide) ⟨⟨_, Z, ⟨(AV.Le.refl _), trivial⟩, Z⟩, trivial⟩ ⟨AEv.tmp Z, AEv.tmp Z, AEv.tmp Z, AEv.tmp Z, trivial⟩) ?_)))))))
  rintro s72 _ x74 h hx73
  unfold slices.IndexFunc_api_Tenant_auth_Find_1.body0 at h
  refine aw_seq (aw_region (ap (.bool (decide (s72.t8 < (s_.length : Int)))) Z Z Z (pu_int (v := .bool (decide (s72.t8 < (s_.length : Int)))) Z Z (tm Z) (tm Z) Z) (aops_nil (aw_seq (aw_cond (b := decide (s72.t8 < (s_.length : Int))) (tm Z) (fun hb79 => ?_) (fun hb79 => ?_))))))
  ·replace h := ite_t (dec_t hb79) h
   refine aw_skip (aw_seq (aw_block (aw_seq (aw_region (ap (.int .i64 s72.t8) Z Z Z (pu_move Z (tm Z)) (ap (.int .i64 s72.t8) Z Z Z (pu_assign Z (tm Z)) (aops_nil (aw_seq (aw_region ?_)))))))))
   refine ap (.fn 69 [.ptr o0 0]) Z Z Z (pu_move Z (tm Z)) (ap (.sl .no 14 (s_.map api.Tenant.av)) Z Z Z (pu_move Z (tm Z)) (ap (.int .i64 s72.t8) Z Z Z (pu_move Z (tm Z)) ?_))
   obtain ⟨c76, h⟩ := need_of h
   refine ap (.vptr [.str (ix s_ s72.t8).Name, .str (ix s_ s72.t8).Token, .int .i64 (ix s_ s72.t8).Memory, .int .i64 (ix s_ s72.t8).Policy, .int .i64 (ix s_ s72.t8).Conns, .int .i64 (ix s_ s72.t8).In, .int .i64 (ix s_ s72.t8).Out, .int .i64 (ix s_ s72.t8).Burst, .int .i64 (ix s_ s72.t8).Rate, .int .i64 (ix s_ s72.t8).Disk, .int .i64 (ix s_ s72.t8).Sync, .int .i64 (ix s_ s72.t8).Limits.Args, .int .i64 (ix s_ s72.t8).Limits.Bulk, .int .i64 (ix s_ s72.t8).Limits.Line]) Z Z Z (pu_indexAddrM Z underlying76 sizeOf53 (tm Z) (tm Z) c76 Z) (ac Z Z Z (op_loadVN Z isAgg53 sizeOf53 (tm Z) (Nat.le_of_ble_eq_true Z) Z ?_))
   obtain ⟨r77, r77e, h⟩ := bind_some h
   refine ac Z Z Z (op_callV (vs := [.agg (api.Tenant.ct (ix s_ s72.t8))]) (H := [(o0, .cells [.str b0_])]) Z (tm Z) call69 ⟨(tm Z), trivial⟩ (List.Perm.refl _) (auth.Find_1.ok r77e o0) ?_)
   rintro _ _ ⟨rfl, rfl⟩
   refine aops_nil (aw_cond (b := r77) (tm Z) (fun hb78 => ?_) (fun hb78 => ?_))
   ·replace h := ite_t hb78 h
    refine aw_seq (aw_region (ap (.int .i64 s72.t8) Z Z Z (pu_move Z (tm Z)) (ap (.int .i64 s72.t8) Z Z Z (pu_assign Z (tm Z)) (aops_nil (aw_ret ?_)))))
    obtain rfl := some_of h
    have h := congrArg some (hx73 _ rfl)
    obtain rfl := some_of h
    have h := onSum_inr h60
    obtain rfl := some_of h
    exact ⟨[.int .i64 s72.t8], _, [(o0, .cells [.str b0_])], ⟨(tm Z), trivial⟩, (AV.Le.refl _), Weak.mkL [0] (by decide) ⟨⟨_, Z, ⟨(AV.Le.refl _), trivial⟩, Z⟩, trivial⟩ trivial, ⟨Z, Z⟩⟩
   ·replace h := ite_fb hb78 h
    refine aw_skip (aw_region (ap (.int .i64 (IntKind.wrap .i64 (s72.t8 + 1))) Z Z Z (pu_int (v := .int .i64 (IntKind.wrap .i64 (s72.t8 + 1))) Z Z (tm Z) (AEv.int _ _) Z) (ap (.int .i64 (IntKind.wrap .i64 (s72.t8 + 1))) Z Z Z (pu_move Z (tm Z)) (aops_nil ?_))))
    obtain rfl := some_of h
    exact ⟨_, (), Z, Weak.mkL [0] (by decide) ⟨⟨_, Z, ⟨(AV.Le.refl _), trivial⟩, Z⟩, trivial⟩ ⟨AEv.tmp Z, AEv.tmp Z, AEv.tmp Z, (AEv.le (tm Z) (AV.Le.refl _)), trivial⟩⟩
  ·replace h := ite_f (dec_f hb79) h
   refine aw_exit ?_
   obtain rfl := some_of h
   have h := congrArg some (hx73 _ rfl)
   exact ⟨(), (), (some_of h).symm, Weak.mkL [0] (by decide) ⟨⟨_, Z, ⟨(AV.Le.refl _), trivial⟩, Z⟩, trivial⟩ trivial⟩

theorem auth.Find.ok {c_ : api.Config} {token : List UInt8} {r : Int} (h : auth.Find c_ token = some r) : Go.Lift.Spec prog 45 [.agg [.sl .no 14 (c_.Tenants.map api.Tenant.av), .int .i64 c_.Quantum, .int .i64 c_.Deadline], .str token] [] (fun v H => v = .int .i64 r ∧ H = []) := by
 unfold auth.Find at h
 refine Go.Lift.Spec.of_body (rs := [.tmp 4]) func45 Z Z (Nat.le_of_ble_eq_true Z) Z (aw_seq (aw_region (ac Z Z Z (op_box (cs := [.sl .no 14 (c_.Tenants.map api.Tenant.av), .int .i64 c_.Quantum, .int .i64 c_.Deadline]) (v := .agg [.sl .no 14 (c_.Tenants.map api.Tenant.av), .int .i64 c_.Quantum, .int .i64 c_.Deadline]) Z (tm Z) Z Z ?_))))
 intro p4
 refine ac Z Z Z (op_box (cs := [.str token]) (v := .str token) Z (tm Z) Z Z ?_)
 intro p5
 refine ap (.int .i64 0) Z Z Z (pu_assign Z (AEv.int _ _)) (aops_nil (aw_seq (aw_region (ap (.ptr p4 0) Z Z Z (pu_fieldAddr Z underlying78 Z sizeOf76 (by decide) (tm Z) Z) (ac Z Z Z (op_load1 (i := 1) Z isAgg76 (tm Z) Z Z (ap (.fn 69 [.ptr p5 0]) Z Z Z (pu_makeFunc Z ⟨(tm Z), trivial⟩) ?_)))))))
 obtain ⟨r6, r6e, h⟩ := bind_some h
 refine ac Z Z Z (op_call (vs := [.sl .no 14 (c_.Tenants.map api.Tenant.av), .fn 69 [.ptr p5 0]]) (H := [(p5, .cells [.str token])]) Z call68 ⟨(tm Z), (tm Z), trivial⟩ (List.Perm.refl _) (slices.IndexFunc_api_Tenant_auth_Find_1.ok r6e p5) ?_)
 rintro _ _ ⟨rfl, rfl⟩
 refine ap (.int .i64 r6) Z Z Z (pu_assign Z (tm Z)) (aops_nil (aw_ret ?_))
 obtain rfl := some_of h
 exact ⟨[.int .i64 r6], _, [], ⟨(tm Z), trivial⟩, (AV.Le.refl _), Weak.mkL [] (by decide) trivial trivial, ⟨Z, Z⟩⟩

theorem auth.verdict.ok {c_ : api.Config} {call : List (List UInt8)} {r : Int × Int} (h : auth.verdict c_ call = some r) : Go.Lift.Spec prog 71 [.agg [.sl .no 14 (c_.Tenants.map api.Tenant.av), .int .i64 c_.Quantum, .int .i64 c_.Deadline], .sl .no 1 (call.map AV.str)] [] (fun v H => v = .tup [.int .i64 r.1, .int .i64 r.2] ∧ H = []) := by
 unfold auth.verdict at h
 refine Go.Lift.Spec.of_body (rs := [.tmp 4, .tmp 5]) func71 Z Z (Nat.le_of_ble_eq_true Z) Z (aw_seq (aw_region (ac Z Z Z (op_box (cs := [.sl .no 14 (c_.Tenants.map api.Tenant.av), .int .i64 c_.Quantum, .int .i64 c_.Deadline]) (v := .agg [.sl .no 14 (c_.Tenants.map api.Tenant.av), .int .i64 c_.Quantum, .int .i64 c_.Deadline]) Z (tm Z) Z Z ?_))))
 intro p15
 refine ap (.int .i64 0) Z Z Z (pu_assign Z (AEv.int _ _)) (ap (.int .i64 0) Z Z Z (pu_assign Z (AEv.int _ _)) (aops_nil (aw_seq ?_)))
 obtain ⟨s19, s19e, h20⟩ := bind_some h
 refine aw_meet (ν := Unit) (fun v => [(1, .sl .no 1 (call.map AV.str)), (2, .ptr p15 0), (16, .bool s19)]) (fun v => [(p15, .cells [.sl .no 14 (c_.Tenants.map api.Tenant.av), .int .i64 c_.Quantum, .int .i64 c_.Deadline])]) ?_ ?_
 ·have h := s19e
  refine aw_region (ap (.sl .no 1 (call.map AV.str)) Z Z Z (pu_move Z (tm Z)) ?_)
  obtain ⟨c22, h⟩ := need_of h
  refine ap (.vptr [.str (ix call 0)]) Z Z Z (pu_indexAddrM Z underlying26 sizeOf9 (tm Z) (AEv.int _ _) c22 Z) (ac Z Z Z (op_loadV1 Z isAgg9 (tm Z) Z ?_))
  obtain ⟨r23, r23e, h⟩ := bind_some h
  refine ac Z Z Z (op_call (vs := [.str (ix call 0)]) (H := []) Z call84 ⟨(tm Z), trivial⟩ (List.Perm.refl _) (table.Upper.ok r23e) ?_)
  rintro _ _ ⟨rfl, rfl⟩
  refine ap (.bool (!decide (r23 = [65, 85, 84, 72]))) Z Z Z (pu_str (v := .bool (!decide (r23 = [65, 85, 84, 72]))) Z Z (tm Z) (AEv.const Z) Z) (ap (.bool (!decide (r23 = [65, 85, 84, 72]))) Z Z Z (pu_move Z (tm Z)) ?_)
  rcases Bool.eq_false_or_eq_true (!decide (r23 = [65, 85, 84, 72])) with hb24 | hb24
  ·replace h := ite_f (ndec_t hb24) h
   refine aops_known 12 Z hb24 (an Z Z Z Z Z Z Z Z (an Z Z Z Z Z Z Z Z (an Z Z Z Z Z Z Z Z (ap (.bool true) Z Z Z (pu_pick (b := true) Z (tm Z) (fun _ => (AEv.bool _)) (fun h => nomatch h)) (aops_nil ?_)))))
   obtain rfl := some_of h
   exact ⟨(), Weak.mkL [0] (by decide) ⟨⟨_, Z, (CellsLe.refl _), Z⟩, trivial⟩ ⟨AEv.tmp Z, AEv.tmp Z, AEv.tmp Z, trivial⟩⟩
  ·replace h := ite_t (ndec_f hb24) h
   refine aops_known 12 Z hb24 (agp (.sl .no 1 (call.map AV.str)) Z Z Z Z Z Z Z (pu_move Z (tm Z)) (agp (.int .i64 (call.length : Int)) Z Z Z Z Z Z Z (pu_lenM Z underlying26 (tm Z)) (agp (.bool (!decide ((call.length : Int) = 2))) Z Z Z Z Z Z Z (pu_int (v := .bool (!decide ((call.length : Int) = 2))) Z Z (tm Z) (AEv.int _ _) Z) (ap (.bool (!decide ((call.length : Int) = 2))) Z Z Z (pu_pick (b := false) Z (tm Z) (fun h => nomatch h) (fun _ => (tm Z))) (aops_nil ?_)))))
   obtain rfl := some_of h
   exact ⟨(), Weak.mkL [0] (by decide) ⟨⟨_, Z, (CellsLe.refl _), Z⟩, trivial⟩ ⟨AEv.tmp Z, AEv.tmp Z, AEv.tmp Z, trivial⟩⟩
 ·intro _
  have h := h20
  refine aw_cond (b := s19) (tm Z) (fun hb28 => ?_) (fun hb28 => ?_)
  ·replace h := ite_t hb28 h
   refine aw_seq (aw_region (ap (.int .i64 (-1)) Z Z Z (pu_assign Z (AEv.int _ _)) (ap (.int .i64 2) Z Z Z (pu_assign Z (AEv.int _ _)) (aops_nil (aw_ret ?_)))))
   obtain rfl := some_of h
   exact ⟨[.int .i64 (-1), .int .i64 2], _, [], ⟨(tm Z), (tm Z), trivial⟩, (AV.Le.refl _), Weak.mkL [] (by decide) trivial trivial, ⟨Z, Z⟩⟩
  ·replace h := ite_fb hb28 h
   refine aw_skip (aw_seq ?_)
   obtain ⟨c25, h⟩ := need_of h
   obtain ⟨r26, r26e, h⟩ := bind_some h
   refine aw_plan (by decide +kernel) [([], some 17, [2]), ([], some 18, [1]), ([1], some 19, [18]), ([2], some 20, [19]), ([0, 3], some 21, [17, 20]), ([4, 4, 0, 1, 2, 3, 4], some 6, [21])] Z [[], [], [1], [1, 2], [0, 1, 2, 3], [0, 1, 2, 3, 4]] [[(0, 0, false)], [], [], [], [], []] [[]] [[[(p15, .cells [.sl .no 14 (c_.Tenants.map api.Tenant.av), .int .i64 c_.Quantum, .int .i64 c_.Deadline])]]] [.agg [.sl .no 14 (c_.Tenants.map api.Tenant.av), .int .i64 c_.Quantum, .int .i64 c_.Deadline], .sl .no 1 (call.map AV.str), .vptr [.str (ix call 1)], .str (ix call 1), .int .i64 r26, .int .i64 r26] (by decide +kernel) Z Z ?_ ?_
   ·refine ⟨⟨[2], Z, stepg_plain Z (op_loadN (i := 0) Z isAgg78 sizeOf78 (tm Z) Z (Nat.le_of_ble_eq_true Z) Z ⟨Z, Z⟩)⟩, ?_⟩
    refine ⟨⟨[1], Z, stepg_pure Z (pu_move Z (tm Z))⟩, ?_⟩
    refine ⟨⟨[18], Z, stepg_pure Z (pu_indexAddrM Z underlying26 sizeOf9 (tm Z) (AEv.int _ _) c25 Z)⟩, ?_⟩
    refine ⟨⟨[19], Z, stepg_plain Z (op_loadV1 Z isAgg9 (tm Z) Z ⟨Z, Z⟩)⟩, ?_⟩
    refine ⟨⟨[17, 20], Z, stepg_plain Z (op_call (vs := [.agg [.sl .no 14 (c_.Tenants.map api.Tenant.av), .int .i64 c_.Quantum, .int .i64 c_.Deadline], .str (ix call 1)]) (H := []) Z call45 ⟨(tm Z), (tm Z), trivial⟩ (R := []) (List.Perm.refl _) (auth.Find.ok r26e) (by rintro _ _ ⟨rfl, rfl⟩; exact ⟨Z, Z⟩))⟩, ?_⟩
    refine ⟨⟨[21], Z, stepg_pure Z (pu_assign Z (tm Z))⟩, ?_⟩
    trivial
   refine aw_seq (aw_seq (aw_region (ap (.int .i64 r26) Z Z Z (pu_move Z (tm Z)) (ap (.bool (decide (r26 < 0))) Z Z Z (pu_int (v := .bool (decide (r26 < 0))) Z Z (tm Z) (AEv.int _ _) Z) (aops_nil (aw_cond (b := decide (r26 < 0)) (tm Z) (fun hb27 => ?_) (fun hb27 => ?_)))))))
   ·replace h := ite_t (dec_t hb27) h
    refine aw_seq (aw_region (ap (.int .i64 (-1)) Z Z Z (pu_assign Z (AEv.int _ _)) (ap (.int .i64 3) Z Z Z (pu_assign Z (AEv.int _ _)) (aops_nil (aw_ret ?_)))))
    obtain rfl := some_of h
    exact ⟨[.int .i64 (-1), .int .i64 3], _, [], ⟨(tm Z), (tm Z), trivial⟩, (AV.Le.refl _), Weak.mkL [] (by decide) trivial trivial, ⟨Z, Z⟩⟩
   ·replace h := ite_f (dec_f hb27) h
    refine aw_skip (aw_seq (aw_region (ap (.int .i64 r26) Z Z Z (pu_move Z (tm Z)) (ap (.int .i64 r26) Z Z Z (pu_assign Z (tm Z)) (ap (.int .i64 1) Z Z Z (pu_assign Z (AEv.int _ _)) (aops_nil (aw_ret ?_)))))))
    obtain rfl := some_of h
    exact ⟨[.int .i64 r26, .int .i64 1], _, [], ⟨(tm Z), (tm Z), trivial⟩, (AV.Le.refl _), Weak.mkL [] (by decide) trivial trivial, ⟨Z, Z⟩⟩

theorem auth.First.ok {c_ : api.Config} {in_ : api.Input} {s_ : List UInt8} {r : api.Input × (List UInt8) × Int × Int} (h : auth.First c_ in_ s_ = some r) : Go.Lift.Spec prog 47 [.agg [.sl .no 14 (c_.Tenants.map api.Tenant.av), .int .i64 c_.Quantum, .int .i64 c_.Deadline], .agg (api.Input.ct .no in_), .str s_] [] (fun v H => v = .tup [.agg [.str r.1.Rest, .sl .no 1 (r.1.Args.map AV.str), .int .i64 r.1.Left, .int .i64 r.1.Size, .bool r.1.Body, .int .i64 r.1.Need, .int .i64 r.1.Dead], .str r.2.1, .int .i64 r.2.2.1, .int .i64 r.2.2.2] ∧ H = []) := by
 unfold auth.First at h
 refine Go.Lift.Spec.of_body (rs := [.cell 6 29, .tmp 7, .tmp 8, .tmp 9]) func47 Z Z (Nat.le_of_ble_eq_true Z) Z (aw_seq (aw_region (ac Z Z Z (op_box (cs := [.sl .no 14 (c_.Tenants.map api.Tenant.av), .int .i64 c_.Quantum, .int .i64 c_.Deadline]) (v := .agg [.sl .no 14 (c_.Tenants.map api.Tenant.av), .int .i64 c_.Quantum, .int .i64 c_.Deadline]) Z (tm Z) Z Z ?_))))
 intro p81
 refine ac Z Z Z (op_box (cs := (api.Input.ct .no in_)) (v := .agg (api.Input.ct .no in_)) Z (tm Z) Z Z ?_)
 intro p82
 refine ac Z Z Z (op_alloc (cs := [.str ([] : List UInt8), .sl .full 1 (([] : List (List UInt8)).map AV.str), .int .i64 0, .int .i64 0, .bool false, .int .i64 0, .int .i64 0]) (v := .agg [.str ([] : List UInt8), .sl .full 1 (([] : List (List UInt8)).map AV.str), .int .i64 0, .int .i64 0, .bool false, .int .i64 0, .int .i64 0]) Z zeroValue29 Z Z Z ?_)
 intro p83
 refine ap (.str ([] : List UInt8)) Z Z Z (pu_assign Z (AEv.const Z)) (ap (.int .i64 0) Z Z Z (pu_assign Z (AEv.int _ _)) (ap (.int .i64 0) Z Z Z (pu_assign Z (AEv.int _ _)) (aops_nil (aw_seq (aw_seq (aw_region (ap (.ptr p82 6) Z Z Z (pu_fieldAddr Z underlying29 Z sizeOf27 (by decide) (tm Z) Z) (ac Z Z Z (op_load1 (i := 1) Z isAgg27 (tm Z) Z Z (ap (.bool (!decide (in_.Dead = 0))) Z Z Z (pu_int (v := .bool (!decide (in_.Dead = 0))) Z Z (tm Z) (AEv.int _ _) Z) ?_))))))))))
 refine aops_nil (aw_cond (b := (!decide (in_.Dead = 0))) (tm Z) (fun hb160 => ?_) (fun hb160 => ?_))
 ·replace h := ite_f (ndec_t hb160) h
  refine aw_seq (aw_region (ac Z Z Z (op_loadN (i := 1) Z isAgg29 sizeOf29 (tm Z) Z (Nat.le_of_ble_eq_true Z) Z (ac0 Z Z (op_store (i := 0) (cs' := (api.Input.ct .no in_)) Z sizeOf29 (tm Z) (v := .agg (api.Input.ct .no in_)) (tm Z) Z Z Z (Nat.le_of_ble_eq_true Z) Z (ap (.str ([] : List UInt8)) Z Z Z (pu_assign Z (AEv.const Z)) (ap (.int .i64 (-1)) Z Z Z (pu_assign Z (AEv.int _ _)) (ap (.int .i64 4) Z Z Z (pu_assign Z (AEv.int _ _)) (aops_nil (aw_ret ?_))))))))))
  obtain rfl := some_of h
  exact ⟨[.agg (api.Input.ct .no in_), .str ([] : List UInt8), .int .i64 (-1), .int .i64 4], .tup [.agg (api.Input.ct .no in_), .str ([] : List UInt8), .int .i64 (-1), .int .i64 4], [], ⟨(CellOk.agg 0 (tm Z) Z isAgg29 sizeOf29 (Nat.le_of_ble_eq_true Z) Z), (tm Z), (tm Z), (tm Z), trivial⟩, (AV.Le.tup (CellsLe.refl _)), Weak.mkL [] (by decide) trivial trivial, ⟨Z, Z⟩⟩
 ·replace h := ite_t (ndec_f hb160) h
  refine aw_skip ?_
  obtain ⟨s159, s159e, h121⟩ := bind_some h
  refine aw_join (σ := (List UInt8) × (List (List UInt8)) × Int × Int × Bool × Int × Int) (ν := Unit) (fun u v => [(4, .ptr p82 0), (6, .ptr p83 0)]) (fun u v => [(p82, .cells [.str u.1, .sl .no 1 (u.2.1.map AV.str), .int .i64 u.2.2.1, .int .i64 u.2.2.2.1, .bool u.2.2.2.2.1, .int .i64 u.2.2.2.2.2.1, .int .i64 u.2.2.2.2.2.2]), (p83, .cells [.str ([] : List UInt8), .sl .full 1 (([] : List (List UInt8)).map AV.str), .int .i64 0, .int .i64 0, .bool false, .int .i64 0, .int .i64 0])]) (fun u => s159 = .inl u) ?_ ?_
  ·intro s120
   intro _
   rintro rfl
   have h := onSum_inl h121
   refine aw_seq (aw_region (ac Z Z Z (op_loadN (i := 0) Z isAgg29 sizeOf29 (tm Z) Z (Nat.le_of_ble_eq_true Z) Z (ac0 Z Z (op_store (i := 1) (cs' := [.str s120.1, .sl .no 1 (s120.2.1.map AV.str), .int .i64 s120.2.2.1, .int .i64 s120.2.2.2.1, .bool s120.2.2.2.2.1, .int .i64 s120.2.2.2.2.2.1, .int .i64 s120.2.2.2.2.2.2]) Z sizeOf29 (tm Z) (v := .agg [.str s120.1, .sl .no 1 (s120.2.1.map AV.str), .int .i64 s120.2.2.1, .int .i64 s120.2.2.2.1, .bool s120.2.2.2.2.1, .int .i64 s120.2.2.2.2.2.1, .int .i64 s120.2.2.2.2.2.2]) (tm Z) Z Z Z (Nat.le_of_ble_eq_true Z) Z (ap (.str ([] : List UInt8)) Z Z Z (pu_assign Z (AEv.const Z)) (ap (.int .i64 (-1)) Z Z Z (pu_assign Z (AEv.int _ _)) (ap (.int .i64 0) Z Z Z (pu_assign Z (AEv.int _ _)) (aops_nil (aw_ret ?_))))))))))
   obtain rfl := some_of h
   exact ⟨[.agg [.str s120.1, .sl .no 1 (s120.2.1.map AV.str), .int .i64 s120.2.2.1, .int .i64 s120.2.2.2.1, .bool s120.2.2.2.2.1, .int .i64 s120.2.2.2.2.2.1, .int .i64 s120.2.2.2.2.2.2], .str ([] : List UInt8), .int .i64 (-1), .int .i64 0], .tup [.agg [.str s120.1, .sl .no 1 (s120.2.1.map AV.str), .int .i64 s120.2.2.1, .int .i64 s120.2.2.2.1, .bool s120.2.2.2.2.1, .int .i64 s120.2.2.2.2.2.1, .int .i64 s120.2.2.2.2.2.2], .str ([] : List UInt8), .int .i64 (-1), .int .i64 0], [], ⟨(CellOk.agg 1 (tm Z) Z isAgg29 sizeOf29 (Nat.le_of_ble_eq_true Z) Z), (tm Z), (tm Z), (tm Z), trivial⟩, (AV.Le.tup (CellsLe.refl _)), Weak.mkL [] (by decide) trivial trivial, ⟨Z, Z⟩⟩
  ·have h := s159e
   refine aw_seq (aw_region (ap (.str s_) Z Z Z (pu_move Z (tm Z)) (ap (.int .i64 (s_.length : Int)) Z Z Z (pu_strLen Z underlying9 (tm Z)) (ap (.int .i64 0) Z Z Z (pu_move Z (AEv.int _ _)) (aops_nil (aw_block (aw_while (σ := auth.First.S0) (ν := Unit) (auth.First.body0 s_ c_) (fun s145 v => [(2, .str s_), (3, .ptr p81 0), (4, .ptr p82 0), (6, .ptr p83 0), (21, .int .i64 (s_.length : Int)), (22, .int .i64 s145.t22)]) (fun s145 v => [(p81, .cells [.sl .no 14 (c_.Tenants.map api.Tenant.av), .int .i64 c_.Quantum, .int .i64 c_.Deadline]), (p82, .cells [.str s145.c, .sl .no 1 (s145.c2.map AV.str), .int .i64 s145.c3, .int .i64 s145.c4, .bool s145.c5, .int .i64 s145.c6, .int .i64 s145.c7]), (p83, .cells [.str ([] : List UInt8), .sl .full 1 (([] : List (List UInt8)).map AV.str), .int .i64 0, .int .i64 0, .bool false, .int .i64 0, .int .i64 0])]) ⟨0, in_.Rest, in_.Args, in_.Left, in_.Size, in_.Body, in_.Need, in_.Dead⟩ () _ h (Weak.mkL [2, 1, 0] (by decide) ⟨⟨_, Z, (CellsLe.refl _), Z⟩, ⟨_, Z, (CellsLe.refl _), Z⟩, ⟨_, Z, (CellsLe.refl _), Z⟩, trivial⟩ ⟨AEv.tmp Z, AEv.tmp Z, AEv.tmp Z, AEv.tmp Z, AEv.tmp Z, AEv.tmp Z, trivial⟩) ?_)))))))
   rintro s145 _ x147 h hx146
   unfold auth.First.body0 at h
   refine aw_seq (aw_region (ap (.bool (decide (s145.t22 < (s_.length : Int)))) Z Z Z (pu_int (v := .bool (decide (s145.t22 < (s_.length : Int)))) Z Z (tm Z) (tm Z) Z) (aops_nil (aw_seq (aw_cond (b := decide (s145.t22 < (s_.length : Int))) (tm Z) (fun hb158 => ?_) (fun hb158 => ?_))))))
   ·replace h := ite_t (dec_t hb158) h
    refine aw_skip (aw_seq (aw_block (aw_seq (aw_region (ap (.int .i64 s145.t22) Z Z Z (pu_move Z (tm Z)) (ap (.int .i64 s145.t22) Z Z Z (pu_assign Z (tm Z)) (aops_nil (aw_seq ?_))))))))
    obtain ⟨c149, h⟩ := need_of h
    obtain ⟨r150, r150e, h⟩ := bind_some h
    obtain ⟨r151, r151e, h⟩ := bind_some h
    refine aw_reserve fun p152 => (aw_plan (by decide +kernel) [([], some 26, [4]), ([], some 27, [2]), ([], some 28, [10]), ([], some 29, [10]), ([3], some 30, [29]), ([1, 2, 4], some 31, [27, 28, 30]), ([], some 32, []), ([0, 5, 6, 6], some 33, [26, 31, 32]), ([7], some 25, [33]), ([8], some 34, [25]), ([8], some 35, [25]), ([8], some 36, [25]), ([], some 11, []), ([12, 9, 7, 0, 1, 2, 3, 4, 5, 6, 7, 8, 9, 12], none, [11, 34]), ([10, 13, 0, 1, 2, 3, 4, 5, 6, 7, 8, 9, 10, 12, 13], some 12, [35]), ([11, 14, 0, 1, 2, 3, 4, 5, 6, 7, 8, 9, 10, 11, 12, 13, 14], some 13, [36])] Z [[], [], [], [], [3], [1, 2, 3, 4], [], [0, 1, 2, 3, 4, 5, 6], [0, 1, 2, 3, 4, 5, 6, 7], [0, 1, 2, 3, 4, 5, 6, 7, 8], [0, 1, 2, 3, 4, 5, 6, 7, 8], [0, 1, 2, 3, 4, 5, 6, 7, 8], [], [0, 1, 2, 3, 4, 5, 6, 7, 8, 9, 12], [0, 1, 2, 3, 4, 5, 6, 7, 8, 9, 10, 12, 13], [0, 1, 2, 3, 4, 5, 6, 7, 8, 9, 10, 11, 12, 13, 14]] [[(2, 0, false)], [], [], [], [], [], [], [], [], [], [], [], [(0, 0, true)], [(0, 1, true)], [], []] [[12, 13], [], [], []] [[[(p152, .resv)], [(p152, .cells [.str ([] : List UInt8), .sl .full 1 (([] : List (List UInt8)).map AV.str), .int .i64 0, .int .i64 0, .bool false, .int .i64 0, .int .i64 0])], [(p152, .cells (api.Input.ct .no r151.1))]], [[(p81, .cells [.sl .no 14 (c_.Tenants.map api.Tenant.av), .int .i64 c_.Quantum, .int .i64 c_.Deadline])]], [[(p82, .cells [.str s145.c, .sl .no 1 (s145.c2.map AV.str), .int .i64 s145.c3, .int .i64 s145.c4, .bool s145.c5, .int .i64 s145.c6, .int .i64 s145.c7])]], [[(p83, .cells [.str ([] : List UInt8), .sl .full 1 (([] : List (List UInt8)).map AV.str), .int .i64 0, .int .i64 0, .bool false, .int .i64 0, .int .i64 0])]]] [.agg [.str s145.c, .sl .no 1 (s145.c2.map AV.str), .int .i64 s145.c3, .int .i64 s145.c4, .bool s145.c5, .int .i64 s145.c6, .int .i64 s145.c7], .str s_, .int .i64 s145.t22, .int .i64 s145.t22, .int .i64 (IntKind.wrap .i64 (s145.t22 + 1)), .str (sub s_ s145.t22 (IntKind.wrap .i64 (s145.t22 + 1))), .agg [.int .i64 r150.Args, .int .i64 r150.Bulk, .int .i64 r150.Line], .tup [.agg (api.Input.ct .no r151.1), .sl .no 2 (r151.2.1.map api.Request.av), .int .i64 r151.2.2], .tup [.agg (api.Input.ct .no r151.1), .sl .no 2 (r151.2.1.map api.Request.av), .int .i64 r151.2.2], .agg (api.Input.ct .no r151.1), .sl .no 2 (r151.2.1.map api.Request.av), .int .i64 r151.2.2, .ptr p152 0, .un, .sl .no 2 (r151.2.1.map api.Request.av), .int .i64 r151.2.2] (by decide +kernel) Z Z ?_ ?_)
    ·refine ⟨⟨[4], Z, stepg_plain Z (op_loadN (i := 0) Z isAgg29 sizeOf29 (tm Z) Z (Nat.le_of_ble_eq_true Z) Z ⟨Z, Z⟩)⟩, ?_⟩
     refine ⟨⟨[2], Z, stepg_pure Z (pu_move Z (tm Z))⟩, ?_⟩
     refine ⟨⟨[10], Z, stepg_pure Z (pu_move Z (tm Z))⟩, ?_⟩
     refine ⟨⟨[10], Z, stepg_pure Z (pu_move Z (tm Z))⟩, ?_⟩
     refine ⟨⟨[29], Z, stepg_pure Z (pu_int (v := .int .i64 (IntKind.wrap .i64 (s145.t22 + 1))) Z Z (tm Z) (AEv.int _ _) Z)⟩, ?_⟩
     refine ⟨⟨[27, 28, 30], Z, stepg_pure Z (pu_strSliceM Z underlying9 (tm Z) ⟨_, (tm Z)⟩ ⟨_, (tm Z)⟩ c149)⟩, ?_⟩
     refine ⟨⟨[], Z, stepg_plain Z (op_call (vs := []) (H := []) Z call70 trivial (R := []) (List.Perm.refl _) (auth.limits.ok r150e) (by rintro _ _ ⟨rfl, rfl⟩; exact ⟨Z, Z⟩))⟩, ?_⟩
     refine ⟨⟨[26, 31, 32], Z, stepg_plain Z (aop_forget (.tup [.agg (api.Input.ct .no r151.1), .sl .no 2 (r151.2.1.map api.Request.av), .int .i64 r151.2.2]) [] (op_call (vs := [.agg [.str s145.c, .sl .no 1 (s145.c2.map AV.str), .int .i64 s145.c3, .int .i64 s145.c4, .bool s145.c5, .int .i64 s145.c6, .int .i64 s145.c7], .str (sub s_ s145.t22 (IntKind.wrap .i64 (s145.t22 + 1))), .agg [.int .i64 r150.Args, .int .i64 r150.Bulk, .int .i64 r150.Line]]) (H := []) Z call15 ⟨(tm Z), (tm Z), (tm Z), trivial⟩ (R := []) (List.Perm.refl _) (parse.Feed.ok r151e) (by rintro _ _ ⟨_, rfl, rfl⟩; exact ⟨([] : List Nat), _, Z, Z, (AV.Le.tup ⟨(AV.Le.refl _), (AV.Le.forget _ _ _), (AV.Le.refl _), trivial⟩), List.nodup_nil, Z⟩)) ⟨Z, Z⟩)⟩, ?_⟩
     refine ⟨⟨[33], Z, stepg_pure Z (pu_move Z (tm Z))⟩, ?_⟩
     refine ⟨⟨[25], Z, stepg_pure Z (pu_extract Z (tm Z) (Nat.le_of_ble_eq_true Z) Z)⟩, ?_⟩
     refine ⟨⟨[25], Z, stepg_pure Z (pu_extract Z (tm Z) (Nat.le_of_ble_eq_true Z) Z)⟩, ?_⟩
     refine ⟨⟨[25], Z, stepg_pure Z (pu_extract Z (tm Z) (Nat.le_of_ble_eq_true Z) Z)⟩, ?_⟩
     refine ⟨⟨[], Z, stepg_plain Z (aop_settleP (op_alloc (cs := [.str ([] : List UInt8), .sl .full 1 (([] : List (List UInt8)).map AV.str), .int .i64 0, .int .i64 0, .bool false, .int .i64 0, .int .i64 0]) (v := .agg [.str ([] : List UInt8), .sl .full 1 (([] : List (List UInt8)).map AV.str), .int .i64 0, .int .i64 0, .bool false, .int .i64 0, .int .i64 0]) Z zeroValue29 Z Z Z fun t => ⟨t, Z, Z⟩) ⟨Z, Z⟩)⟩, ?_⟩
     refine ⟨⟨[11, 34], Z, stepg_plain Z (op_store (i := 0) (cs' := (api.Input.ct .no r151.1)) Z sizeOf29 (tm Z) (v := .agg (api.Input.ct .no r151.1)) (tm Z) Z Z Z (Nat.le_of_ble_eq_true Z) Z ⟨Z, Z⟩)⟩, ?_⟩
     refine ⟨⟨[35], Z, stepg_pure Z (pu_assign Z (tm Z))⟩, ?_⟩
     refine ⟨⟨[36], Z, stepg_pure Z (pu_assign Z (tm Z))⟩, ?_⟩
     trivial
    refine aw_seq (aw_seq (aw_region (ap (.int .i64 r151.2.2) Z Z Z (pu_move Z (tm Z)) (ap (.bool (!decide (r151.2.2 = 0))) Z Z Z (pu_int (v := .bool (!decide (r151.2.2 = 0))) Z Z (tm Z) (AEv.int _ _) Z) (aops_nil (aw_cond (b := (!decide (r151.2.2 = 0))) (tm Z) (fun hb157 => ?_) (fun hb157 => ?_)))))))
    ·replace h := ite_f (ndec_t hb157) h
     refine aw_seq (aw_region (ac Z Z Z (op_loadN (i := 0) Z isAgg29 sizeOf29 (tm Z) Z (Nat.le_of_ble_eq_true Z) Z (ac0 Z Z (op_store (i := 3) (cs' := (api.Input.ct .no r151.1)) Z sizeOf29 (tm Z) (v := .agg (api.Input.ct .no r151.1)) (tm Z) Z Z Z (Nat.le_of_ble_eq_true Z) Z (ap (.str ([] : List UInt8)) Z Z Z (pu_assign Z (AEv.const Z)) (ap (.int .i64 (-1)) Z Z Z (pu_assign Z (AEv.int _ _)) (ap (.int .i64 4) Z Z Z (pu_assign Z (AEv.int _ _)) (aops_nil (aw_ret ?_))))))))))
     obtain rfl := some_of h
     have h := congrArg some (hx146 _ rfl)
     obtain rfl := some_of h
     have h := onSum_inr h121
     obtain rfl := some_of h
     exact ⟨[.agg (api.Input.ct .no r151.1), .str ([] : List UInt8), .int .i64 (-1), .int .i64 4], .tup [.agg (api.Input.ct .no r151.1), .str ([] : List UInt8), .int .i64 (-1), .int .i64 4], [], ⟨(CellOk.agg 3 (tm Z) Z isAgg29 sizeOf29 (Nat.le_of_ble_eq_true Z) Z), (tm Z), (tm Z), (tm Z), trivial⟩, (AV.Le.tup (CellsLe.refl _)), Weak.mkL [] (by decide) trivial trivial, ⟨Z, Z⟩⟩
    ·replace h := ite_t (ndec_f hb157) h
     refine aw_skip (aw_seq (aw_seq (aw_region (ap (.sl .no 2 (r151.2.1.map api.Request.av)) Z Z Z (pu_move Z (tm Z)) (ap (.int .i64 (r151.2.1.length : Int)) Z Z Z (pu_lenM Z underlying30 (tm Z)) (ap (.bool (decide (0 < (r151.2.1.length : Int)))) Z Z Z (pu_int (v := .bool (decide (0 < (r151.2.1.length : Int)))) Z Z (tm Z) (AEv.int _ _) Z) (aops_nil (aw_cond (b := decide (0 < (r151.2.1.length : Int))) (tm Z) (fun hb156 => ?_) (fun hb156 => ?_)))))))))
     ·replace h := ite_t (dec_t hb156) h
      refine aw_seq ?_
      obtain ⟨c153, h⟩ := need_of h
      obtain ⟨r154, r154e, h⟩ := bind_some h
      refine aw_plan (by decide +kernel) [([], some 44, [3]), ([], some 45, [12]), ([1], some 46, [45]), ([2], some 47, [46]), ([3], some 48, [47]), ([0, 4], some 49, [44, 48]), ([5], some 43, [49]), ([6], some 50, [43]), ([6], some 51, [43]), ([7, 5, 0, 1, 2, 3, 4, 5, 6, 7], some 14, [50]), ([8, 9, 0, 1, 2, 3, 4, 5, 6, 7, 8, 9], some 15, [51])] Z [[], [], [1], [1, 2], [1, 2, 3], [0, 1, 2, 3, 4], [0, 1, 2, 3, 4, 5], [0, 1, 2, 3, 4, 5, 6], [0, 1, 2, 3, 4, 5, 6], [0, 1, 2, 3, 4, 5, 6, 7], [0, 1, 2, 3, 4, 5, 6, 7, 8, 9]] [[(1, 0, false)], [], [], [], [], [], [], [], [], [], []] [[], [], [], []] [[[(p152, .cells (api.Input.ct .no r151.1))]], [[(p81, .cells [.sl .no 14 (c_.Tenants.map api.Tenant.av), .int .i64 c_.Quantum, .int .i64 c_.Deadline])]], [[(p82, .cells [.str s145.c, .sl .no 1 (s145.c2.map AV.str), .int .i64 s145.c3, .int .i64 s145.c4, .bool s145.c5, .int .i64 s145.c6, .int .i64 s145.c7])]], [[(p83, .cells [.str ([] : List UInt8), .sl .full 1 (([] : List (List UInt8)).map AV.str), .int .i64 0, .int .i64 0, .bool false, .int .i64 0, .int .i64 0])]]] [.agg [.sl .no 14 (c_.Tenants.map api.Tenant.av), .int .i64 c_.Quantum, .int .i64 c_.Deadline], .sl .no 2 (r151.2.1.map api.Request.av), .vptr [.sl .no 1 ((ix r151.2.1 0).Args.map AV.str), .int .i64 (ix r151.2.1 0).Size], .vptr [.sl .no 1 ((ix r151.2.1 0).Args.map AV.str), .int .i64 (ix r151.2.1 0).Size], .sl .no 1 ((ix r151.2.1 0).Args.map AV.str), .tup [.int .i64 r154.1, .int .i64 r154.2], .tup [.int .i64 r154.1, .int .i64 r154.2], .int .i64 r154.1, .int .i64 r154.2, .int .i64 r154.1, .int .i64 r154.2] (by decide +kernel) Z Z ?_ ?_
      ·refine ⟨⟨[3], Z, stepg_plain Z (op_loadN (i := 0) Z isAgg78 sizeOf78 (tm Z) Z (Nat.le_of_ble_eq_true Z) Z ⟨Z, Z⟩)⟩, ?_⟩
       refine ⟨⟨[12], Z, stepg_pure Z (pu_move Z (tm Z))⟩, ?_⟩
       refine ⟨⟨[45], Z, stepg_pure Z (pu_indexAddrM Z underlying30 sizeOf44 (tm Z) (AEv.int _ _) c153 Z)⟩, ?_⟩
       refine ⟨⟨[46], Z, stepg_pure Z (pu_fieldAddr Z underlying44 Z sizeOf26 (by decide) (tm Z) Z)⟩, ?_⟩
       refine ⟨⟨[47], Z, stepg_plain Z (op_loadV1 Z isAgg26 (tm Z) Z ⟨Z, Z⟩)⟩, ?_⟩
       refine ⟨⟨[44, 48], Z, stepg_plain Z (op_call (vs := [.agg [.sl .no 14 (c_.Tenants.map api.Tenant.av), .int .i64 c_.Quantum, .int .i64 c_.Deadline], .sl .no 1 ((ix r151.2.1 0).Args.map AV.str)]) (H := []) Z call71 ⟨(tm Z), (tm Z), trivial⟩ (R := []) (List.Perm.refl _) (auth.verdict.ok r154e) (by rintro _ _ ⟨rfl, rfl⟩; exact ⟨Z, Z⟩))⟩, ?_⟩
       refine ⟨⟨[49], Z, stepg_pure Z (pu_move Z (tm Z))⟩, ?_⟩
       refine ⟨⟨[43], Z, stepg_pure Z (pu_extract Z (tm Z) (Nat.le_of_ble_eq_true Z) Z)⟩, ?_⟩
       refine ⟨⟨[43], Z, stepg_pure Z (pu_extract Z (tm Z) (Nat.le_of_ble_eq_true Z) Z)⟩, ?_⟩
       refine ⟨⟨[50], Z, stepg_pure Z (pu_assign Z (tm Z))⟩, ?_⟩
       refine ⟨⟨[51], Z, stepg_pure Z (pu_assign Z (tm Z))⟩, ?_⟩
       trivial
      refine aw_seq ?_
      obtain ⟨c155, h⟩ := need_of h
      refine aw_plan (by decide +kernel) [([], some 52, []), ([], some 53, [2]), ([], some 54, [10]), ([2], some 55, [54]), ([1, 3], some 56, [53, 55]), ([], some 57, [14]), ([], some 58, [15]), ([0, 0], none, [6, 52]), ([4, 7, 0, 1, 2, 3, 4, 7], some 7, [56]), ([5, 8, 0, 1, 2, 3, 4, 5, 7, 8], some 8, [57]), ([6, 9, 0, 1, 2, 3, 4, 5, 6, 7, 8, 9], some 9, [58])] Z [[], [], [], [2], [1, 2, 3], [], [], [0], [0, 1, 2, 3, 4, 7], [0, 1, 2, 3, 4, 5, 7, 8], [0, 1, 2, 3, 4, 5, 6, 7, 8, 9]] [[], [], [], [], [], [], [], [(3, 0, true)], [], [], []] [[], [], [], [7]] [[[(p152, .cells (api.Input.ct .no r151.1))]], [[(p81, .cells [.sl .no 14 (c_.Tenants.map api.Tenant.av), .int .i64 c_.Quantum, .int .i64 c_.Deadline])]], [[(p82, .cells [.str s145.c, .sl .no 1 (s145.c2.map AV.str), .int .i64 s145.c3, .int .i64 s145.c4, .bool s145.c5, .int .i64 s145.c6, .int .i64 s145.c7])]], [[(p83, .cells [.str ([] : List UInt8), .sl .full 1 (([] : List (List UInt8)).map AV.str), .int .i64 0, .int .i64 0, .bool false, .int .i64 0, .int .i64 0])], [(p83, .cells [.str ([] : List UInt8), .sl .full 1 (([] : List (List UInt8)).map AV.str), .int .i64 0, .int .i64 0, .bool false, .int .i64 0, .int .i64 0])]]] [.agg [.str ([] : List UInt8), .sl .full 1 (([] : List (List UInt8)).map AV.str), .int .i64 0, .int .i64 0, .bool false, .int .i64 0, .int .i64 0], .str s_, .int .i64 s145.t22, .int .i64 (IntKind.wrap .i64 (s145.t22 + 1)), .str (sub s_ (IntKind.wrap .i64 (s145.t22 + 1)) (s_.length : Int)), .int .i64 r154.1, .int .i64 r154.2, .un, .str (sub s_ (IntKind.wrap .i64 (s145.t22 + 1)) (s_.length : Int)), .int .i64 r154.1, .int .i64 r154.2] (by decide +kernel) Z Z ?_ ?_
      ·refine ⟨⟨[], Z, stepg_pure Z (pu_build (zs := [.str ([] : List UInt8), .sl .full 1 (([] : List (List UInt8)).map AV.str), .int .i64 0, .int .i64 0, .bool false, .int .i64 0, .int .i64 0]) (szs := [1, 1, 1, 1, 1, 1, 1]) (aparts := []) (cs := [.str ([] : List UInt8), .sl .full 1 (([] : List (List UInt8)).map AV.str), .int .i64 0, .int .i64 0, .bool false, .int .i64 0, .int .i64 0]) Z underlying29 zeroValue29 Z ⟨sizeOf9, sizeOf26, sizeOf3, sizeOf3, sizeOf4, sizeOf3, sizeOf27, trivial⟩ trivial Z)⟩, ?_⟩
       refine ⟨⟨[2], Z, stepg_pure Z (pu_move Z (tm Z))⟩, ?_⟩
       refine ⟨⟨[10], Z, stepg_pure Z (pu_move Z (tm Z))⟩, ?_⟩
       refine ⟨⟨[54], Z, stepg_pure Z (pu_int (v := .int .i64 (IntKind.wrap .i64 (s145.t22 + 1))) Z Z (tm Z) (AEv.int _ _) Z)⟩, ?_⟩
       refine ⟨⟨[53, 55], Z, stepg_pure Z (pu_strSliceM Z underlying9 (tm Z) ⟨_, (tm Z)⟩ Z c155)⟩, ?_⟩
       refine ⟨⟨[14], Z, stepg_pure Z (pu_move Z (tm Z))⟩, ?_⟩
       refine ⟨⟨[15], Z, stepg_pure Z (pu_move Z (tm Z))⟩, ?_⟩
       refine ⟨⟨[6, 52], Z, stepg_plain Z (op_store (i := 0) (cs' := [.str ([] : List UInt8), .sl .full 1 (([] : List (List UInt8)).map AV.str), .int .i64 0, .int .i64 0, .bool false, .int .i64 0, .int .i64 0]) Z sizeOf29 (tm Z) (v := .agg [.str ([] : List UInt8), .sl .full 1 (([] : List (List UInt8)).map AV.str), .int .i64 0, .int .i64 0, .bool false, .int .i64 0, .int .i64 0]) (tm Z) Z Z Z (Nat.le_of_ble_eq_true Z) Z ⟨Z, Z⟩)⟩, ?_⟩
       refine ⟨⟨[56], Z, stepg_pure Z (pu_assign Z (tm Z))⟩, ?_⟩
       refine ⟨⟨[57], Z, stepg_pure Z (pu_assign Z (tm Z))⟩, ?_⟩
       refine ⟨⟨[58], Z, stepg_pure Z (pu_assign Z (tm Z))⟩, ?_⟩
       trivial
      refine aw_ret ?_
      obtain rfl := some_of h
      have h := congrArg some (hx146 _ rfl)
      obtain rfl := some_of h
      have h := onSum_inr h121
      obtain rfl := some_of h
      exact ⟨[.agg [.str ([] : List UInt8), .sl .full 1 (([] : List (List UInt8)).map AV.str), .int .i64 0, .int .i64 0, .bool false, .int .i64 0, .int .i64 0], .str (sub s_ (IntKind.wrap .i64 (s145.t22 + 1)) (s_.length : Int)), .int .i64 r154.1, .int .i64 r154.2], .tup [.agg [.str ([] : List UInt8), .sl .no 1 (([] : List (List UInt8)).map AV.str), .int .i64 0, .int .i64 0, .bool false, .int .i64 0, .int .i64 0], .str (sub s_ (IntKind.wrap .i64 (s145.t22 + 1)) (s_.length : Int)), .int .i64 r154.1, .int .i64 r154.2], [], ⟨(CellOk.agg 3 (tm Z) Z isAgg29 sizeOf29 (Nat.le_of_ble_eq_true Z) Z), (tm Z), (tm Z), (tm Z), trivial⟩, (AV.Le.tup ⟨(AV.Le.agg ⟨(AV.Le.refl _), (AV.Le.forget _ _ _), (AV.Le.refl _), (AV.Le.refl _), (AV.Le.refl _), (AV.Le.refl _), (AV.Le.refl _), trivial⟩), (AV.Le.refl _), (AV.Le.refl _), (AV.Le.refl _), trivial⟩), Weak.mkL [] (by decide) trivial trivial, ⟨Z, Z⟩⟩
     ·replace h := ite_f (dec_f hb156) h
      refine aw_skip (aw_region (ac Z Z Z (op_loadN (i := 0) Z isAgg29 sizeOf29 (tm Z) Z (Nat.le_of_ble_eq_true Z) Z (ac0 Z Z (op_store (i := 2) (cs' := (api.Input.ct .no r151.1)) Z sizeOf29 (tm Z) (v := .agg (api.Input.ct .no r151.1)) (tm Z) Z Z Z (Nat.le_of_ble_eq_true Z) Z (aops_nil (aw_region (ap (.int .i64 (IntKind.wrap .i64 (s145.t22 + 1))) Z Z Z (pu_int (v := .int .i64 (IntKind.wrap .i64 (s145.t22 + 1))) Z Z (tm Z) (AEv.int _ _) Z) (ap (.int .i64 (IntKind.wrap .i64 (s145.t22 + 1))) Z Z Z (pu_move Z (tm Z)) (aops_nil ?_))))))))))
      obtain rfl := some_of h
      exact ⟨_, (), Z, Weak.mkL [1, 2, 3] (by decide) ⟨⟨_, Z, (CellsLe.refl _), Z⟩, ⟨_, Z, (CellsLe.refl _), Z⟩, ⟨_, Z, (CellsLe.refl _), Z⟩, trivial⟩ ⟨AEv.tmp Z, AEv.tmp Z, AEv.tmp Z, AEv.tmp Z, AEv.tmp Z, (AEv.le (tm Z) (AV.Le.refl _)), trivial⟩⟩
   ·replace h := ite_f (dec_f hb158) h
    refine aw_exit ?_
    obtain rfl := some_of h
    have h := congrArg some (hx146 _ rfl)
    exact ⟨(s145.c, s145.c2, s145.c3, s145.c4, s145.c5, s145.c6, s145.c7), (), (some_of h).symm, Weak.mkL [1, 2] (by decide) ⟨⟨_, Z, (CellsLe.refl _), Z⟩, ⟨_, Z, (CellsLe.refl _), Z⟩, trivial⟩ ⟨AEv.tmp Z, AEv.tmp Z, trivial⟩⟩

theorem auth.may_1.ok {n_ : Int} {low : Int} {high : Int} {a3_ : Bool} {r : Bool} (h : auth.may_1 n_ low high a3_ = some r) (o0 : Nat) : Go.Lift.Spec prog 83 [.int .i64 n_, .int .i64 low, .int .i64 high, .ptr o0 0] [(o0, .cells [.bool a3_])] (fun v H => v = .tup [] ∧ H = [(o0, .cells [.bool r])]) := by
 unfold auth.may_1 at h
 refine Go.Lift.Spec.of_body (rs := []) func83 Z Z (Nat.le_of_ble_eq_true Z) Z (aw_upd (aw_region (ac Z Z Z (op_load1 (i := 0) Z isAgg4 (tm Z) Z Z (ap (.bool a3_) Z Z Z (pu_move Z (tm Z)) ?_)))))
 rcases Bool.eq_false_or_eq_true a3_ with hb3 | hb3
 ·replace h := ite_t hb3 h
  refine aops_known 8 Z hb3 (agp (.int .i64 n_) Z Z Z Z Z Z Z (pu_move Z (tm Z)) (agp (.int .i64 low) Z Z Z Z Z Z Z (pu_move Z (tm Z)) (agp (.bool (decide (low ≤ n_))) Z Z Z Z Z Z Z (pu_int (v := .bool (decide (low ≤ n_))) Z Z (tm Z) (tm Z) Z) (ap (.bool (decide (low ≤ n_))) Z Z Z (pu_pick (b := true) Z (tm Z) (fun _ => (tm Z)) (fun h => nomatch h)) (ap (.bool (decide (low ≤ n_))) Z Z Z (pu_move Z (tm Z)) ?_)))))
  rcases Bool.eq_false_or_eq_true (decide (low ≤ n_)) with hb4 | hb4
  ·replace h := ite_t (dec_t hb4) h
   refine aops_known 13 Z hb4 (agp (.int .i64 n_) Z Z Z Z Z Z Z (pu_move Z (tm Z)) (agp (.int .i64 high) Z Z Z Z Z Z Z (pu_move Z (tm Z)) (agp (.bool (decide (n_ ≤ high))) Z Z Z Z Z Z Z (pu_int (v := .bool (decide (n_ ≤ high))) Z Z (tm Z) (tm Z) Z) (ap (.bool (decide (n_ ≤ high))) Z Z Z (pu_pick (b := true) Z (tm Z) (fun _ => (tm Z)) (fun h => nomatch h)) (ac0 Z Z (op_store (i := 0) (cs' := [.bool (decide (n_ ≤ high))]) Z sizeOf4 (tm Z) (v := .bool (decide (n_ ≤ high))) (tm Z) Z Z Z (Nat.le_of_ble_eq_true Z) Z (aops_nil (upd_done ?_))))))))
   obtain rfl := some_of h
   exact ⟨[], _, [(o0, .cells [.bool (decide (n_ ≤ high))])], trivial, (AV.Le.refl _), Weak.mkL [0] (by decide) ⟨⟨_, Z, ⟨(AV.Le.refl _), trivial⟩, Z⟩, trivial⟩ trivial, ⟨Z, Z⟩⟩
  ·replace h := ite_f (dec_f hb4) h
   refine aops_known 13 Z hb4 (an Z Z Z Z Z Z Z Z (an Z Z Z Z Z Z Z Z (an Z Z Z Z Z Z Z Z (ap (.bool false) Z Z Z (pu_pick (b := false) Z (tm Z) (fun h => nomatch h) (fun _ => (AEv.bool _))) (ac0 Z Z (op_store (i := 0) (cs' := [.bool false]) Z sizeOf4 (tm Z) (v := .bool false) (tm Z) Z Z Z (Nat.le_of_ble_eq_true Z) Z (aops_nil (upd_done ?_))))))))
   obtain rfl := some_of h
   exact ⟨[], _, [(o0, .cells [.bool false])], trivial, (AV.Le.refl _), Weak.mkL [0] (by decide) ⟨⟨_, Z, ⟨(AV.Le.refl _), trivial⟩, Z⟩, trivial⟩ trivial, ⟨Z, Z⟩⟩
 ·replace h := ite_fb hb3 h
  refine aops_known 8 Z hb3 (an Z Z Z Z Z Z Z Z (an Z Z Z Z Z Z Z Z (an Z Z Z Z Z Z Z Z (ap (.bool false) Z Z Z (pu_pick (b := false) Z (tm Z) (fun h => nomatch h) (fun _ => (AEv.bool _))) (ap (.bool false) Z Z Z (pu_move Z (tm Z)) (an Z Z Z Z Z Z Z Z (an Z Z Z Z Z Z Z Z (an Z Z Z Z Z Z Z Z (ap (.bool false) Z Z Z (pu_pick (b := false) Z (tm Z) (fun h => nomatch h) (fun _ => (AEv.bool _))) ?_)))))))))
  refine ac0 Z Z (op_store (i := 0) (cs' := [.bool false]) Z sizeOf4 (tm Z) (v := .bool false) (tm Z) Z Z Z (Nat.le_of_ble_eq_true Z) Z (aops_nil (upd_done ?_)))
  obtain rfl := some_of h
  exact ⟨[], _, [(o0, .cells [.bool false])], trivial, (AV.Le.refl _), Weak.mkL [0] (by decide) ⟨⟨_, Z, ⟨(AV.Le.refl _), trivial⟩, Z⟩, trivial⟩ trivial, ⟨Z, Z⟩⟩

theorem auth.may.ok {t_ : api.Tenant} {r : Bool} (h : auth.may t_ = some r) : Go.Lift.Spec prog 64 [.agg (api.Tenant.ct t_)] [] (fun v H => v = .bool r ∧ H = []) := by
 unfold auth.may at h
 refine Go.Lift.Spec.of_body (rs := [.tmp 2]) func64 Z Z (Nat.le_of_ble_eq_true Z) Z (aw_seq (aw_region (ac Z Z Z (op_box (cs := (api.Tenant.ct t_)) (v := .agg (api.Tenant.ct t_)) Z (tm Z) Z Z ?_))))
 intro p17
 refine ap (.bool false) Z Z Z (pu_assign Z (AEv.bool _)) (aops_nil (aw_seq (aw_region (ac Z Z Z (op_alloc (cs := [.bool false]) (v := .bool false) Z zeroValue4 Z Z Z ?_)))))
 intro p18
 refine ac0 Z Z (op_store (i := 0) (cs' := [.bool true]) Z sizeOf4 (tm Z) (v := .bool true) (AEv.bool _) Z Z Z (Nat.le_of_ble_eq_true Z) Z (aops_nil (aw_seq (aw_region (ap (.fn 83 [.ptr p18 0]) Z Z Z (pu_makeFunc Z ⟨(tm Z), trivial⟩) (ap (.fn 83 [.ptr p18 0]) Z Z Z (pu_assign Z (tm Z)) (aops_nil (aw_seq (aw_region (ap (.fn 83 [.ptr p18 0]) Z Z Z (pu_move Z (tm Z)) ?_))))))))))
 refine ap (.ptr p17 0) Z Z Z (pu_fieldAddr Z underlying53 Z sizeOf9 (by decide) (tm Z) Z) (ac Z Z Z (op_load1 (i := 1) Z isAgg9 (tm Z) Z Z (ap (.int .i64 (t_.Name.length : Int)) Z Z Z (pu_strLen Z underlying9 (tm Z)) ?_)))
 obtain ⟨r19, r19e, h⟩ := bind_some h
 refine ac Z Z Z (op_callV (vs := [.int .i64 (t_.Name.length : Int), .int .i64 1, .int .i64 64]) (H := [(p18, .cells [.bool true])]) Z (tm Z) call83 ⟨(tm Z), (AEv.int _ _), (AEv.int _ _), trivial⟩ (List.Perm.refl _) (auth.may_1.ok r19e p18) ?_)
 rintro _ _ ⟨rfl, rfl⟩
 refine aops_nil (aw_seq (aw_region (ap (.fn 83 [.ptr p18 0]) Z Z Z (pu_move Z (tm Z)) (ap (.ptr p17 1) Z Z Z (pu_fieldAddr Z underlying53 Z sizeOf9 (by decide) (tm Z) Z) (ac Z Z Z (op_load1 (i := 1) Z isAgg9 (tm Z) Z Z (ap (.int .i64 (t_.Token.length : Int)) Z Z Z (pu_strLen Z underlying9 (tm Z)) ?_)))))))
 obtain ⟨r20, r20e, h⟩ := bind_some h
 refine ac Z Z Z (op_callV (vs := [.int .i64 (t_.Token.length : Int), .int .i64 1, .int .i64 64]) (H := [(p18, .cells [.bool r19])]) Z (tm Z) call83 ⟨(tm Z), (AEv.int _ _), (AEv.int _ _), trivial⟩ (List.Perm.refl _) (auth.may_1.ok r20e p18) ?_)
 rintro _ _ ⟨rfl, rfl⟩
 refine aops_nil (aw_seq (aw_region (ap (.fn 83 [.ptr p18 0]) Z Z Z (pu_move Z (tm Z)) (ap (.ptr p17 2) Z Z Z (pu_fieldAddr Z underlying53 Z sizeOf3 (by decide) (tm Z) Z) (ac Z Z Z (op_load1 (i := 1) Z isAgg3 (tm Z) Z Z ?_))))))
 obtain ⟨r21, r21e, h⟩ := bind_some h
 refine ac Z Z Z (op_callV (vs := [.int .i64 t_.Memory, .int .i64 0, .int .i64 524288]) (H := [(p18, .cells [.bool r20])]) Z (tm Z) call83 ⟨(tm Z), (AEv.int _ _), (AEv.int _ _), trivial⟩ (List.Perm.refl _) (auth.may_1.ok r21e p18) ?_)
 rintro _ _ ⟨rfl, rfl⟩
 refine aops_nil (aw_seq (aw_region (ap (.fn 83 [.ptr p18 0]) Z Z Z (pu_move Z (tm Z)) (ap (.ptr p17 3) Z Z Z (pu_fieldAddr Z underlying53 Z sizeOf3 (by decide) (tm Z) Z) (ac Z Z Z (op_load1 (i := 1) Z isAgg3 (tm Z) Z Z ?_))))))
 obtain ⟨r22, r22e, h⟩ := bind_some h
 refine ac Z Z Z (op_callV (vs := [.int .i64 t_.Policy, .int .i64 0, .int .i64 5]) (H := [(p18, .cells [.bool r21])]) Z (tm Z) call83 ⟨(tm Z), (AEv.int _ _), (AEv.int _ _), trivial⟩ (List.Perm.refl _) (auth.may_1.ok r22e p18) ?_)
 rintro _ _ ⟨rfl, rfl⟩
 refine aops_nil (aw_seq (aw_region (ap (.fn 83 [.ptr p18 0]) Z Z Z (pu_move Z (tm Z)) (ap (.ptr p17 4) Z Z Z (pu_fieldAddr Z underlying53 Z sizeOf3 (by decide) (tm Z) Z) (ac Z Z Z (op_load1 (i := 1) Z isAgg3 (tm Z) Z Z ?_))))))
 obtain ⟨r23, r23e, h⟩ := bind_some h
 refine ac Z Z Z (op_callV (vs := [.int .i64 t_.Conns, .int .i64 1, .int .i64 64]) (H := [(p18, .cells [.bool r22])]) Z (tm Z) call83 ⟨(tm Z), (AEv.int _ _), (AEv.int _ _), trivial⟩ (List.Perm.refl _) (auth.may_1.ok r23e p18) ?_)
 rintro _ _ ⟨rfl, rfl⟩
 refine aops_nil (aw_seq (aw_region (ap (.fn 83 [.ptr p18 0]) Z Z Z (pu_move Z (tm Z)) (ap (.ptr p17 5) Z Z Z (pu_fieldAddr Z underlying53 Z sizeOf3 (by decide) (tm Z) Z) (ac Z Z Z (op_load1 (i := 1) Z isAgg3 (tm Z) Z Z ?_))))))
 obtain ⟨r24, r24e, h⟩ := bind_some h
 refine ac Z Z Z (op_callV (vs := [.int .i64 t_.In, .int .i64 64, .int .i64 1048576]) (H := [(p18, .cells [.bool r23])]) Z (tm Z) call83 ⟨(tm Z), (AEv.int _ _), (AEv.int _ _), trivial⟩ (List.Perm.refl _) (auth.may_1.ok r24e p18) ?_)
 rintro _ _ ⟨rfl, rfl⟩
 refine aops_nil (aw_seq (aw_region (ap (.fn 83 [.ptr p18 0]) Z Z Z (pu_move Z (tm Z)) (ap (.ptr p17 6) Z Z Z (pu_fieldAddr Z underlying53 Z sizeOf3 (by decide) (tm Z) Z) (ac Z Z Z (op_load1 (i := 1) Z isAgg3 (tm Z) Z Z ?_))))))
 obtain ⟨r25, r25e, h⟩ := bind_some h
 refine ac Z Z Z (op_callV (vs := [.int .i64 t_.Out, .int .i64 64, .int .i64 4194304]) (H := [(p18, .cells [.bool r24])]) Z (tm Z) call83 ⟨(tm Z), (AEv.int _ _), (AEv.int _ _), trivial⟩ (List.Perm.refl _) (auth.may_1.ok r25e p18) ?_)
 rintro _ _ ⟨rfl, rfl⟩
 refine aops_nil (aw_seq (aw_region (ap (.fn 83 [.ptr p18 0]) Z Z Z (pu_move Z (tm Z)) (ap (.ptr p17 7) Z Z Z (pu_fieldAddr Z underlying53 Z sizeOf3 (by decide) (tm Z) Z) (ac Z Z Z (op_load1 (i := 1) Z isAgg3 (tm Z) Z Z ?_))))))
 obtain ⟨r26, r26e, h⟩ := bind_some h
 refine ac Z Z Z (op_callV (vs := [.int .i64 t_.Burst, .int .i64 1, .int .i64 1073741824]) (H := [(p18, .cells [.bool r25])]) Z (tm Z) call83 ⟨(tm Z), (AEv.int _ _), (AEv.int _ _), trivial⟩ (List.Perm.refl _) (auth.may_1.ok r26e p18) ?_)
 rintro _ _ ⟨rfl, rfl⟩
 refine aops_nil (aw_seq (aw_region (ap (.fn 83 [.ptr p18 0]) Z Z Z (pu_move Z (tm Z)) (ap (.ptr p17 8) Z Z Z (pu_fieldAddr Z underlying53 Z sizeOf3 (by decide) (tm Z) Z) (ac Z Z Z (op_load1 (i := 1) Z isAgg3 (tm Z) Z Z ?_))))))
 obtain ⟨r27, r27e, h⟩ := bind_some h
 refine ac Z Z Z (op_callV (vs := [.int .i64 t_.Rate, .int .i64 0, .int .i64 1048576]) (H := [(p18, .cells [.bool r26])]) Z (tm Z) call83 ⟨(tm Z), (AEv.int _ _), (AEv.int _ _), trivial⟩ (List.Perm.refl _) (auth.may_1.ok r27e p18) ?_)
 rintro _ _ ⟨rfl, rfl⟩
 refine aops_nil (aw_seq (aw_region (ap (.fn 83 [.ptr p18 0]) Z Z Z (pu_move Z (tm Z)) (ap (.ptr p17 9) Z Z Z (pu_fieldAddr Z underlying53 Z sizeOf3 (by decide) (tm Z) Z) (ac Z Z Z (op_load1 (i := 1) Z isAgg3 (tm Z) Z Z ?_))))))
 obtain ⟨r28, r28e, h⟩ := bind_some h
 refine ac Z Z Z (op_callV (vs := [.int .i64 t_.Disk, .int .i64 0, .int .i64 67108864]) (H := [(p18, .cells [.bool r27])]) Z (tm Z) call83 ⟨(tm Z), (AEv.int _ _), (AEv.int _ _), trivial⟩ (List.Perm.refl _) (auth.may_1.ok r28e p18) ?_)
 rintro _ _ ⟨rfl, rfl⟩
 refine aops_nil (aw_seq (aw_region (ap (.fn 83 [.ptr p18 0]) Z Z Z (pu_move Z (tm Z)) (ap (.ptr p17 10) Z Z Z (pu_fieldAddr Z underlying53 Z sizeOf3 (by decide) (tm Z) Z) (ac Z Z Z (op_load1 (i := 1) Z isAgg3 (tm Z) Z Z ?_))))))
 obtain ⟨r29, r29e, h⟩ := bind_some h
 refine ac Z Z Z (op_callV (vs := [.int .i64 t_.Sync, .int .i64 1, .int .i64 3]) (H := [(p18, .cells [.bool r28])]) Z (tm Z) call83 ⟨(tm Z), (AEv.int _ _), (AEv.int _ _), trivial⟩ (List.Perm.refl _) (auth.may_1.ok r29e p18) ?_)
 rintro _ _ ⟨rfl, rfl⟩
 refine aops_nil (aw_seq (aw_region (ap (.fn 83 [.ptr p18 0]) Z Z Z (pu_move Z (tm Z)) (ap (.ptr p17 11) Z Z Z (pu_fieldAddr Z underlying53 Z sizeOf23 (by decide) (tm Z) Z) (ap (.ptr p17 11) Z Z Z (pu_fieldAddr Z underlying23 Z sizeOf3 (by decide) (tm Z) Z) (ac Z Z Z (op_load1 (i := 1) Z isAgg3 (tm Z) Z Z ?_)))))))
 obtain ⟨r30, r30e, h⟩ := bind_some h
 refine ac Z Z Z (op_callV (vs := [.int .i64 t_.Limits.Args, .int .i64 1, .int .i64 65536]) (H := [(p18, .cells [.bool r29])]) Z (tm Z) call83 ⟨(tm Z), (AEv.int _ _), (AEv.int _ _), trivial⟩ (List.Perm.refl _) (auth.may_1.ok r30e p18) ?_)
 rintro _ _ ⟨rfl, rfl⟩
 refine aops_nil (aw_seq (aw_region (ap (.fn 83 [.ptr p18 0]) Z Z Z (pu_move Z (tm Z)) (ap (.ptr p17 11) Z Z Z (pu_fieldAddr Z underlying53 Z sizeOf23 (by decide) (tm Z) Z) (ap (.ptr p17 12) Z Z Z (pu_fieldAddr Z underlying23 Z sizeOf3 (by decide) (tm Z) Z) (ac Z Z Z (op_load1 (i := 1) Z isAgg3 (tm Z) Z Z ?_)))))))
 obtain ⟨r31, r31e, h⟩ := bind_some h
 refine ac Z Z Z (op_callV (vs := [.int .i64 t_.Limits.Bulk, .int .i64 1, .int .i64 1048576]) (H := [(p18, .cells [.bool r30])]) Z (tm Z) call83 ⟨(tm Z), (AEv.int _ _), (AEv.int _ _), trivial⟩ (List.Perm.refl _) (auth.may_1.ok r31e p18) ?_)
 rintro _ _ ⟨rfl, rfl⟩
 refine aops_nil (aw_seq (aw_region (ap (.fn 83 [.ptr p18 0]) Z Z Z (pu_move Z (tm Z)) (ap (.ptr p17 11) Z Z Z (pu_fieldAddr Z underlying53 Z sizeOf23 (by decide) (tm Z) Z) (ap (.ptr p17 13) Z Z Z (pu_fieldAddr Z underlying23 Z sizeOf3 (by decide) (tm Z) Z) (ac Z Z Z (op_load1 (i := 1) Z isAgg3 (tm Z) Z Z ?_)))))))
 obtain ⟨r32, r32e, h⟩ := bind_some h
 refine ac Z Z Z (op_callV (vs := [.int .i64 t_.Limits.Line, .int .i64 1, .int .i64 65536]) (H := [(p18, .cells [.bool r31])]) Z (tm Z) call83 ⟨(tm Z), (AEv.int _ _), (AEv.int _ _), trivial⟩ (List.Perm.refl _) (auth.may_1.ok r32e p18) ?_)
 rintro _ _ ⟨rfl, rfl⟩
 refine aops_nil (aw_seq (aw_region (ac Z Z Z (op_load1 (i := 0) Z isAgg4 (tm Z) Z Z (ap (.bool r32) Z Z Z (pu_assign Z (tm Z)) (aops_nil (aw_ret ?_)))))))
 obtain rfl := some_of h
 exact ⟨[.bool r32], _, [], ⟨(tm Z), trivial⟩, (AV.Le.refl _), Weak.mkL [] (by decide) trivial trivial, ⟨Z, Z⟩⟩

theorem auth.Right_1.ok {t_ : api.Tenant} {r : Bool} (h : auth.Right_1 t_ = some r) : Go.Lift.Spec prog 63 [.agg (api.Tenant.ct t_)] [] (fun v H => v = .bool r ∧ H = []) := by
 unfold auth.Right_1 at h
 refine Go.Lift.Spec.of_body (rs := [.tmp 2]) func63 Z Z (Nat.le_of_ble_eq_true Z) Z (aw_seq (aw_region (ac Z Z Z (op_box (cs := (api.Tenant.ct t_)) (v := .agg (api.Tenant.ct t_)) Z (tm Z) Z Z ?_))))
 intro p3
 refine ap (.bool false) Z Z Z (pu_assign Z (AEv.bool _)) (aops_nil (aw_seq (aw_region (ac Z Z Z (op_loadN (i := 0) Z isAgg53 sizeOf53 (tm Z) Z (Nat.le_of_ble_eq_true Z) Z ?_)))))
 obtain ⟨r4, r4e, h⟩ := bind_some h
 refine ac Z Z Z (op_call (vs := [.agg (api.Tenant.ct t_)]) (H := []) Z call64 ⟨(tm Z), trivial⟩ (List.Perm.refl _) (auth.may.ok r4e) ?_)
 rintro _ _ ⟨rfl, rfl⟩
 refine ap (.bool (!r4)) Z Z Z (pu_not Z (tm Z)) (ap (.bool (!r4)) Z Z Z (pu_assign Z (tm Z)) (aops_nil (aw_ret ?_)))
 obtain rfl := some_of h
 exact ⟨[.bool (!r4)], _, [], ⟨(tm Z), trivial⟩, (AV.Le.refl _), Weak.mkL [] (by decide) trivial trivial, ⟨Z, Z⟩⟩

theorem slices.IndexFunc_api_Tenant_auth_Right_1.ok {s_ : List api.Tenant} {r : Int} (h : slices.IndexFunc_api_Tenant_auth_Right_1 s_ = some r) : Go.Lift.Spec prog 68 [.sl .no 14 (s_.map api.Tenant.av), .fn 63 []] [] (fun v H => v = .int .i64 r ∧ H = []) := by
 unfold slices.IndexFunc_api_Tenant_auth_Right_1 at h
 refine Go.Lift.Spec.of_body (rs := [.tmp 4]) func68 Z Z (Nat.le_of_ble_eq_true Z) Z (aw_seq (aw_region (ap (.int .i64 0) Z Z Z (pu_assign Z (AEv.int _ _)) (aops_nil ?_))))
 obtain ⟨s80, s80e, h60⟩ := bind_some h
 refine aw_join (σ := Unit) (ν := Unit) (fun u v => []) (fun u v => []) (fun u => s80 = .inl u) ?_ ?_
 ·intro s59
  intro _
  rintro rfl
  have h := onSum_inl h60
  refine aw_seq (aw_region (ap (.int .i64 (-1)) Z Z Z (pu_assign Z (AEv.int _ _)) (aops_nil (aw_ret ?_))))
  obtain rfl := some_of h
  exact ⟨[.int .i64 (-1)], _, [], ⟨(tm Z), trivial⟩, (AV.Le.refl _), Weak.mkL [] (by decide) trivial trivial, ⟨Z, Z⟩⟩
 ·have h := s80e
  refine aw_seq (aw_region (ap (.sl .no 14 (s_.map api.Tenant.av)) Z Z Z (pu_move Z (tm Z)) (ap (.int .i64 (s_.length : Int)) Z Z Z (pu_lenM Z underlying76 (tm Z)) (ap (.int .i64 0) Z Z Z (pu_move Z (AEv.int _ _)) (aops_nil (aw_block (aw_while (σ := slices.IndexFunc_api_Tenant_auth_Right_1.S0) (ν := Unit) (slices.IndexFunc_api_Tenant_auth_Right_1.body0 s_) (fun s72 v => [(0, .sl .no 14 (s_.map api.Tenant.av)), (1, .fn 63 []), (7, .int .i64 (s_.length : Int)), (8, .int .i64 s72.t8)]) (fun s72 v => []) ⟨0⟩ () _ h (Weak.mkL [] (by decide) trivial ⟨AEv.tmp Z, AEv.tmp Z, AEv.tmp Z, AEv.tmp Z, trivial⟩) ?_)))))))
  rintro s72 _ x74 h hx73
  unfold slices.IndexFunc_api_Tenant_auth_Right_1.body0 at h
  refine aw_seq (aw_region (ap (.bool (decide (s72.t8 < (s_.length : Int)))) Z Z Z (pu_int (v := .bool (decide (s72.t8 < (s_.length : Int)))) Z Z (tm Z) (tm Z) Z) (aops_nil (aw_seq (aw_cond (b := decide (s72.t8 < (s_.length : Int))) (tm Z) (fun hb79 => ?_) (fun hb79 => ?_))))))
  ·replace h := ite_t (dec_t hb79) h
   refine aw_skip (aw_seq (aw_block (aw_seq (aw_region (ap (.int .i64 s72.t8) Z Z Z (pu_move Z (tm Z)) (ap (.int .i64 s72.t8) Z Z Z (pu_assign Z (tm Z)) (aops_nil (aw_seq (aw_region ?_)))))))))
   refine ap (.fn 63 []) Z Z Z (pu_move Z (tm Z)) (ap (.sl .no 14 (s_.map api.Tenant.av)) Z Z Z (pu_move Z (tm Z)) (ap (.int .i64 s72.t8) Z Z Z (pu_move Z (tm Z)) ?_))
   obtain ⟨c76, h⟩ := need_of h
   refine ap (.vptr [.str (ix s_ s72.t8).Name, .str (ix s_ s72.t8).Token, .int .i64 (ix s_ s72.t8).Memory, .int .i64 (ix s_ s72.t8).Policy, .int .i64 (ix s_ s72.t8).Conns, .int .i64 (ix s_ s72.t8).In, .int .i64 (ix s_ s72.t8).Out, .int .i64 (ix s_ s72.t8).Burst, .int .i64 (ix s_ s72.t8).Rate, .int .i64 (ix s_ s72.t8).Disk, .int .i64 (ix s_ s72.t8).Sync, .int .i64 (ix s_ s72.t8).Limits.Args, .int .i64 (ix s_ s72.t8).Limits.Bulk, .int .i64 (ix s_ s72.t8).Limits.Line]) Z Z Z (pu_indexAddrM Z underlying76 sizeOf53 (tm Z) (tm Z) c76 Z) (ac Z Z Z (op_loadVN Z isAgg53 sizeOf53 (tm Z) (Nat.le_of_ble_eq_true Z) Z ?_))
   obtain ⟨r77, r77e, h⟩ := bind_some h
   refine ac Z Z Z (op_callV (vs := [.agg (api.Tenant.ct (ix s_ s72.t8))]) (H := []) Z (tm Z) call63 ⟨(tm Z), trivial⟩ (List.Perm.refl _) (auth.Right_1.ok r77e) ?_)
   rintro _ _ ⟨rfl, rfl⟩
   refine aops_nil (aw_cond (b := r77) (tm Z) (fun hb78 => ?_) (fun hb78 => ?_))
   ·replace h := ite_t hb78 h
    refine aw_seq (aw_region (ap (.int .i64 s72.t8) Z Z Z (pu_move Z (tm Z)) (ap (.int .i64 s72.t8) Z Z Z (pu_assign Z (tm Z)) (aops_nil (aw_ret ?_)))))
    obtain rfl := some_of h
    have h := congrArg some (hx73 _ rfl)
    obtain rfl := some_of h
    have h := onSum_inr h60
    obtain rfl := some_of h
    exact ⟨[.int .i64 s72.t8], _, [], ⟨(tm Z), trivial⟩, (AV.Le.refl _), Weak.mkL [] (by decide) trivial trivial, ⟨Z, Z⟩⟩
   ·replace h := ite_fb hb78 h
    refine aw_skip (aw_region (ap (.int .i64 (IntKind.wrap .i64 (s72.t8 + 1))) Z Z Z (pu_int (v := .int .i64 (IntKind.wrap .i64 (s72.t8 + 1))) Z Z (tm Z) (AEv.int _ _) Z) (ap (.int .i64 (IntKind.wrap .i64 (s72.t8 + 1))) Z Z Z (pu_move Z (tm Z)) (aops_nil ?_))))
    obtain rfl := some_of h
    exact ⟨_, (), Z, Weak.mkL [] (by decide) trivial ⟨AEv.tmp Z, AEv.tmp Z, AEv.tmp Z, (AEv.le (tm Z) (AV.Le.refl _)), trivial⟩⟩
  ·replace h := ite_f (dec_f hb79) h
   refine aw_exit ?_
   obtain rfl := some_of h
   have h := congrArg some (hx73 _ rfl)
   exact ⟨(), (), (some_of h).symm, Weak.mkL [] (by decide) trivial trivial⟩

end Go.Pu
