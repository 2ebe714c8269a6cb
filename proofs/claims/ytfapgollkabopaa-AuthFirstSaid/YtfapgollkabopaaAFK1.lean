/- Printed by lift.py: the functions come to them. -/
import Derived.Test.YtfapgollkabopaaLiftU
import Derived.Test.YtfapgollkabopaaAFK0
set_option maxRecDepth 100000
set_option maxHeartbeats 0
namespace Go.Pu
open Go.Lift Go.Proofs.Try Go.RowKit Go.Proofs

theorem parse.parser.line.ok {p_ : parse.parser} {r : Bool × parse.parser} (h : parse.parser.line p_ = some r) (o0 q0 q1 : Nat) : Go.Lift.Spec prog 75 [.ptr o0 0] [(o0, .cells (parse.parser.ct (.own q0) (.own q1) p_)), (q0, .spare), (q1, .spare)] (fun v H => ∃ n0 n1, v = .bool r.1 ∧ H = [(o0, .cells [.str r.2.in_.Rest, .sl (.own n0) 1 (r.2.in_.Args.map AV.str), .int .i64 r.2.in_.Left, .int .i64 r.2.in_.Size, .bool r.2.in_.Body, .int .i64 r.2.in_.Need, .int .i64 r.2.in_.Dead, .str r.2.s, .int .i64 r.2.l.Args, .int .i64 r.2.l.Bulk, .int .i64 r.2.l.Line, .sl (.own n1) 2 (r.2.out.map api.Request.av)]), (n0, .spare), (n1, .spare)]) := by
 unfold parse.parser.line at h
 refine Go.Lift.Spec.of_body (rs := [.tmp 2]) func75 Z Z (Nat.le_of_ble_eq_true Z) Z (aw_seq (aw_region (ac Z Z Z (op_box (cs := [.ptr o0 0]) (v := .ptr o0 0) Z (tm Z) Z Z ?_))))
 intro p35
 refine ap (.bool false) Z Z Z (pu_assign Z (AEv.bool _)) (aops_nil (aw_seq (aw_region (ac Z Z Z (op_load1 (i := 0) Z isAgg91 (tm Z) Z Z (ap (.ptr o0 0) Z Z Z (pu_nilCheck Z (tm Z) Z) (ap (.ptr o0 7) Z Z Z (pu_fieldAddr Z underlying93 Z sizeOf9 (by decide) (tm Z) Z) (ac Z Z Z (op_load1 (i := 1) Z isAgg9 (tm Z) Z Z ?_)))))))))
 obtain ⟨r36, r36e, h⟩ := bind_some h
 refine ac Z Z Z (op_call (vs := [.str p_.s, .int .u8 10]) (H := []) Z call87 ⟨(tm Z), (AEv.int _ _), trivial⟩ (List.Perm.refl _) (strings.IndexByte.ok r36e) ?_)
 rintro _ _ ⟨rfl, rfl⟩
 refine ap (.int .i64 r36) Z Z Z (pu_assign Z (tm Z)) (aops_nil (aw_seq ?_))
 obtain ⟨s39, s39e, h40⟩ := letO_of h
 refine aw_meet (ν := Unit) (fun v => [(1, .ptr p35 0), (3, .int .i64 r36), (35, .bool s39)]) (fun v => [(p35, .cells [.ptr o0 0]), (o0, .cells (parse.parser.ct (.own q0) (.own q1) p_)), (q0, .spare), (q1, .spare)]) ?_ ?_
 ·have h := s39e.symm
  rcases Bool.eq_false_or_eq_true (decide (r36 < 0)) with hb42 | hb42
  ·replace h := ite_t (dec_t hb42) h
   rcases Bool.eq_false_or_eq_true (decide (p_.l.Line < (p_.s.length : Int))) with hb43 | hb43
   ·replace h := ite_t (dec_t hb43) h
    refine aw_plan (by decide +kernel) [([], some 12, [3]), ([0], some 13, [12]), ([1], some 14, [13]), ([2], some 15, [1, 14]), ([3, 2], some 16, [15, 14]), ([4, 2], some 17, [16, 14]), ([5, 2], some 18, [17, 14]), ([6, 2], some 19, [18, 14]), ([2], some 20, [1, 14]), ([8, 2], some 21, [20, 14]), ([9, 2], some 22, [21, 14]), ([10, 2], some 23, [22, 14]), ([11, 2], some 24, [23, 14]), ([7, 12, 2], some 25, [19, 24, 14]), ([2, 13], some 26, [14, 25]), ([14, 2], some 27, [26]), ([15], some 28, [3, 27]), ([15], some 29, [1, 27]), ([17, 15], some 30, [29, 27]), ([18, 15], some 31, [30, 27]), ([19, 15], some 32, [31, 27]), ([20, 15], some 33, [32, 27]), ([16, 21, 15], some 34, [28, 33, 27]), ([15, 22], some 35, [27, 34])] Z [[], [0], [0, 1], [0, 1, 2], [0, 1, 2, 3], [0, 1, 2, 3, 4], [0, 1, 2, 3, 4, 5], [0, 1, 2, 3, 4, 5, 6], [0, 1, 2], [0, 1, 2, 8], [0, 1, 2, 8, 9], [0, 1, 2, 8, 9, 10], [0, 1, 2, 8, 9, 10, 11], [0, 1, 2, 3, 4, 5, 6, 7, 8, 9, 10, 11, 12], [0, 1, 2, 3, 4, 5, 6, 7, 8, 9, 10, 11, 12, 13], [0, 1, 2, 3, 4, 5, 6, 7, 8, 9, 10, 11, 12, 13, 14], [0, 1, 2, 3, 4, 5, 6, 7, 8, 9, 10, 11, 12, 13, 14, 15], [0, 1, 2, 3, 4, 5, 6, 7, 8, 9, 10, 11, 12, 13, 14, 15], [0, 1, 2, 3, 4, 5, 6, 7, 8, 9, 10, 11, 12, 13, 14, 15, 17], [0, 1, 2, 3, 4, 5, 6, 7, 8, 9, 10, 11, 12, 13, 14, 15, 17, 18], [0, 1, 2, 3, 4, 5, 6, 7, 8, 9, 10, 11, 12, 13, 14, 15, 17, 18, 19], [0, 1, 2, 3, 4, 5, 6, 7, 8, 9, 10, 11, 12, 13, 14, 15, 17, 18, 19, 20], [0, 1, 2, 3, 4, 5, 6, 7, 8, 9, 10, 11, 12, 13, 14, 15, 16, 17, 18, 19, 20, 21], [0, 1, 2, 3, 4, 5, 6, 7, 8, 9, 10, 11, 12, 13, 14, 15, 16, 17, 18, 19, 20, 21, 22]] [[], [], [], [(0, 0, false)], [], [], [(1, 0, false)], [], [(0, 0, false)], [], [], [], [(1, 0, false)], [], [], [], [], [], [], [], [], [], [], []] [[], [], [], []] [[[(p35, .cells [.ptr o0 0])]], [[(o0, .cells (parse.parser.ct (.own q0) (.own q1) p_))]], [[(q0, .spare)]], [[(q1, .spare)]]] [.int .i64 r36, .bool (decide (r36 < 0)), .bool true, .ptr o0 0, .ptr o0 0, .ptr o0 7, .str p_.s, .int .i64 (p_.s.length : Int), .ptr o0 0, .ptr o0 0, .ptr o0 8, .ptr o0 10, .int .i64 p_.l.Line, .bool (decide (p_.l.Line < (p_.s.length : Int))), .bool (decide (p_.l.Line < (p_.s.length : Int))), .bool true, .lit undef, .lit undef, .lit undef, .lit undef, .lit undef, .lit undef, .lit undef, .bool true] (by decide +kernel) Z Z ?_ ?_
    ·refine ⟨⟨[3], Z, stepg_pure Z (pu_move Z (tm Z))⟩, ?_⟩
     refine ⟨⟨[12], Z, stepg_pure Z (pu_int (v := .bool (decide (r36 < 0))) Z Z (tm Z) (AEv.int _ _) Z)⟩, ?_⟩
     refine ⟨⟨[13], Z, (stepg_pure Z (pu_move Z (tm Z))).cast (congrArg AV.bool hb42)⟩, ?_⟩
     refine ⟨⟨[1, 14], Z, stepg_guard Z Z Z (by decide) Z (op_load1 (i := 0) Z isAgg91 (tm Z) Z Z ⟨Z, Z⟩)⟩, ?_⟩
     refine ⟨⟨[14, 15], Z, stepg_guardP Z Z Z (by decide) Z (pu_nilCheck Z (tm Z) Z)⟩, ?_⟩
     refine ⟨⟨[14, 16], Z, stepg_guardP Z Z Z (by decide) Z (pu_fieldAddr Z underlying93 Z sizeOf9 (by decide) (tm Z) Z)⟩, ?_⟩
     refine ⟨⟨[14, 17], Z, stepg_guard Z Z Z (by decide) Z (op_load1 (i := 0) Z isAgg9 (tm Z) Z Z ⟨Z, Z⟩)⟩, ?_⟩
     refine ⟨⟨[14, 18], Z, stepg_guardP Z Z Z (by decide) Z (pu_strLen Z underlying9 (tm Z))⟩, ?_⟩
     refine ⟨⟨[1, 14], Z, stepg_guard Z Z Z (by decide) Z (op_load1 (i := 0) Z isAgg91 (tm Z) Z Z ⟨Z, Z⟩)⟩, ?_⟩
     refine ⟨⟨[14, 20], Z, stepg_guardP Z Z Z (by decide) Z (pu_nilCheck Z (tm Z) Z)⟩, ?_⟩
     refine ⟨⟨[14, 21], Z, stepg_guardP Z Z Z (by decide) Z (pu_fieldAddr Z underlying93 Z sizeOf23 (by decide) (tm Z) Z)⟩, ?_⟩
     refine ⟨⟨[14, 22], Z, stepg_guardP Z Z Z (by decide) Z (pu_fieldAddr Z underlying23 Z sizeOf3 (by decide) (tm Z) Z)⟩, ?_⟩
     refine ⟨⟨[14, 23], Z, stepg_guard Z Z Z (by decide) Z (op_load1 (i := 0) Z isAgg3 (tm Z) Z Z ⟨Z, Z⟩)⟩, ?_⟩
     refine ⟨⟨[14, 19, 24], Z, stepg_guardP Z Z Z (by decide) Z (pu_int (v := .bool (decide (p_.l.Line < (p_.s.length : Int)))) Z Z (tm Z) (tm Z) Z)⟩, ?_⟩
     refine ⟨⟨[14, 25], Z, stepg_pure Z (pu_pick (b := true) Z (tm Z) (fun _ => (tm Z)) (fun h => nomatch h))⟩, ?_⟩
     refine ⟨⟨[26], Z, (stepg_pure Z (pu_move Z (tm Z))).cast (congrArg AV.bool hb43)⟩, ?_⟩
     refine ⟨⟨[3, 27], Z, stepg_pass Z Z Z (by decide) Z (by decide)⟩, ?_⟩
     refine ⟨⟨[1, 27], Z, stepg_pass Z Z Z (by decide) Z (by decide)⟩, ?_⟩
     refine ⟨⟨[27, 29], Z, stepg_pass Z Z Z (by decide) Z (by decide)⟩, ?_⟩
     refine ⟨⟨[27, 30], Z, stepg_pass Z Z Z (by decide) Z (by decide)⟩, ?_⟩
     refine ⟨⟨[27, 31], Z, stepg_pass Z Z Z (by decide) Z (by decide)⟩, ?_⟩
     refine ⟨⟨[27, 32], Z, stepg_pass Z Z Z (by decide) Z (by decide)⟩, ?_⟩
     refine ⟨⟨[27, 28, 33], Z, stepg_pass Z Z Z (by decide) Z (by decide)⟩, ?_⟩
     refine ⟨⟨[27, 34], Z, stepg_pure Z (pu_pick (b := true) Z (tm Z) (fun _ => (AEv.bool _)) (fun h => nomatch h))⟩, ?_⟩
     trivial
    subst h
    exact ⟨(), Weak.mkL [0, 1, 2, 3] (by decide) ⟨⟨_, Z, ⟨(AV.Le.refl _), trivial⟩, Z⟩, ⟨_, Z, (CellsLe.refl _), Z⟩, ⟨_, Z, Z⟩, ⟨_, Z, Z⟩, trivial⟩ ⟨AEv.tmp Z, AEv.tmp Z, AEv.tmp Z, trivial⟩⟩
   ·replace h := ite_f (dec_f hb43) h
    refine aw_plan (by decide +kernel) [([], some 12, [3]), ([0], some 13, [12]), ([1], some 14, [13]), ([2], some 15, [1, 14]), ([3, 2], some 16, [15, 14]), ([4, 2], some 17, [16, 14]), ([5, 2], some 18, [17, 14]), ([6, 2], some 19, [18, 14]), ([2], some 20, [1, 14]), ([8, 2], some 21, [20, 14]), ([9, 2], some 22, [21, 14]), ([10, 2], some 23, [22, 14]), ([11, 2], some 24, [23, 14]), ([7, 12, 2], some 25, [19, 24, 14]), ([2, 13], some 26, [14, 25]), ([14, 2], some 27, [26]), ([15], some 28, [3, 27]), ([15], some 29, [1, 27]), ([17, 15], some 30, [29, 27]), ([18, 15], some 31, [30, 27]), ([19, 15], some 32, [31, 27]), ([20, 15], some 33, [32, 27]), ([16, 21, 15], some 34, [28, 33, 27]), ([15, 22], some 35, [27, 34])] Z [[], [0], [0, 1], [0, 1, 2], [0, 1, 2, 3], [0, 1, 2, 3, 4], [0, 1, 2, 3, 4, 5], [0, 1, 2, 3, 4, 5, 6], [0, 1, 2], [0, 1, 2, 8], [0, 1, 2, 8, 9], [0, 1, 2, 8, 9, 10], [0, 1, 2, 8, 9, 10, 11], [0, 1, 2, 3, 4, 5, 6, 7, 8, 9, 10, 11, 12], [0, 1, 2, 3, 4, 5, 6, 7, 8, 9, 10, 11, 12, 13], [0, 1, 2, 3, 4, 5, 6, 7, 8, 9, 10, 11, 12, 13, 14], [0, 1, 2, 3, 4, 5, 6, 7, 8, 9, 10, 11, 12, 13, 14, 15], [0, 1, 2, 3, 4, 5, 6, 7, 8, 9, 10, 11, 12, 13, 14, 15], [0, 1, 2, 3, 4, 5, 6, 7, 8, 9, 10, 11, 12, 13, 14, 15, 17], [0, 1, 2, 3, 4, 5, 6, 7, 8, 9, 10, 11, 12, 13, 14, 15, 17, 18], [0, 1, 2, 3, 4, 5, 6, 7, 8, 9, 10, 11, 12, 13, 14, 15, 17, 18, 19], [0, 1, 2, 3, 4, 5, 6, 7, 8, 9, 10, 11, 12, 13, 14, 15, 17, 18, 19, 20], [0, 1, 2, 3, 4, 5, 6, 7, 8, 9, 10, 11, 12, 13, 14, 15, 16, 17, 18, 19, 20, 21], [0, 1, 2, 3, 4, 5, 6, 7, 8, 9, 10, 11, 12, 13, 14, 15, 16, 17, 18, 19, 20, 21, 22]] [[], [], [], [(0, 0, false)], [], [], [(1, 0, false)], [], [(0, 0, false)], [], [], [], [(1, 0, false)], [], [], [], [], [(0, 0, false)], [], [], [], [(1, 0, false)], [], []] [[], [], [], []] [[[(p35, .cells [.ptr o0 0])]], [[(o0, .cells (parse.parser.ct (.own q0) (.own q1) p_))]], [[(q0, .spare)]], [[(q1, .spare)]]] [.int .i64 r36, .bool (decide (r36 < 0)), .bool true, .ptr o0 0, .ptr o0 0, .ptr o0 7, .str p_.s, .int .i64 (p_.s.length : Int), .ptr o0 0, .ptr o0 0, .ptr o0 8, .ptr o0 10, .int .i64 p_.l.Line, .bool (decide (p_.l.Line < (p_.s.length : Int))), .bool (decide (p_.l.Line < (p_.s.length : Int))), .bool false, .int .i64 r36, .ptr o0 0, .ptr o0 0, .ptr o0 8, .ptr o0 10, .int .i64 p_.l.Line, .bool (decide (p_.l.Line < r36)), .bool (decide (p_.l.Line < r36))] (by decide +kernel) Z Z ?_ ?_
    ·refine ⟨⟨[3], Z, stepg_pure Z (pu_move Z (tm Z))⟩, ?_⟩
     refine ⟨⟨[12], Z, stepg_pure Z (pu_int (v := .bool (decide (r36 < 0))) Z Z (tm Z) (AEv.int _ _) Z)⟩, ?_⟩
     refine ⟨⟨[13], Z, (stepg_pure Z (pu_move Z (tm Z))).cast (congrArg AV.bool hb42)⟩, ?_⟩
     refine ⟨⟨[1, 14], Z, stepg_guard Z Z Z (by decide) Z (op_load1 (i := 0) Z isAgg91 (tm Z) Z Z ⟨Z, Z⟩)⟩, ?_⟩
     refine ⟨⟨[14, 15], Z, stepg_guardP Z Z Z (by decide) Z (pu_nilCheck Z (tm Z) Z)⟩, ?_⟩
     refine ⟨⟨[14, 16], Z, stepg_guardP Z Z Z (by decide) Z (pu_fieldAddr Z underlying93 Z sizeOf9 (by decide) (tm Z) Z)⟩, ?_⟩
     refine ⟨⟨[14, 17], Z, stepg_guard Z Z Z (by decide) Z (op_load1 (i := 0) Z isAgg9 (tm Z) Z Z ⟨Z, Z⟩)⟩, ?_⟩
     refine ⟨⟨[14, 18], Z, stepg_guardP Z Z Z (by decide) Z (pu_strLen Z underlying9 (tm Z))⟩, ?_⟩
     refine ⟨⟨[1, 14], Z, stepg_guard Z Z Z (by decide) Z (op_load1 (i := 0) Z isAgg91 (tm Z) Z Z ⟨Z, Z⟩)⟩, ?_⟩
     refine ⟨⟨[14, 20], Z, stepg_guardP Z Z Z (by decide) Z (pu_nilCheck Z (tm Z) Z)⟩, ?_⟩
     refine ⟨⟨[14, 21], Z, stepg_guardP Z Z Z (by decide) Z (pu_fieldAddr Z underlying93 Z sizeOf23 (by decide) (tm Z) Z)⟩, ?_⟩
     refine ⟨⟨[14, 22], Z, stepg_guardP Z Z Z (by decide) Z (pu_fieldAddr Z underlying23 Z sizeOf3 (by decide) (tm Z) Z)⟩, ?_⟩
     refine ⟨⟨[14, 23], Z, stepg_guard Z Z Z (by decide) Z (op_load1 (i := 0) Z isAgg3 (tm Z) Z Z ⟨Z, Z⟩)⟩, ?_⟩
     refine ⟨⟨[14, 19, 24], Z, stepg_guardP Z Z Z (by decide) Z (pu_int (v := .bool (decide (p_.l.Line < (p_.s.length : Int)))) Z Z (tm Z) (tm Z) Z)⟩, ?_⟩
     refine ⟨⟨[14, 25], Z, stepg_pure Z (pu_pick (b := true) Z (tm Z) (fun _ => (tm Z)) (fun h => nomatch h))⟩, ?_⟩
     refine ⟨⟨[26], Z, (stepg_pure Z (pu_move Z (tm Z))).cast (congrArg AV.bool hb43)⟩, ?_⟩
     refine ⟨⟨[3, 27], Z, stepg_guardP Z Z Z (by decide) Z (pu_move Z (tm Z))⟩, ?_⟩
     refine ⟨⟨[1, 27], Z, stepg_guard Z Z Z (by decide) Z (op_load1 (i := 0) Z isAgg91 (tm Z) Z Z ⟨Z, Z⟩)⟩, ?_⟩
     refine ⟨⟨[27, 29], Z, stepg_guardP Z Z Z (by decide) Z (pu_nilCheck Z (tm Z) Z)⟩, ?_⟩
     refine ⟨⟨[27, 30], Z, stepg_guardP Z Z Z (by decide) Z (pu_fieldAddr Z underlying93 Z sizeOf23 (by decide) (tm Z) Z)⟩, ?_⟩
     refine ⟨⟨[27, 31], Z, stepg_guardP Z Z Z (by decide) Z (pu_fieldAddr Z underlying23 Z sizeOf3 (by decide) (tm Z) Z)⟩, ?_⟩
     refine ⟨⟨[27, 32], Z, stepg_guard Z Z Z (by decide) Z (op_load1 (i := 0) Z isAgg3 (tm Z) Z Z ⟨Z, Z⟩)⟩, ?_⟩
     refine ⟨⟨[27, 28, 33], Z, stepg_guardP Z Z Z (by decide) Z (pu_int (v := .bool (decide (p_.l.Line < r36))) Z Z (tm Z) (tm Z) Z)⟩, ?_⟩
     refine ⟨⟨[27, 34], Z, stepg_pure Z (pu_pick (b := false) Z (tm Z) (fun h => nomatch h) (fun _ => (tm Z)))⟩, ?_⟩
     trivial
    subst h
    exact ⟨(), Weak.mkL [0, 1, 2, 3] (by decide) ⟨⟨_, Z, ⟨(AV.Le.refl _), trivial⟩, Z⟩, ⟨_, Z, (CellsLe.refl _), Z⟩, ⟨_, Z, Z⟩, ⟨_, Z, Z⟩, trivial⟩ ⟨AEv.tmp Z, AEv.tmp Z, (AEv.le (tm Z) (AV.Le.refl _)), trivial⟩⟩
  ·replace h := ite_f (dec_f hb42) h
   refine aw_plan (by decide +kernel) [([], some 12, [3]), ([0], some 13, [12]), ([1], some 14, [13]), ([2], some 15, [1, 14]), ([3, 2], some 16, [15, 14]), ([4, 2], some 17, [16, 14]), ([5, 2], some 18, [17, 14]), ([6, 2], some 19, [18, 14]), ([2], some 20, [1, 14]), ([8, 2], some 21, [20, 14]), ([9, 2], some 22, [21, 14]), ([10, 2], some 23, [22, 14]), ([11, 2], some 24, [23, 14]), ([7, 12, 2], some 25, [19, 24, 14]), ([2, 13], some 26, [14, 25]), ([14, 2], some 27, [26]), ([15], some 28, [3, 27]), ([15], some 29, [1, 27]), ([17, 15], some 30, [29, 27]), ([18, 15], some 31, [30, 27]), ([19, 15], some 32, [31, 27]), ([20, 15], some 33, [32, 27]), ([16, 21, 15], some 34, [28, 33, 27]), ([15, 22], some 35, [27, 34])] Z [[], [0], [0, 1], [0, 1, 2], [0, 1, 2, 3], [0, 1, 2, 3, 4], [0, 1, 2, 3, 4, 5], [0, 1, 2, 3, 4, 5, 6], [0, 1, 2], [0, 1, 2, 8], [0, 1, 2, 8, 9], [0, 1, 2, 8, 9, 10], [0, 1, 2, 8, 9, 10, 11], [0, 1, 2, 3, 4, 5, 6, 7, 8, 9, 10, 11, 12], [0, 1, 2, 3, 4, 5, 6, 7, 8, 9, 10, 11, 12, 13], [0, 1, 2, 3, 4, 5, 6, 7, 8, 9, 10, 11, 12, 13, 14], [0, 1, 2, 3, 4, 5, 6, 7, 8, 9, 10, 11, 12, 13, 14, 15], [0, 1, 2, 3, 4, 5, 6, 7, 8, 9, 10, 11, 12, 13, 14, 15], [0, 1, 2, 3, 4, 5, 6, 7, 8, 9, 10, 11, 12, 13, 14, 15, 17], [0, 1, 2, 3, 4, 5, 6, 7, 8, 9, 10, 11, 12, 13, 14, 15, 17, 18], [0, 1, 2, 3, 4, 5, 6, 7, 8, 9, 10, 11, 12, 13, 14, 15, 17, 18, 19], [0, 1, 2, 3, 4, 5, 6, 7, 8, 9, 10, 11, 12, 13, 14, 15, 17, 18, 19, 20], [0, 1, 2, 3, 4, 5, 6, 7, 8, 9, 10, 11, 12, 13, 14, 15, 16, 17, 18, 19, 20, 21], [0, 1, 2, 3, 4, 5, 6, 7, 8, 9, 10, 11, 12, 13, 14, 15, 16, 17, 18, 19, 20, 21, 22]] [[], [], [], [], [], [], [], [], [], [], [], [], [], [], [], [], [], [(0, 0, false)], [], [], [], [(1, 0, false)], [], []] [[], [], [], []] [[[(p35, .cells [.ptr o0 0])]], [[(o0, .cells (parse.parser.ct (.own q0) (.own q1) p_))]], [[(q0, .spare)]], [[(q1, .spare)]]] [.int .i64 r36, .bool (decide (r36 < 0)), .bool false, .lit undef, .lit undef, .lit undef, .lit undef, .lit undef, .lit undef, .lit undef, .lit undef, .lit undef, .lit undef, .lit undef, .bool false, .bool false, .int .i64 r36, .ptr o0 0, .ptr o0 0, .ptr o0 8, .ptr o0 10, .int .i64 p_.l.Line, .bool (decide (p_.l.Line < r36)), .bool (decide (p_.l.Line < r36))] (by decide +kernel) Z Z ?_ ?_
   ·refine ⟨⟨[3], Z, stepg_pure Z (pu_move Z (tm Z))⟩, ?_⟩
    refine ⟨⟨[12], Z, stepg_pure Z (pu_int (v := .bool (decide (r36 < 0))) Z Z (tm Z) (AEv.int _ _) Z)⟩, ?_⟩
    refine ⟨⟨[13], Z, (stepg_pure Z (pu_move Z (tm Z))).cast (congrArg AV.bool hb42)⟩, ?_⟩
    refine ⟨⟨[1, 14], Z, stepg_pass Z Z Z (by decide) Z (by decide)⟩, ?_⟩
    refine ⟨⟨[14, 15], Z, stepg_pass Z Z Z (by decide) Z (by decide)⟩, ?_⟩
    refine ⟨⟨[14, 16], Z, stepg_pass Z Z Z (by decide) Z (by decide)⟩, ?_⟩
    refine ⟨⟨[14, 17], Z, stepg_pass Z Z Z (by decide) Z (by decide)⟩, ?_⟩
    refine ⟨⟨[14, 18], Z, stepg_pass Z Z Z (by decide) Z (by decide)⟩, ?_⟩
    refine ⟨⟨[1, 14], Z, stepg_pass Z Z Z (by decide) Z (by decide)⟩, ?_⟩
    refine ⟨⟨[14, 20], Z, stepg_pass Z Z Z (by decide) Z (by decide)⟩, ?_⟩
    refine ⟨⟨[14, 21], Z, stepg_pass Z Z Z (by decide) Z (by decide)⟩, ?_⟩
    refine ⟨⟨[14, 22], Z, stepg_pass Z Z Z (by decide) Z (by decide)⟩, ?_⟩
    refine ⟨⟨[14, 23], Z, stepg_pass Z Z Z (by decide) Z (by decide)⟩, ?_⟩
    refine ⟨⟨[14, 19, 24], Z, stepg_pass Z Z Z (by decide) Z (by decide)⟩, ?_⟩
    refine ⟨⟨[14, 25], Z, stepg_pure Z (pu_pick (b := false) Z (tm Z) (fun h => nomatch h) (fun _ => (AEv.bool _)))⟩, ?_⟩
    refine ⟨⟨[26], Z, stepg_pure Z (pu_move Z (tm Z))⟩, ?_⟩
    refine ⟨⟨[3, 27], Z, stepg_guardP Z Z Z (by decide) Z (pu_move Z (tm Z))⟩, ?_⟩
    refine ⟨⟨[1, 27], Z, stepg_guard Z Z Z (by decide) Z (op_load1 (i := 0) Z isAgg91 (tm Z) Z Z ⟨Z, Z⟩)⟩, ?_⟩
    refine ⟨⟨[27, 29], Z, stepg_guardP Z Z Z (by decide) Z (pu_nilCheck Z (tm Z) Z)⟩, ?_⟩
    refine ⟨⟨[27, 30], Z, stepg_guardP Z Z Z (by decide) Z (pu_fieldAddr Z underlying93 Z sizeOf23 (by decide) (tm Z) Z)⟩, ?_⟩
    refine ⟨⟨[27, 31], Z, stepg_guardP Z Z Z (by decide) Z (pu_fieldAddr Z underlying23 Z sizeOf3 (by decide) (tm Z) Z)⟩, ?_⟩
    refine ⟨⟨[27, 32], Z, stepg_guard Z Z Z (by decide) Z (op_load1 (i := 0) Z isAgg3 (tm Z) Z Z ⟨Z, Z⟩)⟩, ?_⟩
    refine ⟨⟨[27, 28, 33], Z, stepg_guardP Z Z Z (by decide) Z (pu_int (v := .bool (decide (p_.l.Line < r36))) Z Z (tm Z) (tm Z) Z)⟩, ?_⟩
    refine ⟨⟨[27, 34], Z, stepg_pure Z (pu_pick (b := false) Z (tm Z) (fun h => nomatch h) (fun _ => (tm Z)))⟩, ?_⟩
    trivial
   subst h
   exact ⟨(), Weak.mkL [0, 1, 2, 3] (by decide) ⟨⟨_, Z, ⟨(AV.Le.refl _), trivial⟩, Z⟩, ⟨_, Z, (CellsLe.refl _), Z⟩, ⟨_, Z, Z⟩, ⟨_, Z, Z⟩, trivial⟩ ⟨AEv.tmp Z, AEv.tmp Z, (AEv.le (tm Z) (AV.Le.refl _)), trivial⟩⟩
 ·intro _
  have h := h40
  refine aw_cond (b := s39) (tm Z) (fun hb73 => ?_) (fun hb73 => ?_)
  ·replace h := ite_t hb73 h
   refine aw_seq (aw_region (ac Z Z Z (op_load1 (i := 0) Z isAgg91 (tm Z) Z Z ?_)))
   obtain ⟨r44, r44e, h⟩ := bind_some h
   refine aops_weak (weak_pick [1, 2, 3, 0] (by decide) Z) (ac Z Z Z (op_call (vs := [.ptr o0 0, .int .i64 6]) (H := [(o0, .cells (parse.parser.ct (.own q0) (.own q1) p_)), (q0, .spare), (q1, .spare)]) Z call85 ⟨(tm Z), (AEv.int _ _), trivial⟩ (List.Perm.refl _) (parse.parser.dies.ok r44e o0 q0 q1) ?_))
   rintro _ _ ⟨t45, rfl, rfl⟩
   refine ap (.bool r44.1) Z Z Z (pu_assign Z (tm Z)) (aops_nil (aw_claimCell 0 1 Z Z fun t46 => (aw_ret ?_)))
   obtain rfl := some_of h
   exact ⟨[.bool r44.1], _, [(o0, .cells (parse.parser.ct (.own t46) (.own t45) r44.2)), (t46, .spare), (t45, .spare)], ⟨(tm Z), trivial⟩, (AV.Le.refl _), Weak.mkL [1, 0, 2] (by decide) ⟨⟨_, Z, (CellsLe.refl _), Z⟩, ⟨_, Z, Z⟩, ⟨_, Z, Z⟩, trivial⟩ trivial, ⟨t46, t45, Z, Z⟩⟩
  ·replace h := ite_fb hb73 h
   refine aw_skip (aw_seq (aw_seq (aw_region (ap (.int .i64 r36) Z Z Z (pu_move Z (tm Z)) (ap (.bool (decide (r36 < 0))) Z Z Z (pu_int (v := .bool (decide (r36 < 0))) Z Z (tm Z) (AEv.int _ _) Z) (aops_nil (aw_cond (b := decide (r36 < 0)) (tm Z) (fun hb72 => ?_) (fun hb72 => ?_))))))))
   ·replace h := ite_t (dec_t hb72) h
    refine aw_seq (aw_region (ap (.bool false) Z Z Z (pu_assign Z (AEv.bool _)) (aops_nil (aw_ret ?_))))
    obtain rfl := some_of h
    exact ⟨[.bool false], _, [(o0, .cells (parse.parser.ct (.own q0) (.own q1) p_)), (q0, .spare), (q1, .spare)], ⟨(tm Z), trivial⟩, (AV.Le.refl _), Weak.mkL [1, 2, 3] (by decide) ⟨⟨_, Z, (CellsLe.refl _), Z⟩, ⟨_, Z, Z⟩, ⟨_, Z, Z⟩, trivial⟩ trivial, ⟨q0, q1, Z, Z⟩⟩
   ·replace h := ite_f (dec_f hb72) h
    refine aw_skip (aw_seq (aw_region (ac Z Z Z (op_load1 (i := 0) Z isAgg91 (tm Z) Z Z (ap (.ptr o0 0) Z Z Z (pu_nilCheck Z (tm Z) Z) (ap (.ptr o0 7) Z Z Z (pu_fieldAddr Z underlying93 Z sizeOf9 (by decide) (tm Z) Z) (ac Z Z Z (op_load1 (i := 1) Z isAgg9 (tm Z) Z Z (ap (.int .i64 r36) Z Z Z (pu_move Z (tm Z)) ?_)))))))))
    obtain ⟨c47, h⟩ := need_of h
    refine ap (.str (sub p_.s 0 r36)) Z Z Z (pu_strSliceM Z underlying9 (tm Z) Z ⟨_, (tm Z)⟩ c47) ?_
    obtain ⟨r48, r48e, h⟩ := bind_some h
    refine ac Z Z Z (op_call (vs := [.str (sub p_.s 0 r36), .str [13]]) (H := []) Z call89 ⟨(tm Z), (AEv.const Z), trivial⟩ (List.Perm.refl _) (strings.TrimSuffix.ok r48e) ?_)
    rintro _ _ ⟨rfl, rfl⟩
    obtain ⟨r49, r49e, h⟩ := bind_some h
    refine ac Z Z Z (op_call (vs := [.str r48]) (H := []) Z call88 ⟨(tm Z), trivial⟩ (List.Perm.refl _) (line.Split.ok r49e) ?_)
    rintro _ _ ⟨t50, rfl, rfl⟩
    refine ap (.tup [.sl (.own t50) 1 (r49.1.map AV.str), .bool r49.2]) Z Z Z (pu_move Z (tm Z)) (ap (.sl (.own t50) 1 (r49.1.map AV.str)) Z Z Z (pu_extract Z (tm Z) (Nat.le_of_ble_eq_true Z) Z) (ap (.bool r49.2) Z Z Z (pu_extract Z (tm Z) (Nat.le_of_ble_eq_true Z) Z) (ap (.sl (.own t50) 1 (r49.1.map AV.str)) Z Z Z (pu_assign Z (tm Z)) (ap (.bool r49.2) Z Z Z (pu_assign Z (tm Z)) (aops_nil (aw_seq (aw_region (ap (.fn 90 [.ptr p35 0]) Z Z Z (pu_makeFunc Z ⟨(tm Z), trivial⟩) (ap (.fn 90 [.ptr p35 0]) Z Z Z (pu_assign Z (tm Z)) ?_)))))))))
    refine aops_nil (aw_seq (aw_block (aw_seq (aw_region (ap (.bool r49.2) Z Z Z (pu_move Z (tm Z)) (ap (.bool (!r49.2)) Z Z Z (pu_not Z (tm Z)) (ap (.bool (!r49.2)) Z Z Z (pu_assign Z (tm Z)) (aops_nil (aw_cond (b := (!r49.2)) (tm Z) (fun hb71 => ?_) (fun hb71 => ?_))))))))))
    ·replace h := ite_t hb71 h
     refine aw_seq (aw_region (ac Z Z Z (op_load1 (i := 1) Z isAgg91 (tm Z) Z Z ?_)))
     obtain ⟨r51, r51e, h⟩ := bind_some h
     refine aops_weak (weak_pick [2, 3, 4, 0, 1] (by decide) Z) (ac Z Z Z (op_call (vs := [.ptr o0 0, .int .i64 16]) (H := [(o0, .cells (parse.parser.ct (.own q0) (.own q1) p_)), (q0, .spare), (q1, .spare)]) Z call85 ⟨(tm Z), (AEv.int _ _), trivial⟩ (List.Perm.refl _) (parse.parser.dies.ok r51e o0 q0 q1) ?_))
     rintro _ _ ⟨t52, rfl, rfl⟩
     refine ap (.bool r51.1) Z Z Z (pu_assign Z (tm Z)) (aops_nil (aw_claimCell 0 1 Z Z fun t53 => (aw_ret ?_)))
     obtain rfl := some_of h
     exact ⟨[.bool r51.1], _, [(o0, .cells (parse.parser.ct (.own t53) (.own t52) r51.2)), (t53, .spare), (t52, .spare)], ⟨(tm Z), trivial⟩, (AV.Le.refl _), Weak.mkL [1, 0, 2] (by decide) ⟨⟨_, Z, (CellsLe.refl _), Z⟩, ⟨_, Z, Z⟩, ⟨_, Z, Z⟩, trivial⟩ trivial, ⟨t53, t52, Z, Z⟩⟩
    ·replace h := ite_fb hb71 h
     refine aw_seq (aw_region (ap (.sl (.own t50) 1 (r49.1.map AV.str)) Z Z Z (pu_move Z (tm Z)) (ap (.int .i64 (r49.1.length : Int)) Z Z Z (pu_lenM Z underlying26 (tm Z)) (ac Z Z Z (op_load1 (i := 1) Z isAgg91 (tm Z) Z Z (ap (.ptr o0 0) Z Z Z (pu_nilCheck Z (tm Z) Z) (ap (.ptr o0 8) Z Z Z (pu_fieldAddr Z underlying93 Z sizeOf23 (by decide) (tm Z) Z) (ap (.ptr o0 8) Z Z Z (pu_fieldAddr Z underlying23 Z sizeOf3 (by decide) (tm Z) Z) (ac Z Z Z (op_load1 (i := 2) Z isAgg3 (tm Z) Z Z (ap (.bool (decide (p_.l.Args < (r49.1.length : Int)))) Z Z Z (pu_int (v := .bool (decide (p_.l.Args < (r49.1.length : Int)))) Z Z (tm Z) (tm Z) Z) ?_)))))))))))
     refine ap (.bool (decide (p_.l.Args < (r49.1.length : Int)))) Z Z Z (pu_assign Z (tm Z)) (aops_nil (aw_cond (b := decide (p_.l.Args < (r49.1.length : Int))) (tm Z) (fun hb70 => ?_) (fun hb70 => ?_)))
     ·replace h := ite_t (dec_t hb70) h
      refine aw_seq (aw_region (ac Z Z Z (op_load1 (i := 1) Z isAgg91 (tm Z) Z Z ?_)))
      obtain ⟨r54, r54e, h⟩ := bind_some h
      refine aops_weak (weak_pick [2, 3, 4, 0, 1] (by decide) Z) (ac Z Z Z (op_call (vs := [.ptr o0 0, .int .i64 7]) (H := [(o0, .cells (parse.parser.ct (.own q0) (.own q1) p_)), (q0, .spare), (q1, .spare)]) Z call85 ⟨(tm Z), (AEv.int _ _), trivial⟩ (List.Perm.refl _) (parse.parser.dies.ok r54e o0 q0 q1) ?_))
      rintro _ _ ⟨t55, rfl, rfl⟩
      refine ap (.bool r54.1) Z Z Z (pu_assign Z (tm Z)) (aops_nil (aw_claimCell 0 1 Z Z fun t56 => (aw_ret ?_)))
      obtain rfl := some_of h
      exact ⟨[.bool r54.1], _, [(o0, .cells (parse.parser.ct (.own t56) (.own t55) r54.2)), (t56, .spare), (t55, .spare)], ⟨(tm Z), trivial⟩, (AV.Le.refl _), Weak.mkL [1, 0, 2] (by decide) ⟨⟨_, Z, (CellsLe.refl _), Z⟩, ⟨_, Z, Z⟩, ⟨_, Z, Z⟩, trivial⟩ trivial, ⟨t56, t55, Z, Z⟩⟩
     ·replace h := ite_f (dec_f hb70) h
      refine aw_seq (aw_region (ap (.sl (.own t50) 1 (r49.1.map AV.str)) Z Z Z (pu_move Z (tm Z)) (ap (.fn 90 [.ptr p35 0]) Z Z Z (pu_move Z (tm Z)) ?_)))
      obtain ⟨r57, r57e, h⟩ := bind_some h
      refine aops_weak (weak_pick [1, 2, 3, 4, 0] (by decide) Z) (ac Z Z Z (op_call (vs := [.sl .no 1 (r49.1.map AV.str), .fn 90 [.ptr p35 0]]) (H := [(p35, .cells [.ptr o0 0]), (o0, .cells (parse.parser.ct (.own q0) (.own q1) p_)), (q0, .spare), (q1, .spare)]) Z call91 ⟨(AEv.le (tm Z) (AV.Le.forget _ _ _)), (tm Z), trivial⟩ (List.Perm.refl _) (slices.ContainsFunc_string_parse_parser_line_1.ok r57e p35 o0 q0 q1) ?_))
      rintro _ _ ⟨t58, t59, rfl, rfl⟩
      refine ap (.bool r57) Z Z Z (pu_assign Z (tm Z)) (aops_nil (aw_cond (b := r57) (tm Z) (fun hb69 => ?_) (fun hb69 => ?_)))
      ·replace h := ite_t hb69 h
       refine aw_seq (aw_region (ac Z Z Z (op_load1 (i := 0) Z isAgg91 (tm Z) Z Z ?_)))
       obtain ⟨r60, r60e, h⟩ := bind_some h
       refine aops_weak (weak_pick [1, 2, 3, 0, 4] (by decide) Z) (ac Z Z Z (op_call (vs := [.ptr o0 0, .int .i64 6]) (H := [(o0, .cells (parse.parser.ct (.own t58) (.own t59) p_)), (t58, .spare), (t59, .spare)]) Z call85 ⟨(tm Z), (AEv.int _ _), trivial⟩ (List.Perm.refl _) (parse.parser.dies.ok r60e o0 t58 t59) ?_))
       rintro _ _ ⟨t61, rfl, rfl⟩
       refine ap (.bool r60.1) Z Z Z (pu_assign Z (tm Z)) (aops_nil (aw_claimCell 0 1 Z Z fun t62 => (aw_ret ?_)))
       obtain rfl := some_of h
       exact ⟨[.bool r60.1], _, [(o0, .cells (parse.parser.ct (.own t62) (.own t61) r60.2)), (t62, .spare), (t61, .spare)], ⟨(tm Z), trivial⟩, (AV.Le.refl _), Weak.mkL [1, 0, 2] (by decide) ⟨⟨_, Z, (CellsLe.refl _), Z⟩, ⟨_, Z, Z⟩, ⟨_, Z, Z⟩, trivial⟩ trivial, ⟨t62, t61, Z, Z⟩⟩
      ·replace h := ite_fb hb69 h
       refine aw_skip (aw_seq (aw_region (ac Z Z Z (op_load1 (i := 0) Z isAgg91 (tm Z) Z Z (ap (.int .i64 r36) Z Z Z (pu_move Z (tm Z)) (ap (.int .i64 (IntKind.wrap .i64 (r36 + 1))) Z Z Z (pu_int (v := .int .i64 (IntKind.wrap .i64 (r36 + 1))) Z Z (tm Z) (AEv.int _ _) Z) ?_))))))
       obtain ⟨r63, r63e, h⟩ := bind_some h
       refine aops_weak (weak_pick [1, 2, 3, 0, 4] (by decide) Z) (ac Z Z Z (op_call (vs := [.ptr o0 0, .int .i64 (IntKind.wrap .i64 (r36 + 1))]) (H := [(o0, .cells (parse.parser.ct (.own t58) (.own t59) p_)), (t58, .spare), (t59, .spare)]) Z call86 ⟨(tm Z), (tm Z), trivial⟩ (List.Perm.refl _) (parse.parser.past.ok r63e o0 t58 t59) ?_))
       rintro _ _ ⟨t64, t65, rfl, rfl⟩
       refine aops_nil (aw_seq (aw_region (ac Z Z Z (op_load1 (i := 3) Z isAgg91 (tm Z) Z Z (ap (.sl (.own t50) 1 (r49.1.map AV.str)) Z Z Z (pu_move Z (tm Z)) ?_)))))
       obtain ⟨r66, r66e, h⟩ := bind_some h
       refine ac Z Z Z (op_call (vs := [.ptr o0 0, .sl .no 1 (r49.1.map AV.str)]) (H := [(o0, .cells (parse.parser.ct (.own t64) (.own t65) r63)), (t64, .spare), (t65, .spare)]) Z call76 ⟨(tm Z), (AEv.le (tm Z) (AV.Le.forget _ _ _)), trivial⟩ (List.Perm.refl _) (parse.parser.whole.ok r66e o0 t64 t65) ?_)
       rintro _ _ ⟨t67, rfl, rfl⟩
       refine aops_nil (aw_seq (aw_region (ap (.bool true) Z Z Z (pu_assign Z (AEv.bool _)) (aops_nil (aw_claimCell 0 1 Z Z fun t68 => (aw_ret ?_))))))
       obtain rfl := some_of h
       exact ⟨[.bool true], _, [(o0, .cells (parse.parser.ct (.own t68) (.own t67) r66)), (t68, .spare), (t67, .spare)], ⟨(tm Z), trivial⟩, (AV.Le.refl _), Weak.mkL [1, 0, 2] (by decide) ⟨⟨_, Z, (CellsLe.refl _), Z⟩, ⟨_, Z, Z⟩, ⟨_, Z, Z⟩, trivial⟩ trivial, ⟨t68, t67, Z, Z⟩⟩

theorem parse.parser.step.ok {p_ : parse.parser} {r : Bool × parse.parser} (h : parse.parser.step p_ = some r) (o0 q0 q1 : Nat) : Go.Lift.Spec prog 51 [.ptr o0 0] [(o0, .cells (parse.parser.ct (.own q0) (.own q1) p_)), (q0, .spare), (q1, .spare)] (fun v H => ∃ n0 n1, v = .bool r.1 ∧ H = [(o0, .cells [.str r.2.in_.Rest, .sl (.own n0) 1 (r.2.in_.Args.map AV.str), .int .i64 r.2.in_.Left, .int .i64 r.2.in_.Size, .bool r.2.in_.Body, .int .i64 r.2.in_.Need, .int .i64 r.2.in_.Dead, .str r.2.s, .int .i64 r.2.l.Args, .int .i64 r.2.l.Bulk, .int .i64 r.2.l.Line, .sl (.own n1) 2 (r.2.out.map api.Request.av)]), (n0, .spare), (n1, .spare)]) := by
 unfold parse.parser.step at h
 refine Go.Lift.Spec.of_body (rs := [.tmp 2]) func51 Z Z (Nat.le_of_ble_eq_true Z) Z (aw_seq (aw_region (ap (.bool false) Z Z Z (pu_assign Z (AEv.bool _)) (aops_nil (aw_seq (aw_block (aw_seq (aw_region (ap (.ptr o0 0) Z Z Z (pu_move Z (tm Z)) ?_)))))))))
 refine ap (.ptr o0 0) Z Z Z (pu_nilCheck Z (tm Z) Z) (ap (.ptr o0 0) Z Z Z (pu_fieldAddr Z underlying93 Z sizeOf29 (by decide) (tm Z) Z) (ap (.ptr o0 4) Z Z Z (pu_fieldAddr Z underlying29 Z sizeOf4 (by decide) (tm Z) Z) (ac Z Z Z (op_load1 (i := 0) Z isAgg4 (tm Z) Z Z (ap (.bool p_.in_.Body) Z Z Z (pu_assign Z (tm Z)) (aops_nil (aw_cond (b := p_.in_.Body) (tm Z) (fun hb98 => ?_) (fun hb98 => ?_))))))))
 ·replace h := ite_t hb98 h
  refine aw_seq (aw_region (ap (.ptr o0 0) Z Z Z (pu_move Z (tm Z)) ?_))
  obtain ⟨r50, r50e, h⟩ := bind_some h
  refine ac Z Z Z (op_call (vs := [.ptr o0 0]) (H := [(o0, .cells (parse.parser.ct (.own q0) (.own q1) p_)), (q0, .spare), (q1, .spare)]) Z call73 ⟨(tm Z), trivial⟩ (List.Perm.refl _) (parse.parser.body.ok r50e o0 q0 q1) ?_)
  rintro _ _ ⟨t51, t52, rfl, rfl⟩
  refine ap (.bool r50.1) Z Z Z (pu_assign Z (tm Z)) (aops_nil (aw_ret ?_))
  obtain rfl := some_of h
  exact ⟨[.bool r50.1], _, [(o0, .cells (parse.parser.ct (.own t51) (.own t52) r50.2)), (t51, .spare), (t52, .spare)], ⟨(tm Z), trivial⟩, (AV.Le.refl _), Weak.mkL [0, 1, 2] (by decide) ⟨⟨_, Z, (CellsLe.refl _), Z⟩, ⟨_, Z, Z⟩, ⟨_, Z, Z⟩, trivial⟩ trivial, ⟨t51, t52, Z, Z⟩⟩
 ·replace h := ite_fb hb98 h
  refine aw_seq (aw_region (ap (.ptr o0 0) Z Z Z (pu_move Z (tm Z)) (ap (.ptr o0 0) Z Z Z (pu_nilCheck Z (tm Z) Z) (ap (.ptr o0 0) Z Z Z (pu_fieldAddr Z underlying93 Z sizeOf29 (by decide) (tm Z) Z) (ap (.ptr o0 2) Z Z Z (pu_fieldAddr Z underlying29 Z sizeOf3 (by decide) (tm Z) Z) (ac Z Z Z (op_load1 (i := 0) Z isAgg3 (tm Z) Z Z (ap (.bool (decide (0 < p_.in_.Left))) Z Z Z (pu_int (v := .bool (decide (0 < p_.in_.Left))) Z Z (tm Z) (AEv.int _ _) Z) (ap (.bool (decide (0 < p_.in_.Left))) Z Z Z (pu_assign Z (tm Z)) (aops_nil ?_))))))))))
  refine aw_cond (b := decide (0 < p_.in_.Left)) (tm Z) (fun hb97 => ?_) (fun hb97 => ?_)
  ·replace h := ite_t (dec_t hb97) h
   refine aw_seq (aw_region (ap (.ptr o0 0) Z Z Z (pu_move Z (tm Z)) (ap (.ptr o0 0) Z Z Z (pu_move Z (tm Z)) (ap (.ptr o0 0) Z Z Z (pu_nilCheck Z (tm Z) Z) (ap (.ptr o0 8) Z Z Z (pu_fieldAddr Z underlying93 Z sizeOf23 (by decide) (tm Z) Z) (ap (.ptr o0 9) Z Z Z (pu_fieldAddr Z underlying23 Z sizeOf3 (by decide) (tm Z) Z) (ac Z Z Z (op_load1 (i := 0) Z isAgg3 (tm Z) Z Z ?_))))))))
   obtain ⟨r53, r53e, h⟩ := bind_some h
   refine ac Z Z Z (op_call (vs := [.ptr o0 0, .int .u8 36, .int .i64 p_.l.Bulk, .int .i64 6]) (H := [(o0, .cells (parse.parser.ct (.own q0) (.own q1) p_)), (q0, .spare), (q1, .spare)]) Z call74 ⟨(tm Z), (AEv.int _ _), (tm Z), (AEv.int _ _), trivial⟩ (List.Perm.refl _) (parse.parser.header.ok r53e o0 q0 q1) ?_)
   rintro _ _ ⟨t54, t55, rfl, rfl⟩
   refine ap (.tup [.int .i64 r53.1, .bool r53.2.1]) Z Z Z (pu_move Z (tm Z)) (ap (.int .i64 r53.1) Z Z Z (pu_extract Z (tm Z) (Nat.le_of_ble_eq_true Z) Z) (ap (.bool r53.2.1) Z Z Z (pu_extract Z (tm Z) (Nat.le_of_ble_eq_true Z) Z) (ap (.int .i64 r53.1) Z Z Z (pu_assign Z (tm Z)) (ap (.bool r53.2.1) Z Z Z (pu_assign Z (tm Z)) (aops_nil ?_)))))
   obtain ⟨s57, s57e, h58⟩ := letO_of h
   refine aw_meet (ν := Unit) (fun v => [(4, .bool r53.2.1)]) (fun v => [(o0, .cells (parse.parser.ct (.own t54) (.own t55) { r53.2.2 with in_ := { r53.2.2.in_ with Body := s57.1, Need := s57.2 } })), (t54, .spare), (t55, .spare)]) ?_ ?_
   ·have h := s57e.symm
    refine aw_seq (aw_region (ap (.bool r53.2.1) Z Z Z (pu_move Z (tm Z)) (aops_nil (aw_cond (b := r53.2.1) (tm Z) (fun hb60 => ?_) (fun hb60 => ?_)))))
    ·replace h := ite_t hb60 h
     refine aw_region (ap (.ptr o0 0) Z Z Z (pu_move Z (tm Z)) (ap (.ptr o0 0) Z Z Z (pu_move Z (tm Z)) (ap (.int .i64 r53.1) Z Z Z (pu_move Z (tm Z)) (ap (.ptr o0 0) Z Z Z (pu_nilCheck Z (tm Z) Z) (ap (.ptr o0 0) Z Z Z (pu_fieldAddr Z underlying93 Z sizeOf29 (by decide) (tm Z) Z) (ap (.ptr o0 4) Z Z Z (pu_fieldAddr Z underlying29 Z sizeOf4 (by decide) (tm Z) Z) (ac0 Z Z (op_store (i := 0) (cs' := (parse.parser.ct (.own t54) (.own t55) { r53.2.2 with in_ := { r53.2.2.in_ with Body := true } })) Z sizeOf4 (tm Z) (v := .bool true) (AEv.bool _) Z Z Z (Nat.le_of_ble_eq_true Z) Z (ap (.ptr o0 0) Z Z Z (pu_nilCheck Z (tm Z) Z) (ap (.ptr o0 0) Z Z Z (pu_fieldAddr Z underlying93 Z sizeOf29 (by decide) (tm Z) Z) ?_))))))))))
     refine ap (.ptr o0 5) Z Z Z (pu_fieldAddr Z underlying29 Z sizeOf3 (by decide) (tm Z) Z) (ac0 Z Z (op_store (i := 0) (cs' := (parse.parser.ct (.own t54) (.own t55) { r53.2.2 with in_ := { r53.2.2.in_ with Body := true, Need := r53.1 } })) Z sizeOf3 (tm Z) (v := .int .i64 r53.1) (tm Z) Z Z Z (Nat.le_of_ble_eq_true Z) Z (aops_nil ?_)))
     subst h
     exact ⟨(), Weak.mkL [0, 1, 2] (by decide) ⟨⟨_, Z, (CellsLe.refl _), Z⟩, ⟨_, Z, Z⟩, ⟨_, Z, Z⟩, trivial⟩ ⟨AEv.tmp Z, trivial⟩⟩
    ·replace h := ite_fb hb60 h
     refine aw_skip ?_
     subst h
     exact ⟨(), Weak.mkL [0, 1, 2] (by decide) ⟨⟨_, Z, (CellsLe.refl _), Z⟩, ⟨_, Z, Z⟩, ⟨_, Z, Z⟩, trivial⟩ ⟨AEv.tmp Z, trivial⟩⟩
   ·intro _
    have h := h58
    refine aw_seq (aw_region (ap (.bool r53.2.1) Z Z Z (pu_move Z (tm Z)) (ap (.bool r53.2.1) Z Z Z (pu_assign Z (tm Z)) (aops_nil (aw_ret ?_)))))
    obtain rfl := some_of h
    exact ⟨[.bool r53.2.1], _, [(o0, .cells (parse.parser.ct (.own t54) (.own t55) { r53.2.2 with in_ := { r53.2.2.in_ with Body := s57.1, Need := s57.2 } })), (t54, .spare), (t55, .spare)], ⟨(tm Z), trivial⟩, (AV.Le.refl _), Weak.mkL [0, 1, 2] (by decide) ⟨⟨_, Z, (CellsLe.refl _), Z⟩, ⟨_, Z, Z⟩, ⟨_, Z, Z⟩, trivial⟩ trivial, ⟨t54, t55, Z, Z⟩⟩
  ·replace h := ite_f (dec_f hb97) h
   refine aw_seq (aw_region (ap (.ptr o0 0) Z Z Z (pu_move Z (tm Z)) (ap (.ptr o0 0) Z Z Z (pu_nilCheck Z (tm Z) Z) (ap (.ptr o0 7) Z Z Z (pu_fieldAddr Z underlying93 Z sizeOf9 (by decide) (tm Z) Z) (ac Z Z Z (op_load1 (i := 0) Z isAgg9 (tm Z) Z Z (ap (.bool (decide (p_.s = ([] : List UInt8)))) Z Z Z (pu_str (v := .bool (decide (p_.s = ([] : List UInt8)))) Z Z (tm Z) (AEv.const Z) Z) (ap (.bool (decide (p_.s = ([] : List UInt8)))) Z Z Z (pu_assign Z (tm Z)) (aops_nil (aw_cond (b := decide (p_.s = ([] : List UInt8))) (tm Z) (fun hb96 => ?_) (fun hb96 => ?_)))))))))))
   ·replace h := ite_t (dec_t hb96) h
    refine aw_seq (aw_region (ap (.bool false) Z Z Z (pu_assign Z (AEv.bool _)) (aops_nil (aw_ret ?_))))
    obtain rfl := some_of h
    exact ⟨[.bool false], _, [(o0, .cells (parse.parser.ct (.own q0) (.own q1) p_)), (q0, .spare), (q1, .spare)], ⟨(tm Z), trivial⟩, (AV.Le.refl _), Weak.mkL [0, 1, 2] (by decide) ⟨⟨_, Z, (CellsLe.refl _), Z⟩, ⟨_, Z, Z⟩, ⟨_, Z, Z⟩, trivial⟩ trivial, ⟨q0, q1, Z, Z⟩⟩
   ·replace h := ite_f (dec_f hb96) h
    refine aw_seq (aw_region (ap (.ptr o0 0) Z Z Z (pu_move Z (tm Z)) (ap (.ptr o0 0) Z Z Z (pu_nilCheck Z (tm Z) Z) (ap (.ptr o0 7) Z Z Z (pu_fieldAddr Z underlying93 Z sizeOf9 (by decide) (tm Z) Z) (ac Z Z Z (op_load1 (i := 0) Z isAgg9 (tm Z) Z Z ?_))))))
    obtain ⟨c61, h⟩ := need_of h
    refine ap (.int .u8 (bix p_.s 0)) Z Z Z (pu_strIdxM Z underlying9 (tm Z) (AEv.int _ _) c61) (ap (.bool (!decide ((bix p_.s 0) = 42))) Z Z Z (pu_int (v := .bool (!decide ((bix p_.s 0) = 42))) Z Z (tm Z) (AEv.int _ _) Z) (ap (.bool (!decide ((bix p_.s 0) = 42))) Z Z Z (pu_assign Z (tm Z)) (aops_nil (aw_cond (b := (!decide ((bix p_.s 0) = 42))) (tm Z) (fun hb95 => ?_) (fun hb95 => ?_)))))
    ·replace h := ite_f (ndec_t hb95) h
     refine aw_seq (aw_region (ap (.ptr o0 0) Z Z Z (pu_move Z (tm Z)) ?_))
     obtain ⟨r62, r62e, h⟩ := bind_some h
     refine ac Z Z Z (op_call (vs := [.ptr o0 0]) (H := [(o0, .cells (parse.parser.ct (.own q0) (.own q1) p_)), (q0, .spare), (q1, .spare)]) Z call75 ⟨(tm Z), trivial⟩ (List.Perm.refl _) (parse.parser.line.ok r62e o0 q0 q1) ?_)
     rintro _ _ ⟨t63, t64, rfl, rfl⟩
     refine ap (.bool r62.1) Z Z Z (pu_assign Z (tm Z)) (aops_nil (aw_ret ?_))
     obtain rfl := some_of h
     exact ⟨[.bool r62.1], _, [(o0, .cells (parse.parser.ct (.own t63) (.own t64) r62.2)), (t63, .spare), (t64, .spare)], ⟨(tm Z), trivial⟩, (AV.Le.refl _), Weak.mkL [0, 1, 2] (by decide) ⟨⟨_, Z, (CellsLe.refl _), Z⟩, ⟨_, Z, Z⟩, ⟨_, Z, Z⟩, trivial⟩ trivial, ⟨t63, t64, Z, Z⟩⟩
    ·replace h := ite_t (ndec_f hb95) h
     refine aw_skip (aw_seq (aw_region (ap (.ptr o0 0) Z Z Z (pu_move Z (tm Z)) (ap (.ptr o0 0) Z Z Z (pu_move Z (tm Z)) (ap (.ptr o0 0) Z Z Z (pu_nilCheck Z (tm Z) Z) (ap (.ptr o0 8) Z Z Z (pu_fieldAddr Z underlying93 Z sizeOf23 (by decide) (tm Z) Z) (ap (.ptr o0 8) Z Z Z (pu_fieldAddr Z underlying23 Z sizeOf3 (by decide) (tm Z) Z) (ac Z Z Z (op_load1 (i := 0) Z isAgg3 (tm Z) Z Z ?_)))))))))
     obtain ⟨r65, r65e, h⟩ := bind_some h
     refine ac Z Z Z (op_call (vs := [.ptr o0 0, .int .u8 42, .int .i64 p_.l.Args, .int .i64 7]) (H := [(o0, .cells (parse.parser.ct (.own q0) (.own q1) p_)), (q0, .spare), (q1, .spare)]) Z call74 ⟨(tm Z), (AEv.int _ _), (tm Z), (AEv.int _ _), trivial⟩ (List.Perm.refl _) (parse.parser.header.ok r65e o0 q0 q1) ?_)
     rintro _ _ ⟨t66, t67, rfl, rfl⟩
     refine ap (.tup [.int .i64 r65.1, .bool r65.2.1]) Z Z Z (pu_move Z (tm Z)) (ap (.int .i64 r65.1) Z Z Z (pu_extract Z (tm Z) (Nat.le_of_ble_eq_true Z) Z) (ap (.bool r65.2.1) Z Z Z (pu_extract Z (tm Z) (Nat.le_of_ble_eq_true Z) Z) (ap (.int .i64 r65.1) Z Z Z (pu_assign Z (tm Z)) (ap (.bool r65.2.1) Z Z Z (pu_assign Z (tm Z)) (aops_nil ?_)))))
     obtain ⟨s69, s69e, h70⟩ := letO_of h
     refine aw_meet (ν := Unit) (fun v => [(0, .ptr o0 0), (5, .int .i64 r65.1), (6, .bool r65.2.1)]) (fun v => [(o0, .cells (parse.parser.ct (.own t66) (.own t67) { r65.2.2 with in_ := { r65.2.2.in_ with Left := s69 } })), (t66, .spare), (t67, .spare)]) ?_ ?_
     ·have h := s69e.symm
      refine aw_seq (aw_region (ap (.bool r65.2.1) Z Z Z (pu_move Z (tm Z)) (aops_nil (aw_cond (b := r65.2.1) (tm Z) (fun hb72 => ?_) (fun hb72 => ?_)))))
      ·replace h := ite_t hb72 h
       refine aw_region (ap (.ptr o0 0) Z Z Z (pu_move Z (tm Z)) (ap (.int .i64 r65.1) Z Z Z (pu_move Z (tm Z)) (ap (.ptr o0 0) Z Z Z (pu_nilCheck Z (tm Z) Z) (ap (.ptr o0 0) Z Z Z (pu_fieldAddr Z underlying93 Z sizeOf29 (by decide) (tm Z) Z) (ap (.ptr o0 2) Z Z Z (pu_fieldAddr Z underlying29 Z sizeOf3 (by decide) (tm Z) Z) (ac0 Z Z (op_store (i := 0) (cs' := (parse.parser.ct (.own t66) (.own t67) { r65.2.2 with in_ := { r65.2.2.in_ with Left := r65.1 } })) Z sizeOf3 (tm Z) (v := .int .i64 r65.1) (tm Z) Z Z Z (Nat.le_of_ble_eq_true Z) Z (aops_nil ?_))))))))
       subst h
       exact ⟨(), Weak.mkL [0, 1, 2] (by decide) ⟨⟨_, Z, (CellsLe.refl _), Z⟩, ⟨_, Z, Z⟩, ⟨_, Z, Z⟩, trivial⟩ ⟨AEv.tmp Z, AEv.tmp Z, AEv.tmp Z, trivial⟩⟩
      ·replace h := ite_fb hb72 h
       refine aw_skip ?_
       subst h
       exact ⟨(), Weak.mkL [0, 1, 2] (by decide) ⟨⟨_, Z, (CellsLe.refl _), Z⟩, ⟨_, Z, Z⟩, ⟨_, Z, Z⟩, trivial⟩ ⟨AEv.tmp Z, AEv.tmp Z, AEv.tmp Z, trivial⟩⟩
     ·intro _
      have h := h70
      obtain ⟨s81, s81e, h84⟩ := bind_some h
      refine aw_meet (ν := Nat × Nat) (fun v => [(6, .bool r65.2.1)]) (fun v => [(o0, .cells [.str s81.1, .sl (.own v.1) 1 (s81.2.1.map AV.str), .int .i64 s81.2.2.1, .int .i64 s81.2.2.2.1, .bool s81.2.2.2.2.1, .int .i64 s81.2.2.2.2.2.1, .int .i64 s81.2.2.2.2.2.2.1, .str s81.2.2.2.2.2.2.2.1, .int .i64 s81.2.2.2.2.2.2.2.2.1, .int .i64 s81.2.2.2.2.2.2.2.2.2.1, .int .i64 s81.2.2.2.2.2.2.2.2.2.2.1, .sl (.own v.2) 2 (s81.2.2.2.2.2.2.2.2.2.2.2.map api.Request.av)]), (v.1, .spare), (v.2, .spare)]) ?_ ?_
      ·have h := s81e
       refine aw_upd ?_
       obtain ⟨s87, s87e, h88⟩ := letO_of h
       refine aw_meet (ν := Unit) (fun v => [(0, .ptr o0 0), (6, .bool r65.2.1), (78, .bool s87)]) (fun v => [(o0, .cells (parse.parser.ct (.own t66) (.own t67) { r65.2.2 with in_ := { r65.2.2.in_ with Left := s69 } })), (t66, .spare), (t67, .spare)]) ?_ ?_
       ·have h := s87e.symm
        refine aw_region (ap (.bool r65.2.1) Z Z Z (pu_move Z (tm Z)) (ap (.bool r65.2.1) Z Z Z (pu_move Z (tm Z)) ?_))
        rcases Bool.eq_false_or_eq_true r65.2.1 with hb90 | hb90
        ·replace h := ite_t hb90 h
         refine aops_known 75 Z hb90 (agp (.int .i64 r65.1) Z Z Z Z Z Z Z (pu_move Z (tm Z)) (agp (.bool (decide (r65.1 = 0))) Z Z Z Z Z Z Z (pu_int (v := .bool (decide (r65.1 = 0))) Z Z (tm Z) (AEv.int _ _) Z) (ap (.bool (decide (r65.1 = 0))) Z Z Z (pu_pick (b := true) Z (tm Z) (fun _ => (tm Z)) (fun h => nomatch h)) (aops_nil ?_))))
         subst h
         exact ⟨(), Weak.mkL [0, 1, 2] (by decide) ⟨⟨_, Z, (CellsLe.refl _), Z⟩, ⟨_, Z, Z⟩, ⟨_, Z, Z⟩, trivial⟩ ⟨AEv.tmp Z, AEv.tmp Z, (AEv.le (tm Z) (AV.Le.refl _)), trivial⟩⟩
        ·replace h := ite_fb hb90 h
         refine aops_known 75 Z hb90 (an Z Z Z Z Z Z Z Z (an Z Z Z Z Z Z Z Z (ap (.bool false) Z Z Z (pu_pick (b := false) Z (tm Z) (fun h => nomatch h) (fun _ => (AEv.bool _))) (aops_nil ?_))))
         subst h
         exact ⟨(), Weak.mkL [0, 1, 2] (by decide) ⟨⟨_, Z, (CellsLe.refl _), Z⟩, ⟨_, Z, Z⟩, ⟨_, Z, Z⟩, trivial⟩ ⟨AEv.tmp Z, AEv.tmp Z, AEv.tmp Z, trivial⟩⟩
       ·intro _
        have h := h88
        refine aw_cond (b := s87) (tm Z) (fun hb94 => ?_) (fun hb94 => ?_)
        ·replace h := ite_t hb94 h
         refine aw_region (ap (.ptr o0 0) Z Z Z (pu_move Z (tm Z)) ?_)
         obtain ⟨r91, r91e, h⟩ := bind_some h
         refine ac Z Z Z (op_call (vs := [.ptr o0 0, .sl .no 1 (([] : List (List UInt8)).map AV.str)]) (H := [(o0, .cells (parse.parser.ct (.own t66) (.own t67) { r65.2.2 with in_ := { r65.2.2.in_ with Left := s69 } })), (t66, .spare), (t67, .spare)]) Z call76 ⟨(tm Z), (AEv.le (AEv.nil 1 (by decide)) (AV.Le.forget _ _ _)), trivial⟩ (List.Perm.refl _) (parse.parser.whole.ok r91e o0 t66 t67) ?_)
         rintro _ _ ⟨t92, rfl, rfl⟩
         refine aops_nil (upd_claimCell 0 1 Z Z fun t93 => (upd_done ?_))
         obtain rfl := some_of h
         exact ⟨(t93, t92), Weak.mkL [1, 0, 2] (by decide) ⟨⟨_, Z, (CellsLe.refl _), Z⟩, ⟨_, Z, Z⟩, ⟨_, Z, Z⟩, trivial⟩ ⟨AEv.tmp Z, trivial⟩⟩
        ·replace h := ite_fb hb94 h
         refine aw_skip (upd_done ?_)
         obtain rfl := some_of h
         exact ⟨(t66, t67), Weak.mkL [0, 1, 2] (by decide) ⟨⟨_, Z, (CellsLe.refl _), Z⟩, ⟨_, Z, Z⟩, ⟨_, Z, Z⟩, trivial⟩ ⟨AEv.tmp Z, trivial⟩⟩
      ·rintro ⟨n82, n83⟩
       have h := h84
       refine aw_seq (aw_region (ap (.bool r65.2.1) Z Z Z (pu_move Z (tm Z)) (ap (.bool r65.2.1) Z Z Z (pu_assign Z (tm Z)) (aops_nil (aw_ret ?_)))))
       obtain rfl := some_of h
       exact ⟨[.bool r65.2.1], _, [(o0, .cells [.str s81.1, .sl (.own n82) 1 (s81.2.1.map AV.str), .int .i64 s81.2.2.1, .int .i64 s81.2.2.2.1, .bool s81.2.2.2.2.1, .int .i64 s81.2.2.2.2.2.1, .int .i64 s81.2.2.2.2.2.2.1, .str s81.2.2.2.2.2.2.2.1, .int .i64 s81.2.2.2.2.2.2.2.2.1, .int .i64 s81.2.2.2.2.2.2.2.2.2.1, .int .i64 s81.2.2.2.2.2.2.2.2.2.2.1, .sl (.own n83) 2 (s81.2.2.2.2.2.2.2.2.2.2.2.map api.Request.av)]), (n82, .spare), (n83, .spare)], ⟨(tm Z), trivial⟩, (AV.Le.refl _), Weak.mkL [0, 1, 2] (by decide) ⟨⟨_, Z, (CellsLe.refl _), Z⟩, ⟨_, Z, Z⟩, ⟨_, Z, Z⟩, trivial⟩ trivial, ⟨n82, n83, Z, Z⟩⟩

theorem parse.Feed.ok {in_ : api.Input} {b : List UInt8} {l : api.Limits} {r : api.Input × (List api.Request) × Int} (h : parse.Feed in_ b l = some r) : Go.Lift.Spec prog 15 [.agg (api.Input.ct .no in_), .str b, .agg [.int .i64 l.Args, .int .i64 l.Bulk, .int .i64 l.Line]] [] (fun v H => ∃ n0, v = .tup [.agg [.str r.1.Rest, .sl .no 1 (r.1.Args.map AV.str), .int .i64 r.1.Left, .int .i64 r.1.Size, .bool r.1.Body, .int .i64 r.1.Need, .int .i64 r.1.Dead], .sl (.own n0) 2 (r.2.1.map api.Request.av), .int .i64 r.2.2] ∧ H = [(n0, .spare)]) := by
 unfold parse.Feed at h
 refine Go.Lift.Spec.of_body (rs := [.cell 6 29, .tmp 7, .tmp 8]) func15 Z Z (Nat.le_of_ble_eq_true Z) Z (aw_seq (aw_region (ac Z Z Z (op_box (cs := (api.Input.ct .no in_)) (v := .agg (api.Input.ct .no in_)) Z (tm Z) Z Z ?_))))
 intro p64
 refine ac Z Z Z (op_box (cs := [.int .i64 l.Args, .int .i64 l.Bulk, .int .i64 l.Line]) (v := .agg [.int .i64 l.Args, .int .i64 l.Bulk, .int .i64 l.Line]) Z (tm Z) Z Z ?_)
 intro p65
 refine ac Z Z Z (op_alloc (cs := [.str ([] : List UInt8), .sl .full 1 (([] : List (List UInt8)).map AV.str), .int .i64 0, .int .i64 0, .bool false, .int .i64 0, .int .i64 0]) (v := .agg [.str ([] : List UInt8), .sl .full 1 (([] : List (List UInt8)).map AV.str), .int .i64 0, .int .i64 0, .bool false, .int .i64 0, .int .i64 0]) Z zeroValue29 Z Z Z ?_)
 intro p66
 refine ap (.sl .full 2 (([] : List api.Request).map api.Request.av)) Z Z Z (pu_assign Z (AEv.nil 2 (by decide))) (ap (.int .i64 0) Z Z Z (pu_assign Z (AEv.int _ _)) (aops_nil (aw_seq (aw_seq (aw_region (ap (.ptr p64 6) Z Z Z (pu_fieldAddr Z underlying29 Z sizeOf27 (by decide) (tm Z) Z) (ac Z Z Z (op_load1 (i := 2) Z isAgg27 (tm Z) Z Z (ap (.bool (!decide (in_.Dead = 0))) Z Z Z (pu_int (v := .bool (!decide (in_.Dead = 0))) Z Z (tm Z) (AEv.int _ _) Z) (aops_nil ?_))))))))))
 refine aw_cond (b := (!decide (in_.Dead = 0))) (tm Z) (fun hb127 => ?_) (fun hb127 => ?_)
 ·replace h := ite_f (ndec_t hb127) h
  refine aw_seq (aw_plan (by decide +kernel) [([], some 13, [3]), ([0], some 14, [13]), ([1], some 15, [14]), ([], some 16, [3]), ([3], some 17, [16]), ([2, 0, 1, 2], none, [6, 15]), ([5, 0, 1, 2, 5], some 7, []), ([4, 6, 0, 1, 2, 3, 4, 5, 6], some 8, [17])] Z [[], [0], [0, 1], [], [3], [0, 1, 2], [0, 1, 2, 5], [0, 1, 2, 3, 4, 5, 6]] [[], [(2, 0, false)], [], [], [(2, 0, false)], [(0, 0, true)], [], []] [[5], [], []] [[[(p66, .cells [.str ([] : List UInt8), .sl .full 1 (([] : List (List UInt8)).map AV.str), .int .i64 0, .int .i64 0, .bool false, .int .i64 0, .int .i64 0])], [(p66, .cells [.str ([] : List UInt8), .sl .full 1 (([] : List (List UInt8)).map AV.str), .int .i64 0, .int .i64 0, .bool false, .int .i64 0, .int .i64 in_.Dead])]], [[(p65, .cells [.int .i64 l.Args, .int .i64 l.Bulk, .int .i64 l.Line])]], [[(p64, .cells (api.Input.ct .no in_))]]] [.ptr p64 6, .int .i64 in_.Dead, .agg [.str ([] : List UInt8), .sl .full 1 (([] : List (List UInt8)).map AV.str), .int .i64 0, .int .i64 0, .bool false, .int .i64 0, .int .i64 in_.Dead], .ptr p64 6, .int .i64 in_.Dead, .un, .sl .full 2 (([] : List api.Request).map api.Request.av), .int .i64 in_.Dead] (by decide +kernel) Z Z ?_ ?_)
  ·refine ⟨⟨[3], Z, stepg_pure Z (pu_fieldAddr Z underlying29 Z sizeOf27 (by decide) (tm Z) Z)⟩, ?_⟩
   refine ⟨⟨[13], Z, stepg_plain Z (op_load1 (i := 0) Z isAgg27 (tm Z) Z Z ⟨Z, Z⟩)⟩, ?_⟩
   refine ⟨⟨[14], Z, stepg_pure Z (pu_build (zs := [.str ([] : List UInt8), .sl .full 1 (([] : List (List UInt8)).map AV.str), .int .i64 0, .int .i64 0, .bool false, .int .i64 0, .int .i64 0]) (szs := [1, 1, 1, 1, 1, 1, 1]) (aparts := [(6, .int .i64 in_.Dead)]) (cs := [.str ([] : List UInt8), .sl .full 1 (([] : List (List UInt8)).map AV.str), .int .i64 0, .int .i64 0, .bool false, .int .i64 0, .int .i64 in_.Dead]) Z underlying29 zeroValue29 Z ⟨sizeOf9, sizeOf26, sizeOf3, sizeOf3, sizeOf4, sizeOf3, sizeOf27, trivial⟩ ⟨Z, (tm Z), trivial⟩ Z)⟩, ?_⟩
   refine ⟨⟨[3], Z, stepg_pure Z (pu_fieldAddr Z underlying29 Z sizeOf27 (by decide) (tm Z) Z)⟩, ?_⟩
   refine ⟨⟨[16], Z, stepg_plain Z (op_load1 (i := 0) Z isAgg27 (tm Z) Z Z ⟨Z, Z⟩)⟩, ?_⟩
   refine ⟨⟨[6, 15], Z, stepg_plain Z (op_store (i := 0) (cs' := [.str ([] : List UInt8), .sl .full 1 (([] : List (List UInt8)).map AV.str), .int .i64 0, .int .i64 0, .bool false, .int .i64 0, .int .i64 in_.Dead]) Z sizeOf29 (tm Z) (v := .agg [.str ([] : List UInt8), .sl .full 1 (([] : List (List UInt8)).map AV.str), .int .i64 0, .int .i64 0, .bool false, .int .i64 0, .int .i64 in_.Dead]) (tm Z) Z Z Z (Nat.le_of_ble_eq_true Z) Z ⟨Z, Z⟩)⟩, ?_⟩
   refine ⟨⟨[], Z, stepg_pure Z (pu_assign Z (AEv.nil 2 (by decide)))⟩, ?_⟩
   refine ⟨⟨[17], Z, stepg_pure Z (pu_assign Z (tm Z))⟩, ?_⟩
   trivial
  refine aw_claim 7 (tm Z) fun t67 => (aw_ret ?_)
  obtain rfl := some_of h
  exact ⟨[.agg [.str ([] : List UInt8), .sl .full 1 (([] : List (List UInt8)).map AV.str), .int .i64 0, .int .i64 0, .bool false, .int .i64 0, .int .i64 in_.Dead], .sl (.own t67) 2 (([] : List api.Request).map api.Request.av), .int .i64 in_.Dead], .tup [.agg [.str ([] : List UInt8), .sl .no 1 (([] : List (List UInt8)).map AV.str), .int .i64 0, .int .i64 0, .bool false, .int .i64 0, .int .i64 in_.Dead], .sl (.own t67) 2 (([] : List api.Request).map api.Request.av), .int .i64 in_.Dead], [(t67, .spare)], ⟨(CellOk.agg 1 (tm Z) Z isAgg29 sizeOf29 (Nat.le_of_ble_eq_true Z) Z), (tm Z), (tm Z), trivial⟩, (AV.Le.tup ⟨(AV.Le.agg ⟨(AV.Le.refl _), (AV.Le.forget _ _ _), (AV.Le.refl _), (AV.Le.refl _), (AV.Le.refl _), (AV.Le.refl _), (AV.Le.refl _), trivial⟩), (AV.Le.refl _), (AV.Le.refl _), trivial⟩), Weak.mkL [0] (by decide) ⟨⟨_, Z, Z⟩, trivial⟩ trivial, ⟨t67, Z, Z⟩⟩
 ·replace h := ite_t (ndec_f hb127) h
  refine aw_skip (aw_seq ?_)
  obtain ⟨c68, h⟩ := need_of h
  obtain ⟨r69, r69e, h⟩ := bind_some h
  refine aw_reserve fun p70 => (aw_plan (by decide +kernel) [([], some 18, [3]), ([], some 19, [3]), ([1], some 20, [19]), ([], some 21, [1]), ([2, 3], some 22, [20, 21]), ([], some 23, [5]), ([5], some 24, [23]), ([0, 4, 6], some 25, [18, 22, 24]), ([7], some 26, [25]), ([8, 6, 0, 1, 2, 3, 4, 5, 6, 7, 8], some 9, [26])] Z [[], [], [1], [], [1, 2, 3], [], [5], [0, 1, 2, 3, 4, 5, 6], [0, 1, 2, 3, 4, 5, 6, 7], [0, 1, 2, 3, 4, 5, 6, 7, 8]] [[(3, 0, false)], [], [(3, 0, false)], [], [], [(2, 0, false)], [], [], [(0, 0, true)], []] [[8], [], [], []] [[[(p70, .resv)], [(p70, .cells (parse.parser.ct .no .full ({ in_ := in_, s := in_.Rest ++ b, l := r69, out := ([] : List api.Request) } : parse.parser)))]], [[(p66, .cells [.str ([] : List UInt8), .sl .full 1 (([] : List (List UInt8)).map AV.str), .int .i64 0, .int .i64 0, .bool false, .int .i64 0, .int .i64 0])]], [[(p65, .cells [.int .i64 l.Args, .int .i64 l.Bulk, .int .i64 l.Line])]], [[(p64, .cells (api.Input.ct .no in_))]]] [.agg (api.Input.ct .no in_), .ptr p64 0, .str in_.Rest, .str b, .str (in_.Rest ++ b), .agg [.int .i64 l.Args, .int .i64 l.Bulk, .int .i64 l.Line], .agg [.int .i64 r69.Args, .int .i64 r69.Bulk, .int .i64 r69.Line], .agg (parse.parser.ct .no .full ({ in_ := in_, s := in_.Rest ++ b, l := r69, out := ([] : List api.Request) } : parse.parser)), .ptr p70 0, .ptr p70 0] (by decide +kernel) Z Z ?_ ?_)
  ·refine ⟨⟨[3], Z, stepg_plain Z (op_loadN (i := 0) Z isAgg29 sizeOf29 (tm Z) Z (Nat.le_of_ble_eq_true Z) Z ⟨Z, Z⟩)⟩, ?_⟩
   refine ⟨⟨[3], Z, stepg_pure Z (pu_fieldAddr Z underlying29 Z sizeOf9 (by decide) (tm Z) Z)⟩, ?_⟩
   refine ⟨⟨[19], Z, stepg_plain Z (op_load1 (i := 0) Z isAgg9 (tm Z) Z Z ⟨Z, Z⟩)⟩, ?_⟩
   refine ⟨⟨[1], Z, stepg_pure Z (pu_move Z (tm Z))⟩, ?_⟩
   refine ⟨⟨[20, 21], Z, stepg_pure Z (pu_strAdd Z (tm Z) (tm Z) c68)⟩, ?_⟩
   refine ⟨⟨[5], Z, stepg_plain Z (op_loadN (i := 0) Z isAgg23 sizeOf23 (tm Z) Z (Nat.le_of_ble_eq_true Z) Z ⟨Z, Z⟩)⟩, ?_⟩
   refine ⟨⟨[23], Z, stepg_plain Z (op_call (vs := [.agg [.int .i64 l.Args, .int .i64 l.Bulk, .int .i64 l.Line]]) (H := []) Z call19 ⟨(tm Z), trivial⟩ (R := []) (List.Perm.refl _) (parse.Limits.ok r69e) (by rintro _ _ ⟨rfl, rfl⟩; exact ⟨Z, Z⟩))⟩, ?_⟩
   refine ⟨⟨[18, 22, 24], Z, stepg_pure Z (pu_build (zs := [.str ([] : List UInt8), .sl .full 1 (([] : List (List UInt8)).map AV.str), .int .i64 0, .int .i64 0, .bool false, .int .i64 0, .int .i64 0, .str ([] : List UInt8), .int .i64 0, .int .i64 0, .int .i64 0, .sl .full 2 (([] : List api.Request).map api.Request.av)]) (szs := [7, 1, 3, 1]) (aparts := [(0, .agg (api.Input.ct .no in_)), (1, .str (in_.Rest ++ b)), (2, .agg [.int .i64 r69.Args, .int .i64 r69.Bulk, .int .i64 r69.Line])]) (cs := [.str in_.Rest, .sl .no 1 (in_.Args.map AV.str), .int .i64 in_.Left, .int .i64 in_.Size, .bool in_.Body, .int .i64 in_.Need, .int .i64 in_.Dead, .str (in_.Rest ++ b), .int .i64 r69.Args, .int .i64 r69.Bulk, .int .i64 r69.Line, .sl .full 2 (([] : List api.Request).map api.Request.av)]) Z underlying93 zeroValue93 Z ⟨sizeOf29, sizeOf9, sizeOf23, sizeOf30, trivial⟩ ⟨Z, (tm Z), ⟨Z, (tm Z), ⟨Z, (tm Z), trivial⟩⟩⟩ Z)⟩, ?_⟩
   refine ⟨⟨[25], Z, stepg_plain Z (aop_settleP (op_box (cs := (parse.parser.ct .no .full ({ in_ := in_, s := in_.Rest ++ b, l := r69, out := ([] : List api.Request) } : parse.parser))) (v := .agg (parse.parser.ct .no .full ({ in_ := in_, s := in_.Rest ++ b, l := r69, out := ([] : List api.Request) } : parse.parser))) Z (tm Z) Z Z fun t => ⟨t, Z, Z⟩) ⟨Z, Z⟩)⟩, ?_⟩
   refine ⟨⟨[26], Z, stepg_pure Z (pu_assign Z (tm Z))⟩, ?_⟩
   trivial
  refine aw_seq (aw_region (ap (.ptr p70 0) Z Z Z (pu_move Z (tm Z)) (ap (.ptr p70 0) Z Z Z (pu_move Z (tm Z)) (ap (.ptr p64 1) Z Z Z (pu_fieldAddr Z underlying29 Z sizeOf26 (by decide) (tm Z) Z) (ac Z Z Z (op_load1 (i := 3) Z isAgg26 (tm Z) Z Z ?_))))))
  obtain ⟨r71, r71e, h⟩ := bind_some h
  refine ac Z Z Z (op_call (vs := [.sl .no 1 (in_.Args.map AV.str)]) (H := []) Z call50 ⟨(tm Z), trivial⟩ (List.Perm.refl _) (slices.Clone_string.ok r71e) ?_)
  rintro _ _ ⟨t72, rfl, rfl⟩
  refine ap (.ptr p70 0) Z Z Z (pu_nilCheck Z (tm Z) Z) (ap (.ptr p70 0) Z Z Z (pu_fieldAddr Z underlying93 Z sizeOf29 (by decide) (tm Z) Z) (ap (.ptr p70 1) Z Z Z (pu_fieldAddr Z underlying29 Z sizeOf26 (by decide) (tm Z) Z) (ac0 Z Z (op_store (i := 1) (cs' := (parse.parser.ct (.own t72) .full ({ in_ := { in_ with Args := r71 }, s := in_.Rest ++ b, l := r69, out := ([] : List api.Request) } : parse.parser))) Z sizeOf26 (tm Z) (v := .sl (.own t72) 1 (r71.map AV.str)) (tm Z) Z Z Z (Nat.le_of_ble_eq_true Z) Z (ap (.ptr p70 0) Z Z Z (pu_nilCheck Z (tm Z) Z) (ap (.ptr p70 0) Z Z Z (pu_fieldAddr Z underlying93 Z sizeOf29 (by decide) (tm Z) Z) (ap (.ptr p70 0) Z Z Z (pu_fieldAddr Z underlying29 Z sizeOf9 (by decide) (tm Z) Z) (ac0 Z Z (op_store (i := 1) (cs' := (parse.parser.ct (.own t72) .full ({ in_ := { in_ with Rest := ([] : List UInt8), Args := r71 }, s := in_.Rest ++ b, l := r69, out := ([] : List api.Request) } : parse.parser))) Z sizeOf9 (tm Z) (v := .str ([] : List UInt8)) (AEv.const Z) Z Z Z (Nat.le_of_ble_eq_true Z) Z (aops_nil ?_))))))))))
  obtain ⟨s97, s97e, h100⟩ := bind_some h
  refine aw_meet (ν := Nat × Nat) (fun v => [(6, .ptr p66 0), (9, .ptr p70 0)]) (fun v => [(p66, .cells [.str ([] : List UInt8), .sl .full 1 (([] : List (List UInt8)).map AV.str), .int .i64 0, .int .i64 0, .bool false, .int .i64 0, .int .i64 0]), (p70, .cells [.str s97.1, .sl (.own v.1) 1 (s97.2.1.map AV.str), .int .i64 s97.2.2.1, .int .i64 s97.2.2.2.1, .bool s97.2.2.2.2.1, .int .i64 s97.2.2.2.2.2.1, .int .i64 s97.2.2.2.2.2.2.1, .str s97.2.2.2.2.2.2.2.1, .int .i64 s97.2.2.2.2.2.2.2.2.1, .int .i64 s97.2.2.2.2.2.2.2.2.2.1, .int .i64 s97.2.2.2.2.2.2.2.2.2.2.1, .sl (.own v.2) 2 (s97.2.2.2.2.2.2.2.2.2.2.2.map api.Request.av)]), (v.1, .spare), (v.2, .spare)]) ?_ ?_
  ·have h := s97e
   refine aw_block (aw_claimCell 1 11 Z Z fun t125 => (aw_while (σ := parse.Feed.S0) (ν := Nat × Nat) (parse.Feed.body0 in_ l) (fun s115 v => [(6, .ptr p66 0), (9, .ptr p70 0)]) (fun s115 v => [(p66, .cells [.str ([] : List UInt8), .sl .full 1 (([] : List (List UInt8)).map AV.str), .int .i64 0, .int .i64 0, .bool false, .int .i64 0, .int .i64 0]), (p70, .cells [.str s115.c, .sl (.own v.1) 1 (s115.c2.map AV.str), .int .i64 s115.c3, .int .i64 s115.c4, .bool s115.c5, .int .i64 s115.c6, .int .i64 s115.c7, .str s115.c8, .int .i64 s115.c9, .int .i64 s115.c10, .int .i64 s115.c11, .sl (.own v.2) 2 (s115.c12.map api.Request.av)]), (v.1, .spare), (v.2, .spare)]) ⟨([] : List UInt8), r71, in_.Left, in_.Size, in_.Body, in_.Need, in_.Dead, in_.Rest ++ b, r69.Args, r69.Bulk, r69.Line, ([] : List api.Request)⟩ (t72, t125) _ h (Weak.mkL [3, 2, 1, 0] (by decide) ⟨⟨_, Z, (CellsLe.refl _), Z⟩, ⟨_, Z, ⟨(AV.Le.refl _), (AV.Le.refl _), (AV.Le.refl _), (AV.Le.refl _), (AV.Le.refl _), (AV.Le.refl _), (AV.Le.refl _), (AV.Le.refl _), (AV.Le.refl _), (AV.Le.refl _), (AV.Le.refl _), (AV.Le.refl _), trivial⟩, Z⟩, ⟨_, Z, Z⟩, ⟨_, Z, Z⟩, trivial⟩ ⟨AEv.tmp Z, AEv.tmp Z, trivial⟩) ?_))
   rintro s115 ⟨n116, n117⟩ x119 h hx118
   unfold parse.Feed.body0 at h
   refine aw_seq (aw_seq (aw_region (ap (.ptr p70 0) Z Z Z (pu_move Z (tm Z)) ?_)))
   obtain ⟨r121, r121e, h⟩ := bind_some h
   refine aops_weak (weak_pick [1, 2, 3, 0] (by decide) Z) (ac Z Z Z (op_call (vs := [.ptr p70 0]) (H := [(p70, .cells [.str s115.c, .sl (.own n116) 1 (s115.c2.map AV.str), .int .i64 s115.c3, .int .i64 s115.c4, .bool s115.c5, .int .i64 s115.c6, .int .i64 s115.c7, .str s115.c8, .int .i64 s115.c9, .int .i64 s115.c10, .int .i64 s115.c11, .sl (.own n117) 2 (s115.c12.map api.Request.av)]), (n116, .spare), (n117, .spare)]) Z call51 ⟨(tm Z), trivial⟩ (List.Perm.refl _) (parse.parser.step.ok r121e p70 n116 n117) ?_))
   rintro _ _ ⟨t122, t123, rfl, rfl⟩
   refine aops_nil (aw_cond (b := r121.1) (tm Z) (fun hb124 => ?_) (fun hb124 => ?_))
   ·replace h := ite_t hb124 h
    refine aw_skip (aw_block (aw_skip ?_))
    obtain rfl := some_of h
    exact ⟨_, (t122, t123), Z, Weak.mkL [3, 0, 1, 2] (by decide) ⟨⟨_, Z, (CellsLe.refl _), Z⟩, ⟨_, Z, (CellsLe.refl _), Z⟩, ⟨_, Z, Z⟩, ⟨_, Z, Z⟩, trivial⟩ ⟨AEv.tmp Z, AEv.tmp Z, trivial⟩⟩
   ·replace h := ite_fb hb124 h
    refine aw_exit ?_
    obtain rfl := some_of h
    have h := congrArg some (hx118 _ rfl)
    obtain rfl := some_of h
    exact ⟨(t122, t123), Weak.mkL [3, 0, 1, 2] (by decide) ⟨⟨_, Z, (CellsLe.refl _), Z⟩, ⟨_, Z, (CellsLe.refl _), Z⟩, ⟨_, Z, Z⟩, ⟨_, Z, Z⟩, trivial⟩ ⟨AEv.tmp Z, AEv.tmp Z, trivial⟩⟩
  ·rintro ⟨n98, n99⟩
   have h := h100
   refine aw_seq (aw_region (ap (.ptr p70 0) Z Z Z (pu_move Z (tm Z)) (ap (.ptr p70 0) Z Z Z (pu_move Z (tm Z)) (ap (.ptr p70 0) Z Z Z (pu_nilCheck Z (tm Z) Z) (ap (.ptr p70 7) Z Z Z (pu_fieldAddr Z underlying93 Z sizeOf9 (by decide) (tm Z) Z) (ac Z Z Z (op_load1 (i := 1) Z isAgg9 (tm Z) Z Z ?_)))))))
   obtain ⟨r126, r126e, h⟩ := bind_some h
   refine ac Z Z Z (op_call (vs := [.str s97.2.2.2.2.2.2.2.1]) (H := []) Z call52 ⟨(tm Z), trivial⟩ (List.Perm.refl _) (strings.Clone.ok r126e) ?_)
   rintro _ _ ⟨rfl, rfl⟩
   refine ap (.ptr p70 0) Z Z Z (pu_nilCheck Z (tm Z) Z) (ap (.ptr p70 0) Z Z Z (pu_fieldAddr Z underlying93 Z sizeOf29 (by decide) (tm Z) Z) (ap (.ptr p70 0) Z Z Z (pu_fieldAddr Z underlying29 Z sizeOf9 (by decide) (tm Z) Z) (ac0 Z Z (op_store (i := 1) (cs' := [.str r126, .sl (.own n98) 1 (s97.2.1.map AV.str), .int .i64 s97.2.2.1, .int .i64 s97.2.2.2.1, .bool s97.2.2.2.2.1, .int .i64 s97.2.2.2.2.2.1, .int .i64 s97.2.2.2.2.2.2.1, .str s97.2.2.2.2.2.2.2.1, .int .i64 s97.2.2.2.2.2.2.2.2.1, .int .i64 s97.2.2.2.2.2.2.2.2.2.1, .int .i64 s97.2.2.2.2.2.2.2.2.2.2.1, .sl (.own n99) 2 (s97.2.2.2.2.2.2.2.2.2.2.2.map api.Request.av)]) Z sizeOf9 (tm Z) (v := .str r126) (tm Z) Z Z Z (Nat.le_of_ble_eq_true Z) Z (aops_nil (aw_seq (aw_plan (by decide +kernel) [([], some 49, [9]), ([0], some 50, [49]), ([1], some 51, [50]), ([2], some 52, [51]), ([], some 53, [9]), ([4], some 54, [53]), ([5], some 55, [54]), ([6], some 56, [55]), ([], some 57, [9]), ([8], some 58, [57]), ([9], some 59, [58]), ([10], some 60, [59]), ([11], some 61, [60]), ([3, 0, 1, 2, 3], none, [6, 52]), ([7, 13, 0, 1, 2, 3, 4, 5, 6, 7, 13], some 7, [56]), ([12, 14, 0, 1, 2, 3, 4, 5, 6, 7, 8, 9, 10, 11, 12, 13, 14], some 8, [61])] Z [[], [0], [0, 1], [0, 1, 2], [], [4], [4, 5], [4, 5, 6], [], [8], [8, 9], [8, 9, 10], [8, 9, 10, 11], [0, 1, 2, 3], [0, 1, 2, 3, 4, 5, 6, 7, 13], [0, 1, 2, 3, 4, 5, 6, 7, 8, 9, 10, 11, 12, 13, 14]] [[], [], [], [(1, 0, false)], [], [], [], [(1, 0, false)], [], [], [], [], [(1, 0, false)], [(0, 0, true)], [], []] [[13], [], [], []] [[[(p66, .cells [.str ([] : List UInt8), .sl .full 1 (([] : List (List UInt8)).map AV.str), .int .i64 0, .int .i64 0, .bool false, .int .i64 0, .int .i64 0])], [(p66, .cells [.str r126, .sl (.own n98) 1 (s97.2.1.map AV.str), .int .i64 s97.2.2.1, .int .i64 s97.2.2.2.1, .bool s97.2.2.2.2.1, .int .i64 s97.2.2.2.2.2.1, .int .i64 s97.2.2.2.2.2.2.1])]], [[(p70, .cells [.str r126, .sl (.own n98) 1 (s97.2.1.map AV.str), .int .i64 s97.2.2.1, .int .i64 s97.2.2.2.1, .bool s97.2.2.2.2.1, .int .i64 s97.2.2.2.2.2.1, .int .i64 s97.2.2.2.2.2.2.1, .str s97.2.2.2.2.2.2.2.1, .int .i64 s97.2.2.2.2.2.2.2.2.1, .int .i64 s97.2.2.2.2.2.2.2.2.2.1, .int .i64 s97.2.2.2.2.2.2.2.2.2.2.1, .sl (.own n99) 2 (s97.2.2.2.2.2.2.2.2.2.2.2.map api.Request.av)])]], [[(n98, .spare)]], [[(n99, .spare)]]] [.ptr p70 0, .ptr p70 0, .ptr p70 0, .agg [.str r126, .sl (.own n98) 1 (s97.2.1.map AV.str), .int .i64 s97.2.2.1, .int .i64 s97.2.2.2.1, .bool s97.2.2.2.2.1, .int .i64 s97.2.2.2.2.2.1, .int .i64 s97.2.2.2.2.2.2.1], .ptr p70 0, .ptr p70 0, .ptr p70 11, .sl (.own n99) 2 (s97.2.2.2.2.2.2.2.2.2.2.2.map api.Request.av), .ptr p70 0, .ptr p70 0, .ptr p70 0, .ptr p70 6, .int .i64 s97.2.2.2.2.2.2.1, .un, .sl (.own n99) 2 (s97.2.2.2.2.2.2.2.2.2.2.2.map api.Request.av), .int .i64 s97.2.2.2.2.2.2.1] (by decide +kernel) Z Z ?_ ?_)))))))
   ·refine ⟨⟨[9], Z, stepg_pure Z (pu_move Z (tm Z))⟩, ?_⟩
    refine ⟨⟨[49], Z, stepg_pure Z (pu_nilCheck Z (tm Z) Z)⟩, ?_⟩
    refine ⟨⟨[50], Z, stepg_pure Z (pu_fieldAddr Z underlying93 Z sizeOf29 (by decide) (tm Z) Z)⟩, ?_⟩
    refine ⟨⟨[51], Z, stepg_plain Z (op_loadN (i := 0) Z isAgg29 sizeOf29 (tm Z) Z (Nat.le_of_ble_eq_true Z) Z ⟨Z, Z⟩)⟩, ?_⟩
    refine ⟨⟨[9], Z, stepg_pure Z (pu_move Z (tm Z))⟩, ?_⟩
    refine ⟨⟨[53], Z, stepg_pure Z (pu_nilCheck Z (tm Z) Z)⟩, ?_⟩
    refine ⟨⟨[54], Z, stepg_pure Z (pu_fieldAddr Z underlying93 Z sizeOf30 (by decide) (tm Z) Z)⟩, ?_⟩
    refine ⟨⟨[55], Z, stepg_plain Z (op_load1 (i := 0) Z isAgg30 (tm Z) Z Z ⟨Z, Z⟩)⟩, ?_⟩
    refine ⟨⟨[9], Z, stepg_pure Z (pu_move Z (tm Z))⟩, ?_⟩
    refine ⟨⟨[57], Z, stepg_pure Z (pu_nilCheck Z (tm Z) Z)⟩, ?_⟩
    refine ⟨⟨[58], Z, stepg_pure Z (pu_fieldAddr Z underlying93 Z sizeOf29 (by decide) (tm Z) Z)⟩, ?_⟩
    refine ⟨⟨[59], Z, stepg_pure Z (pu_fieldAddr Z underlying29 Z sizeOf27 (by decide) (tm Z) Z)⟩, ?_⟩
    refine ⟨⟨[60], Z, stepg_plain Z (op_load1 (i := 0) Z isAgg27 (tm Z) Z Z ⟨Z, Z⟩)⟩, ?_⟩
    refine ⟨⟨[6, 52], Z, stepg_plain Z (op_store (i := 0) (cs' := [.str r126, .sl (.own n98) 1 (s97.2.1.map AV.str), .int .i64 s97.2.2.1, .int .i64 s97.2.2.2.1, .bool s97.2.2.2.2.1, .int .i64 s97.2.2.2.2.2.1, .int .i64 s97.2.2.2.2.2.2.1]) Z sizeOf29 (tm Z) (v := .agg [.str r126, .sl (.own n98) 1 (s97.2.1.map AV.str), .int .i64 s97.2.2.1, .int .i64 s97.2.2.2.1, .bool s97.2.2.2.2.1, .int .i64 s97.2.2.2.2.2.1, .int .i64 s97.2.2.2.2.2.2.1]) (tm Z) Z Z Z (Nat.le_of_ble_eq_true Z) Z ⟨Z, Z⟩)⟩, ?_⟩
    refine ⟨⟨[56], Z, stepg_pure Z (pu_assign Z (tm Z))⟩, ?_⟩
    refine ⟨⟨[61], Z, stepg_pure Z (pu_assign Z (tm Z))⟩, ?_⟩
    trivial
   refine aw_ret ?_
   obtain rfl := some_of h
   exact ⟨[.agg [.str r126, .sl (.own n98) 1 (s97.2.1.map AV.str), .int .i64 s97.2.2.1, .int .i64 s97.2.2.2.1, .bool s97.2.2.2.2.1, .int .i64 s97.2.2.2.2.2.1, .int .i64 s97.2.2.2.2.2.2.1], .sl (.own n99) 2 (s97.2.2.2.2.2.2.2.2.2.2.2.map api.Request.av), .int .i64 s97.2.2.2.2.2.2.1], .tup [.agg [.str r126, .sl .no 1 (s97.2.1.map AV.str), .int .i64 s97.2.2.1, .int .i64 s97.2.2.2.1, .bool s97.2.2.2.2.1, .int .i64 s97.2.2.2.2.2.1, .int .i64 s97.2.2.2.2.2.2.1], .sl (.own n99) 2 (s97.2.2.2.2.2.2.2.2.2.2.2.map api.Request.av), .int .i64 s97.2.2.2.2.2.2.1], [(n99, .spare)], ⟨(CellOk.agg 0 (tm Z) Z isAgg29 sizeOf29 (Nat.le_of_ble_eq_true Z) Z), (tm Z), (tm Z), trivial⟩, (AV.Le.tup ⟨(AV.Le.agg ⟨(AV.Le.refl _), (AV.Le.forget _ _ _), (AV.Le.refl _), (AV.Le.refl _), (AV.Le.refl _), (AV.Le.refl _), (AV.Le.refl _), trivial⟩), (AV.Le.refl _), (AV.Le.refl _), trivial⟩), Weak.mkL [3] (by decide) ⟨⟨_, Z, Z⟩, trivial⟩ trivial, ⟨n99, Z, Z⟩⟩

theorem mewsref05.texts.ok {a : List (List UInt8)} {b : List (List UInt8)} {r : Bool} (h : mewsref05.texts a b = some r) : Go.Lift.Spec prog 55 [.sl .no 1 (a.map AV.str), .sl .no 1 (b.map AV.str)] [] (fun v H => v = .bool r ∧ H = []) := by
 unfold mewsref05.texts at h
 refine Go.Lift.Spec.of_body (rs := [.tmp 4]) func55 Z Z (Nat.le_of_ble_eq_true Z) Z (aw_seq (aw_region (ap (.bool false) Z Z Z (pu_assign Z (AEv.bool _)) (aops_nil (aw_seq (aw_seq (aw_region (ap (.sl .no 1 (a.map AV.str)) Z Z Z (pu_move Z (tm Z)) (ap (.int .i64 (a.length : Int)) Z Z Z (pu_lenM Z underlying26 (tm Z)) ?_)))))))))
 refine ap (.sl .no 1 (b.map AV.str)) Z Z Z (pu_move Z (tm Z)) (ap (.int .i64 (b.length : Int)) Z Z Z (pu_lenM Z underlying26 (tm Z)) (ap (.bool (!decide ((a.length : Int) = (b.length : Int)))) Z Z Z (pu_int (v := .bool (!decide ((a.length : Int) = (b.length : Int)))) Z Z (tm Z) (tm Z) Z) (aops_nil (aw_cond (b := (!decide ((a.length : Int) = (b.length : Int)))) (tm Z) (fun hb82 => ?_) (fun hb82 => ?_)))))
 ·replace h := ite_f (ndec_t hb82) h
  refine aw_seq (aw_region (ap (.bool false) Z Z Z (pu_assign Z (AEv.bool _)) (aops_nil (aw_ret ?_))))
  obtain rfl := some_of h
  exact ⟨[.bool false], _, [], ⟨(tm Z), trivial⟩, (AV.Le.refl _), Weak.mkL [] (by decide) trivial trivial, ⟨Z, Z⟩⟩
 ·replace h := ite_t (ndec_f hb82) h
  refine aw_skip ?_
  obtain ⟨s81, s81e, h61⟩ := bind_some h
  refine aw_join (σ := Unit) (ν := Unit) (fun u v => []) (fun u v => []) (fun u => s81 = .inl u) ?_ ?_
  ·intro s60
   intro _
   rintro rfl
   have h := onSum_inl h61
   refine aw_seq (aw_region (ap (.bool true) Z Z Z (pu_assign Z (AEv.bool _)) (aops_nil (aw_ret ?_))))
   obtain rfl := some_of h
   exact ⟨[.bool true], _, [], ⟨(tm Z), trivial⟩, (AV.Le.refl _), Weak.mkL [] (by decide) trivial trivial, ⟨Z, Z⟩⟩
  ·have h := s81e
   refine aw_seq (aw_region (ap (.int .i64 0) Z Z Z (pu_assign Z (AEv.int _ _)) (aops_nil (aw_block (aw_while (σ := mewsref05.texts.S0) (ν := Unit) (mewsref05.texts.body0 a b) (fun s73 v => [(0, .sl .no 1 (a.map AV.str)), (1, .sl .no 1 (b.map AV.str)), (5, .int .i64 s73.i)]) (fun s73 v => []) ⟨0⟩ () _ h (Weak.mkL [] (by decide) trivial ⟨AEv.tmp Z, AEv.tmp Z, AEv.tmp Z, trivial⟩) ?_)))))
   rintro s73 _ x75 h hx74
   unfold mewsref05.texts.body0 at h
   refine aw_seq (aw_seq (aw_region (ap (.int .i64 s73.i) Z Z Z (pu_move Z (tm Z)) (ap (.sl .no 1 (a.map AV.str)) Z Z Z (pu_move Z (tm Z)) (ap (.int .i64 (a.length : Int)) Z Z Z (pu_lenM Z underlying26 (tm Z)) (ap (.bool (decide (s73.i < (a.length : Int)))) Z Z Z (pu_int (v := .bool (decide (s73.i < (a.length : Int)))) Z Z (tm Z) (tm Z) Z) (aops_nil (aw_cond (b := decide (s73.i < (a.length : Int))) (tm Z) (fun hb80 => ?_) (fun hb80 => ?_)))))))))
   ·replace h := ite_t (dec_t hb80) h
    refine aw_skip (aw_seq (aw_block (aw_seq ?_)))
    obtain ⟨c77, h⟩ := need_of h
    obtain ⟨c78, h⟩ := need_of h
    refine aw_plan (by decide +kernel) [([], some 17, [0]), ([], some 18, [5]), ([0, 1], some 19, [17, 18]), ([2], some 20, [19]), ([], some 21, [1]), ([], some 22, [5]), ([4, 5], some 23, [21, 22]), ([6], some 24, [23]), ([3, 7], some 25, [20, 24])] Z [[], [], [0, 1], [0, 1, 2], [], [], [4, 5], [4, 5, 6], [0, 1, 2, 3, 4, 5, 6, 7]] [[], [], [], [], [], [], [], [], []] [] [] [.sl .no 1 (a.map AV.str), .int .i64 s73.i, .vptr [.str (ix a s73.i)], .str (ix a s73.i), .sl .no 1 (b.map AV.str), .int .i64 s73.i, .vptr [.str (ix b s73.i)], .str (ix b s73.i), .bool (!decide ((ix a s73.i) = (ix b s73.i)))] (by decide +kernel) Z Z ?_ ?_
    ·refine ⟨⟨[0], Z, stepg_pure Z (pu_move Z (tm Z))⟩, ?_⟩
     refine ⟨⟨[5], Z, stepg_pure Z (pu_move Z (tm Z))⟩, ?_⟩
     refine ⟨⟨[17, 18], Z, stepg_pure Z (pu_indexAddrM Z underlying26 sizeOf9 (tm Z) (tm Z) c77 Z)⟩, ?_⟩
     refine ⟨⟨[19], Z, stepg_plain Z (op_loadV1 Z isAgg9 (tm Z) Z ⟨Z, Z⟩)⟩, ?_⟩
     refine ⟨⟨[1], Z, stepg_pure Z (pu_move Z (tm Z))⟩, ?_⟩
     refine ⟨⟨[5], Z, stepg_pure Z (pu_move Z (tm Z))⟩, ?_⟩
     refine ⟨⟨[21, 22], Z, stepg_pure Z (pu_indexAddrM Z underlying26 sizeOf9 (tm Z) (tm Z) c78 Z)⟩, ?_⟩
     refine ⟨⟨[23], Z, stepg_plain Z (op_loadV1 Z isAgg9 (tm Z) Z ⟨Z, Z⟩)⟩, ?_⟩
     refine ⟨⟨[20, 24], Z, stepg_pure Z (pu_str (v := .bool (!decide ((ix a s73.i) = (ix b s73.i)))) Z Z (tm Z) (tm Z) Z)⟩, ?_⟩
     trivial
    refine aw_cond (b := (!decide ((ix a s73.i) = (ix b s73.i)))) (tm Z) (fun hb79 => ?_) (fun hb79 => ?_)
    ·replace h := ite_f (ndec_t hb79) h
     refine aw_seq (aw_region (ap (.bool false) Z Z Z (pu_assign Z (AEv.bool _)) (aops_nil (aw_ret ?_))))
     obtain rfl := some_of h
     have h := congrArg some (hx74 _ rfl)
     obtain rfl := some_of h
     have h := onSum_inr h61
     obtain rfl := some_of h
     exact ⟨[.bool false], _, [], ⟨(tm Z), trivial⟩, (AV.Le.refl _), Weak.mkL [] (by decide) trivial trivial, ⟨Z, Z⟩⟩
    ·replace h := ite_t (ndec_f hb79) h
     refine aw_skip (aw_region (ap (.int .i64 s73.i) Z Z Z (pu_move Z (tm Z)) (ap (.int .i64 (IntKind.wrap .i64 (s73.i + 1))) Z Z Z (pu_int (v := .int .i64 (IntKind.wrap .i64 (s73.i + 1))) Z Z (tm Z) (AEv.int _ _) Z) (ap (.int .i64 (IntKind.wrap .i64 (s73.i + 1))) Z Z Z (pu_assign Z (tm Z)) (aops_nil ?_)))))
     obtain rfl := some_of h
     exact ⟨_, (), Z, Weak.mkL [] (by decide) trivial ⟨AEv.tmp Z, AEv.tmp Z, (AEv.le (tm Z) (AV.Le.refl _)), trivial⟩⟩
   ·replace h := ite_f (dec_f hb80) h
    refine aw_exit ?_
    obtain rfl := some_of h
    have h := congrArg some (hx74 _ rfl)
    exact ⟨(), (), (some_of h).symm, Weak.mkL [] (by decide) trivial trivial⟩

theorem mewsref05.between.ok {n_ : Int} {most : Int} {r : Int} (h : mewsref05.between n_ most = some r) : Go.Lift.Spec prog 56 [.int .i64 n_, .int .i64 most] [] (fun v H => v = .int .i64 r ∧ H = []) := by
 unfold mewsref05.between at h
 refine Go.Lift.Spec.of_body (rs := [.tmp 4]) func56 Z Z (Nat.le_of_ble_eq_true Z) Z (aw_seq (aw_region (ap (.int .i64 0) Z Z Z (pu_assign Z (AEv.int _ _)) (aops_nil (aw_seq (aw_seq (aw_region (ap (.int .i64 n_) Z Z Z (pu_move Z (tm Z)) (ap (.bool (decide (n_ < 1))) Z Z Z (pu_int (v := .bool (decide (n_ < 1))) Z Z (tm Z) (AEv.int _ _) Z) ?_)))))))))
 refine aops_nil (aw_cond (b := decide (n_ < 1)) (tm Z) (fun hb4 => ?_) (fun hb4 => ?_))
 ·replace h := ite_t (dec_t hb4) h
  refine aw_seq (aw_region (ap (.int .i64 1) Z Z Z (pu_assign Z (AEv.int _ _)) (aops_nil (aw_ret ?_))))
  obtain rfl := some_of h
  exact ⟨[.int .i64 1], _, [], ⟨(tm Z), trivial⟩, (AV.Le.refl _), Weak.mkL [] (by decide) trivial trivial, ⟨Z, Z⟩⟩
 ·replace h := ite_f (dec_f hb4) h
  refine aw_skip (aw_seq (aw_seq (aw_region (ap (.int .i64 n_) Z Z Z (pu_move Z (tm Z)) (ap (.int .i64 most) Z Z Z (pu_move Z (tm Z)) (ap (.bool (decide (most < n_))) Z Z Z (pu_int (v := .bool (decide (most < n_))) Z Z (tm Z) (tm Z) Z) (aops_nil (aw_cond (b := decide (most < n_)) (tm Z) (fun hb3 => ?_) (fun hb3 => ?_)))))))))
  ·replace h := ite_t (dec_t hb3) h
   refine aw_seq (aw_region (ap (.int .i64 most) Z Z Z (pu_move Z (tm Z)) (ap (.int .i64 most) Z Z Z (pu_assign Z (tm Z)) (aops_nil (aw_ret ?_)))))
   obtain rfl := some_of h
   exact ⟨[.int .i64 most], _, [], ⟨(tm Z), trivial⟩, (AV.Le.refl _), Weak.mkL [] (by decide) trivial trivial, ⟨Z, Z⟩⟩
  ·replace h := ite_f (dec_f hb3) h
   refine aw_skip (aw_seq (aw_region (ap (.int .i64 n_) Z Z Z (pu_move Z (tm Z)) (ap (.int .i64 n_) Z Z Z (pu_assign Z (tm Z)) (aops_nil (aw_ret ?_))))))
   obtain rfl := some_of h
   exact ⟨[.int .i64 n_], _, [], ⟨(tm Z), trivial⟩, (AV.Le.refl _), Weak.mkL [] (by decide) trivial trivial, ⟨Z, Z⟩⟩

theorem mewsref05.Limits.ok {l : api.Limits} {r : api.Limits} (h : mewsref05.Limits l = some r) : Go.Lift.Spec prog 20 [.agg [.int .i64 l.Args, .int .i64 l.Bulk, .int .i64 l.Line]] [] (fun v H => v = .agg [.int .i64 r.Args, .int .i64 r.Bulk, .int .i64 r.Line] ∧ H = []) := by
 unfold mewsref05.Limits at h
 refine Go.Lift.Spec.of_body (rs := [.cell 2 23]) func20 Z Z (Nat.le_of_ble_eq_true Z) Z (aw_seq (aw_region (ac Z Z Z (op_box (cs := [.int .i64 l.Args, .int .i64 l.Bulk, .int .i64 l.Line]) (v := .agg [.int .i64 l.Args, .int .i64 l.Bulk, .int .i64 l.Line]) Z (tm Z) Z Z ?_))))
 intro p6
 refine ac Z Z Z (op_alloc (cs := [.int .i64 0, .int .i64 0, .int .i64 0]) (v := .agg [.int .i64 0, .int .i64 0, .int .i64 0]) Z zeroValue23 Z Z Z ?_)
 intro p7
 refine aops_nil (aw_seq ?_)
 obtain ⟨r8, r8e, h⟩ := bind_some h
 obtain ⟨r9, r9e, h⟩ := bind_some h
 obtain ⟨r10, r10e, h⟩ := bind_some h
 refine aw_plan (by decide +kernel) [([], some 3, [1]), ([0], some 4, [3]), ([1], some 5, [4]), ([], some 6, [1]), ([3], some 7, [6]), ([4, 2], some 8, [7]), ([], some 9, [1]), ([6], some 10, [9]), ([7, 5], some 11, [10]), ([2, 5, 8], some 12, [5, 8, 11]), ([9, 8, 0, 1, 2, 3, 4, 5, 6, 7, 8, 9], none, [2, 12])] Z [[], [0], [0, 1], [], [3], [0, 1, 2, 3, 4], [], [6], [0, 1, 2, 3, 4, 5, 6, 7], [0, 1, 2, 3, 4, 5, 6, 7, 8], [0, 1, 2, 3, 4, 5, 6, 7, 8, 9]] [[], [(1, 0, false)], [], [], [(1, 0, false)], [], [], [(1, 0, false)], [], [], [(0, 0, true)]] [[10], []] [[[(p7, .cells [.int .i64 0, .int .i64 0, .int .i64 0])], [(p7, .cells [.int .i64 r8, .int .i64 r9, .int .i64 r10])]], [[(p6, .cells [.int .i64 l.Args, .int .i64 l.Bulk, .int .i64 l.Line])]]] [.ptr p6 0, .int .i64 l.Args, .int .i64 r8, .ptr p6 1, .int .i64 l.Bulk, .int .i64 r9, .ptr p6 2, .int .i64 l.Line, .int .i64 r10, .agg [.int .i64 r8, .int .i64 r9, .int .i64 r10], .un] (by decide +kernel) Z Z ?_ ?_
 ·refine ⟨⟨[1], Z, stepg_pure Z (pu_fieldAddr Z underlying23 Z sizeOf3 (by decide) (tm Z) Z)⟩, ?_⟩
  refine ⟨⟨[3], Z, stepg_plain Z (op_load1 (i := 0) Z isAgg3 (tm Z) Z Z ⟨Z, Z⟩)⟩, ?_⟩
  refine ⟨⟨[4], Z, stepg_plain Z (op_call (vs := [.int .i64 l.Args, .int .i64 65536]) (H := []) Z call56 ⟨(tm Z), (AEv.int _ _), trivial⟩ (R := []) (List.Perm.refl _) (mewsref05.between.ok r8e) (by rintro _ _ ⟨rfl, rfl⟩; exact ⟨Z, Z⟩))⟩, ?_⟩
  refine ⟨⟨[1], Z, stepg_pure Z (pu_fieldAddr Z underlying23 Z sizeOf3 (by decide) (tm Z) Z)⟩, ?_⟩
  refine ⟨⟨[6], Z, stepg_plain Z (op_load1 (i := 0) Z isAgg3 (tm Z) Z Z ⟨Z, Z⟩)⟩, ?_⟩
  refine ⟨⟨[7], Z, stepg_plain Z (op_call (vs := [.int .i64 l.Bulk, .int .i64 1048576]) (H := []) Z call56 ⟨(tm Z), (AEv.int _ _), trivial⟩ (R := []) (List.Perm.refl _) (mewsref05.between.ok r9e) (by rintro _ _ ⟨rfl, rfl⟩; exact ⟨Z, Z⟩))⟩, ?_⟩
  refine ⟨⟨[1], Z, stepg_pure Z (pu_fieldAddr Z underlying23 Z sizeOf3 (by decide) (tm Z) Z)⟩, ?_⟩
  refine ⟨⟨[9], Z, stepg_plain Z (op_load1 (i := 0) Z isAgg3 (tm Z) Z Z ⟨Z, Z⟩)⟩, ?_⟩
  refine ⟨⟨[10], Z, stepg_plain Z (op_call (vs := [.int .i64 l.Line, .int .i64 65536]) (H := []) Z call56 ⟨(tm Z), (AEv.int _ _), trivial⟩ (R := []) (List.Perm.refl _) (mewsref05.between.ok r10e) (by rintro _ _ ⟨rfl, rfl⟩; exact ⟨Z, Z⟩))⟩, ?_⟩
  refine ⟨⟨[5, 8, 11], Z, stepg_pure Z (pu_build (zs := [.int .i64 0, .int .i64 0, .int .i64 0]) (szs := [1, 1, 1]) (aparts := [(0, .int .i64 r8), (1, .int .i64 r9), (2, .int .i64 r10)]) (cs := [.int .i64 r8, .int .i64 r9, .int .i64 r10]) Z underlying23 zeroValue23 Z ⟨sizeOf3, sizeOf3, sizeOf3, trivial⟩ ⟨Z, (tm Z), ⟨Z, (tm Z), ⟨Z, (tm Z), trivial⟩⟩⟩ Z)⟩, ?_⟩
  refine ⟨⟨[2, 12], Z, stepg_plain Z (op_store (i := 0) (cs' := [.int .i64 r8, .int .i64 r9, .int .i64 r10]) Z sizeOf23 (tm Z) (v := .agg [.int .i64 r8, .int .i64 r9, .int .i64 r10]) (tm Z) Z Z Z (Nat.le_of_ble_eq_true Z) Z ⟨Z, Z⟩)⟩, ?_⟩
  trivial
 refine aw_ret ?_
 obtain rfl := some_of h
 exact ⟨[.agg [.int .i64 r8, .int .i64 r9, .int .i64 r10]], _, [], ⟨(CellOk.agg 0 (tm Z) Z isAgg23 sizeOf23 (Nat.le_of_ble_eq_true Z) Z), trivial⟩, (AV.Le.refl _), Weak.mkL [] (by decide) trivial trivial, ⟨Z, Z⟩⟩

theorem mewsref01.digits.rec.ok (kk : Nat) : ∀ {n_ : Int} {r : List UInt8} (h : mewsref01.digits.rec kk n_ = some r), Go.Lift.Spec prog 81 [.int .i64 n_] [] (fun v H => v = .str r ∧ H = []) := by
 induction kk with
 | zero => intro n_ r h; exact nomatch h
 | succ kk ih =>
  intro n_ r h
  rw [mewsref01.digits.rec.eq_2] at h
  refine Go.Lift.Spec.of_body (rs := [.tmp 2]) func81 Z Z (Nat.le_of_ble_eq_true Z) Z (aw_seq (aw_region (ap (.str ([] : List UInt8)) Z Z Z (pu_assign Z (AEv.const Z)) (aops_nil (aw_seq (aw_region (ap (.str [48, 49, 50, 51, 52, 53, 54, 55, 56, 57]) Z Z Z (pu_assign Z (AEv.const Z)) (aops_nil (aw_seq ?_)))))))))
  refine aw_region (ap (.int .i64 n_) Z Z Z (pu_move Z (tm Z)) (ap (.int .i64 (n_.tmod 10)) Z Z Z (pu_rem Z (tm Z) (AEv.int _ _) (by decide)) (ap (.int .i64 (IntKind.wrap .i64 (0 - (n_.tmod 10)))) Z Z Z (pu_neg Z (tm Z)) (ap (.int .i64 (IntKind.wrap .i64 (0 - (n_.tmod 10)))) Z Z Z (pu_assign Z (tm Z)) (aops_nil (aw_seq (aw_seq (aw_region (ap (.int .i64 n_) Z Z Z (pu_move Z (tm Z)) ?_)))))))))
  refine ap (.bool (decide ((-10) < n_))) Z Z Z (pu_int (v := .bool (decide ((-10) < n_))) Z Z (tm Z) (AEv.int _ _) Z) (aops_nil (aw_cond (b := decide ((-10) < n_)) (tm Z) (fun hb14 => ?_) (fun hb14 => ?_)))
  ·replace h := ite_t (dec_t hb14) h
   refine aw_seq (aw_region (ap (.str [48, 49, 50, 51, 52, 53, 54, 55, 56, 57]) Z Z Z (pu_move Z (tm Z)) (ap (.int .i64 (IntKind.wrap .i64 (0 - (n_.tmod 10)))) Z Z Z (pu_move Z (tm Z)) (ap (.int .i64 (IntKind.wrap .i64 (0 - (n_.tmod 10)))) Z Z Z (pu_move Z (tm Z)) (ap (.int .i64 (IntKind.wrap .i64 ((IntKind.wrap .i64 (0 - (n_.tmod 10))) + 1))) Z Z Z (pu_int (v := .int .i64 (IntKind.wrap .i64 ((IntKind.wrap .i64 (0 - (n_.tmod 10))) + 1))) Z Z (tm Z) (AEv.int _ _) Z) ?_)))))
   obtain ⟨c8, h⟩ := need_of h
   obtain ⟨x9, x9e, h⟩ := letO_of h
   refine ap (.str x9) Z Z Z (APure.eq (pu_strSliceM Z underlying9 (tm Z) ⟨_, (tm Z)⟩ ⟨_, (tm Z)⟩ c8) (congrArg (AV.str) x9e.symm)) (ap (.str x9) Z Z Z (pu_assign Z (tm Z)) (aops_nil (aw_ret ?_)))
   obtain rfl := some_of h
   exact ⟨[.str x9], _, [], ⟨(tm Z), trivial⟩, (AV.Le.refl _), Weak.mkL [] (by decide) trivial trivial, ⟨Z, Z⟩⟩
  ·replace h := ite_f (dec_f hb14) h
   refine aw_skip (aw_seq ?_)
   obtain ⟨r10, r10e, h⟩ := bind_some h
   obtain ⟨c11, h⟩ := need_of h
   obtain ⟨x12, x12e, h⟩ := letO_of h
   obtain ⟨c13, h⟩ := need_of h
   refine aw_plan (by decide +kernel) [([], some 15, [0]), ([0], some 16, [15]), ([1], some 17, [16]), ([], some 18, [3]), ([], some 19, [4]), ([], some 20, [4]), ([5], some 21, [20]), ([3, 4, 6], some 22, [18, 19, 21]), ([2, 7], some 23, [17, 22]), ([8, 2, 0, 1, 2, 3, 4, 5, 6, 7, 8], some 2, [23])] Z [[], [0], [0, 1], [], [], [], [5], [3, 4, 5, 6], [0, 1, 2, 3, 4, 5, 6, 7], [0, 1, 2, 3, 4, 5, 6, 7, 8]] [[], [], [], [], [], [], [], [], [], []] [] [] [.int .i64 n_, .int .i64 (IntKind.wrap .i64 (n_.tdiv 10)), .str r10, .str [48, 49, 50, 51, 52, 53, 54, 55, 56, 57], .int .i64 (IntKind.wrap .i64 (0 - (n_.tmod 10))), .int .i64 (IntKind.wrap .i64 (0 - (n_.tmod 10))), .int .i64 (IntKind.wrap .i64 ((IntKind.wrap .i64 (0 - (n_.tmod 10))) + 1)), .str x12, .str (r10 ++ x12), .str (r10 ++ x12)] (by decide +kernel) Z Z ?_ ?_
   ·refine ⟨⟨[0], Z, stepg_pure Z (pu_move Z (tm Z))⟩, ?_⟩
    refine ⟨⟨[15], Z, stepg_pure Z (pu_quo Z (tm Z) (AEv.int _ _) (by decide))⟩, ?_⟩
    refine ⟨⟨[16], Z, stepg_plain Z (op_call (vs := [.int .i64 (IntKind.wrap .i64 (n_.tdiv 10))]) (H := []) Z call81 ⟨(tm Z), trivial⟩ (R := []) (List.Perm.refl _) (ih r10e) (by rintro _ _ ⟨rfl, rfl⟩; exact ⟨Z, Z⟩))⟩, ?_⟩
    refine ⟨⟨[3], Z, stepg_pure Z (pu_move Z (tm Z))⟩, ?_⟩
    refine ⟨⟨[4], Z, stepg_pure Z (pu_move Z (tm Z))⟩, ?_⟩
    refine ⟨⟨[4], Z, stepg_pure Z (pu_move Z (tm Z))⟩, ?_⟩
    refine ⟨⟨[20], Z, stepg_pure Z (pu_int (v := .int .i64 (IntKind.wrap .i64 ((IntKind.wrap .i64 (0 - (n_.tmod 10))) + 1))) Z Z (tm Z) (AEv.int _ _) Z)⟩, ?_⟩
    refine ⟨⟨[18, 19, 21], Z, stepg_pure Z (APure.eq (pu_strSliceM Z underlying9 (tm Z) ⟨_, (tm Z)⟩ ⟨_, (tm Z)⟩ c11) (congrArg (AV.str) x12e.symm))⟩, ?_⟩
    refine ⟨⟨[17, 22], Z, stepg_pure Z (pu_strAdd Z (tm Z) (tm Z) c13)⟩, ?_⟩
    refine ⟨⟨[23], Z, stepg_pure Z (pu_assign Z (tm Z))⟩, ?_⟩
    trivial
   refine aw_ret ?_
   obtain rfl := some_of h
   exact ⟨[.str (r10 ++ x12)], _, [], ⟨(tm Z), trivial⟩, (AV.Le.refl _), Weak.mkL [] (by decide) trivial trivial, ⟨Z, Z⟩⟩

theorem mewsref01.digits.ok {n_ : Int} {r : List UInt8} (h : mewsref01.digits n_ = some r) : Go.Lift.Spec prog 81 [.int .i64 n_] [] (fun v H => v = .str r ∧ H = []) := by
 obtain ⟨kk, hk⟩ := fixO_some h
 exact mewsref01.digits.rec.ok kk hk

theorem mewsref01.Text.ok {n_ : Int} {r : List UInt8} (h : mewsref01.Text n_ = some r) : Go.Lift.Spec prog 57 [.int .i64 n_] [] (fun v H => v = .str r ∧ H = []) := by
 unfold mewsref01.Text at h
 refine Go.Lift.Spec.of_body (rs := [.tmp 2]) func57 Z Z (Nat.le_of_ble_eq_true Z) Z (aw_seq (aw_region (ap (.str ([] : List UInt8)) Z Z Z (pu_assign Z (AEv.const Z)) (aops_nil (aw_seq (aw_seq (aw_region (ap (.int .i64 n_) Z Z Z (pu_move Z (tm Z)) (ap (.bool (decide (n_ < 0))) Z Z Z (pu_int (v := .bool (decide (n_ < 0))) Z Z (tm Z) (AEv.int _ _) Z) ?_)))))))))
 refine aops_nil (aw_cond (b := decide (n_ < 0)) (tm Z) (fun hb8 => ?_) (fun hb8 => ?_))
 ·replace h := ite_t (dec_t hb8) h
  refine aw_seq (aw_region (ap (.int .i64 n_) Z Z Z (pu_move Z (tm Z)) ?_))
  obtain ⟨r5, r5e, h⟩ := bind_some h
  refine ac Z Z Z (op_call (vs := [.int .i64 n_]) (H := []) Z call81 ⟨(tm Z), trivial⟩ (List.Perm.refl _) (mewsref01.digits.ok r5e) ?_)
  rintro _ _ ⟨rfl, rfl⟩
  obtain ⟨c6, h⟩ := need_of h
  refine ap (.str ([45] ++ r5)) Z Z Z (pu_strAdd Z (AEv.const Z) (tm Z) c6) (ap (.str ([45] ++ r5)) Z Z Z (pu_assign Z (tm Z)) (aops_nil (aw_ret ?_)))
  obtain rfl := some_of h
  exact ⟨[.str ([45] ++ r5)], _, [], ⟨(tm Z), trivial⟩, (AV.Le.refl _), Weak.mkL [] (by decide) trivial trivial, ⟨Z, Z⟩⟩
 ·replace h := ite_f (dec_f hb8) h
  refine aw_skip (aw_seq (aw_region (ap (.int .i64 n_) Z Z Z (pu_move Z (tm Z)) (ap (.int .i64 (IntKind.wrap .i64 (0 - n_))) Z Z Z (pu_neg Z (tm Z)) ?_))))
  obtain ⟨r7, r7e, h⟩ := bind_some h
  refine ac Z Z Z (op_call (vs := [.int .i64 (IntKind.wrap .i64 (0 - n_))]) (H := []) Z call81 ⟨(tm Z), trivial⟩ (List.Perm.refl _) (mewsref01.digits.ok r7e) ?_)
  rintro _ _ ⟨rfl, rfl⟩
  refine ap (.str r7) Z Z Z (pu_assign Z (tm Z)) (aops_nil (aw_ret ?_))
  obtain rfl := some_of h
  exact ⟨[.str r7], _, [], ⟨(tm Z), trivial⟩, (AV.Le.refl _), Weak.mkL [] (by decide) trivial trivial, ⟨Z, Z⟩⟩

theorem mewsref01.Parse.ok {s_ : List UInt8} {r : Int × Bool} (h : mewsref01.Parse s_ = some r) : Go.Lift.Spec prog 92 [.str s_] [] (fun v H => v = .tup [.int .i64 r.1, .bool r.2] ∧ H = []) := by
 unfold mewsref01.Parse at h
 refine Go.Lift.Spec.of_body (rs := [.tmp 2, .tmp 3]) func92 Z Z (Nat.le_of_ble_eq_true Z) Z (aw_seq (aw_region (ap (.int .i64 0) Z Z Z (pu_assign Z (AEv.int _ _)) (ap (.bool false) Z Z Z (pu_assign Z (AEv.bool _)) (aops_nil ?_)))))
 obtain ⟨s309, s309e, h310⟩ := bind_some h
 refine aw_meet (ν := Unit) (fun v => [(0, .str s_), (4, .bool s309)]) (fun v => []) ?_ ?_
 ·have h := s309e
  refine aw_region (ap (.str s_) Z Z Z (pu_move Z (tm Z)) (ap (.int .i64 (s_.length : Int)) Z Z Z (pu_strLen Z underlying9 (tm Z)) (ap (.bool (decide (0 < (s_.length : Int)))) Z Z Z (pu_int (v := .bool (decide (0 < (s_.length : Int)))) Z Z (tm Z) (AEv.int _ _) Z) (ap (.bool (decide (0 < (s_.length : Int)))) Z Z Z (pu_move Z (tm Z)) ?_))))
  rcases Bool.eq_false_or_eq_true (decide (0 < (s_.length : Int))) with hb312 | hb312
  ·replace h := ite_t (dec_t hb312) h
   refine aops_known 11 Z hb312 (agp (.str s_) Z Z Z Z Z Z Z (pu_move Z (tm Z)) ?_)
   obtain ⟨c313, h⟩ := need_of h
   refine agp (.int .u8 (bix s_ 0)) Z Z Z Z Z Z Z (pu_strIdxM Z underlying9 (tm Z) (AEv.int _ _) c313) (agp (.bool (decide ((bix s_ 0) = 45))) Z Z Z Z Z Z Z (pu_int (v := .bool (decide ((bix s_ 0) = 45))) Z Z (tm Z) (AEv.int _ _) Z) (ap (.bool (decide ((bix s_ 0) = 45))) Z Z Z (pu_pick (b := true) Z (tm Z) (fun _ => (tm Z)) (fun h => nomatch h)) (ap (.bool (decide ((bix s_ 0) = 45))) Z Z Z (pu_assign Z (tm Z)) (aops_nil ?_))))
   obtain rfl := some_of h
   exact ⟨(), Weak.mkL [] (by decide) trivial ⟨AEv.tmp Z, (AEv.le (tm Z) (AV.Le.refl _)), trivial⟩⟩
  ·replace h := ite_f (dec_f hb312) h
   refine aops_known 11 Z hb312 (an Z Z Z Z Z Z Z Z (an Z Z Z Z Z Z Z Z (an Z Z Z Z Z Z Z Z (ap (.bool false) Z Z Z (pu_pick (b := false) Z (tm Z) (fun h => nomatch h) (fun _ => (AEv.bool _))) (ap (.bool false) Z Z Z (pu_assign Z (tm Z)) (aops_nil ?_))))))
   obtain rfl := some_of h
   exact ⟨(), Weak.mkL [] (by decide) trivial ⟨AEv.tmp Z, AEv.tmp Z, trivial⟩⟩
 ·intro _
  have h := h310
  refine aw_seq (aw_region (ap (.int .i64 0) Z Z Z (pu_assign Z (AEv.int _ _)) (aops_nil ?_)))
  obtain ⟨s612, s612e, h456⟩ := bind_some h
  refine aw_join (σ := Int) (ν := Unit) (fun u v => [(0, .str s_), (4, .bool s309), (5, .int .i64 u)]) (fun u v => []) (fun u => s612 = .inl u) ?_ ?_
  ·intro s455
   intro _
   rintro rfl
   have h := onSum_inl h456
   refine aw_seq ?_
   obtain ⟨s600, s600e, h601⟩ := letO_of h
   refine aw_meet (ν := Unit) (fun v => [(0, .str s_), (4, .bool s309), (5, .int .i64 s455), (56, .bool s600)]) (fun v => []) ?_ ?_
   ·have h := s600e.symm
    refine aw_region (ap (.bool s309) Z Z Z (pu_move Z (tm Z)) (ap (.bool (!s309)) Z Z Z (pu_not Z (tm Z)) (ap (.bool (!s309)) Z Z Z (pu_move Z (tm Z)) ?_)))
    rcases Bool.eq_false_or_eq_true (!s309) with hb603 | hb603
    ·replace h := ite_t hb603 h
     refine aops_known 53 Z hb603 (agp (.int .i64 s455) Z Z Z Z Z Z Z (pu_move Z (tm Z)) (agp (.bool (decide (s455 = (-9223372036854775808)))) Z Z Z Z Z Z Z (pu_int (v := .bool (decide (s455 = (-9223372036854775808)))) Z Z (tm Z) (AEv.int _ _) Z) (ap (.bool (decide (s455 = (-9223372036854775808)))) Z Z Z (pu_pick (b := true) Z (tm Z) (fun _ => (tm Z)) (fun h => nomatch h)) (aops_nil ?_))))
     subst h
     exact ⟨(), Weak.mkL [] (by decide) trivial ⟨AEv.tmp Z, AEv.tmp Z, AEv.tmp Z, (AEv.le (tm Z) (AV.Le.refl _)), trivial⟩⟩
    ·replace h := ite_fb hb603 h
     refine aops_known 53 Z hb603 (an Z Z Z Z Z Z Z Z (an Z Z Z Z Z Z Z Z (ap (.bool false) Z Z Z (pu_pick (b := false) Z (tm Z) (fun h => nomatch h) (fun _ => (AEv.bool _))) (aops_nil ?_))))
     subst h
     exact ⟨(), Weak.mkL [] (by decide) trivial ⟨AEv.tmp Z, AEv.tmp Z, AEv.tmp Z, AEv.tmp Z, trivial⟩⟩
   ·intro _
    have h := h601
    refine aw_cond (b := s600) (tm Z) (fun hb611 => ?_) (fun hb611 => ?_)
    ·replace h := ite_t hb611 h
     refine aw_seq (aw_region (ap (.int .i64 0) Z Z Z (pu_assign Z (AEv.int _ _)) (ap (.bool false) Z Z Z (pu_assign Z (AEv.bool _)) (aops_nil (aw_ret ?_)))))
     obtain rfl := some_of h
     exact ⟨[.int .i64 0, .bool false], _, [], ⟨(tm Z), (tm Z), trivial⟩, (AV.Le.refl _), Weak.mkL [] (by decide) trivial trivial, ⟨Z, Z⟩⟩
    ·replace h := ite_fb hb611 h
     refine aw_skip ?_
     obtain ⟨s605, s605e, h606⟩ := letO_of h
     refine aw_meet (ν := Unit) (fun v => [(0, .str s_), (5, .int .i64 s605)]) (fun v => []) ?_ ?_
     ·have h := s605e.symm
      refine aw_seq (aw_region (ap (.bool s309) Z Z Z (pu_move Z (tm Z)) (ap (.bool (!s309)) Z Z Z (pu_not Z (tm Z)) (aops_nil (aw_cond (b := (!s309)) (tm Z) (fun hb608 => ?_) (fun hb608 => ?_))))))
      ·replace h := ite_t hb608 h
       refine aw_region (ap (.int .i64 s455) Z Z Z (pu_move Z (tm Z)) (ap (.int .i64 (IntKind.wrap .i64 (0 - s455))) Z Z Z (pu_neg Z (tm Z)) (ap (.int .i64 (IntKind.wrap .i64 (0 - s455))) Z Z Z (pu_assign Z (tm Z)) (aops_nil ?_))))
       subst h
       exact ⟨(), Weak.mkL [] (by decide) trivial ⟨AEv.tmp Z, (AEv.le (tm Z) (AV.Le.refl _)), trivial⟩⟩
      ·replace h := ite_fb hb608 h
       refine aw_skip ?_
       subst h
       exact ⟨(), Weak.mkL [] (by decide) trivial ⟨AEv.tmp Z, AEv.tmp Z, trivial⟩⟩
     ·intro _
      have h := h606
      refine aw_seq (aw_seq (aw_region (ap (.int .i64 s605) Z Z Z (pu_move Z (tm Z)) ?_)))
      obtain ⟨r609, r609e, h⟩ := bind_some h
      refine ac Z Z Z (op_call (vs := [.int .i64 s605]) (H := []) Z call57 ⟨(tm Z), trivial⟩ (List.Perm.refl _) (mewsref01.Text.ok r609e) ?_)
      rintro _ _ ⟨rfl, rfl⟩
      refine ap (.str s_) Z Z Z (pu_move Z (tm Z)) (ap (.bool (!decide (r609 = s_))) Z Z Z (pu_str (v := .bool (!decide (r609 = s_))) Z Z (tm Z) (tm Z) Z) (aops_nil (aw_cond (b := (!decide (r609 = s_))) (tm Z) (fun hb610 => ?_) (fun hb610 => ?_))))
      ·replace h := ite_f (ndec_t hb610) h
       refine aw_seq (aw_region (ap (.int .i64 0) Z Z Z (pu_assign Z (AEv.int _ _)) (ap (.bool false) Z Z Z (pu_assign Z (AEv.bool _)) (aops_nil (aw_ret ?_)))))
       obtain rfl := some_of h
       exact ⟨[.int .i64 0, .bool false], _, [], ⟨(tm Z), (tm Z), trivial⟩, (AV.Le.refl _), Weak.mkL [] (by decide) trivial trivial, ⟨Z, Z⟩⟩
      ·replace h := ite_t (ndec_f hb610) h
       refine aw_skip (aw_seq (aw_region (ap (.int .i64 s605) Z Z Z (pu_move Z (tm Z)) (ap (.int .i64 s605) Z Z Z (pu_assign Z (tm Z)) (ap (.bool true) Z Z Z (pu_assign Z (AEv.bool _)) (aops_nil (aw_ret ?_)))))))
       obtain rfl := some_of h
       exact ⟨[.int .i64 s605, .bool true], _, [], ⟨(tm Z), (tm Z), trivial⟩, (AV.Le.refl _), Weak.mkL [] (by decide) trivial trivial, ⟨Z, Z⟩⟩
  ·have h := s612e
   refine aw_seq (aw_region (ap (.int .i64 0) Z Z Z (pu_assign Z (AEv.int _ _)) (aops_nil (aw_block (aw_while (σ := mewsref01.Parse.S0) (ν := Unit) (mewsref01.Parse.body0 s_ s309) (fun s550 v => [(0, .str s_), (4, .bool s309), (5, .int .i64 s550.n), (6, .int .i64 s550.i)]) (fun s550 v => []) ⟨0, 0⟩ () _ h (Weak.mkL [] (by decide) trivial ⟨AEv.tmp Z, AEv.tmp Z, AEv.tmp Z, AEv.tmp Z, trivial⟩) ?_)))))
   rintro s550 _ x552 h hx551
   unfold mewsref01.Parse.body0 at h
   refine aw_seq (aw_seq (aw_region (ap (.int .i64 s550.i) Z Z Z (pu_move Z (tm Z)) (ap (.str s_) Z Z Z (pu_move Z (tm Z)) (ap (.int .i64 (s_.length : Int)) Z Z Z (pu_strLen Z underlying9 (tm Z)) (ap (.bool (decide (s550.i < (s_.length : Int)))) Z Z Z (pu_int (v := .bool (decide (s550.i < (s_.length : Int)))) Z Z (tm Z) (tm Z) Z) (aops_nil (aw_cond (b := decide (s550.i < (s_.length : Int))) (tm Z) (fun hb598 => ?_) (fun hb598 => ?_)))))))))
   ·replace h := ite_t (dec_t hb598) h
    refine aw_skip ?_
    obtain ⟨s597, s597e, h575⟩ := bind_some h
    refine aw_join (σ := Int) (ν := Unit) (fun u v => [(0, .str s_), (4, .bool s309), (5, .int .i64 u), (6, .int .i64 s550.i)]) (fun u v => []) (fun u => s597 = .inl u) ?_ ?_
    ·intro s574
     intro _
     rintro rfl
     have h := onSum_inl h575
     refine aw_region (ap (.int .i64 s550.i) Z Z Z (pu_move Z (tm Z)) (ap (.int .i64 (IntKind.wrap .i64 (s550.i + 1))) Z Z Z (pu_int (v := .int .i64 (IntKind.wrap .i64 (s550.i + 1))) Z Z (tm Z) (AEv.int _ _) Z) (ap (.int .i64 (IntKind.wrap .i64 (s550.i + 1))) Z Z Z (pu_assign Z (tm Z)) (aops_nil ?_))))
     obtain rfl := some_of h
     exact ⟨_, (), Z, Weak.mkL [] (by decide) trivial ⟨AEv.tmp Z, AEv.tmp Z, AEv.tmp Z, (AEv.le (tm Z) (AV.Le.refl _)), trivial⟩⟩
    ·have h := s597e
     refine aw_block (aw_seq ?_)
     obtain ⟨s578, s578e, h579⟩ := letO_of h
     refine aw_meet (ν := Unit) (fun v => [(0, .str s_), (4, .bool s309), (5, .int .i64 s550.n), (6, .int .i64 s550.i), (26, .bool s578)]) (fun v => []) ?_ ?_
     ·have h := s578e.symm
      refine aw_region (ap (.int .i64 s550.i) Z Z Z (pu_move Z (tm Z)) (ap (.bool (decide (s550.i = 0))) Z Z Z (pu_int (v := .bool (decide (s550.i = 0))) Z Z (tm Z) (AEv.int _ _) Z) (ap (.bool (decide (s550.i = 0))) Z Z Z (pu_move Z (tm Z)) ?_)))
      rcases Bool.eq_false_or_eq_true (decide (s550.i = 0)) with hb581 | hb581
      ·replace h := ite_t (dec_t hb581) h
       refine aops_known 24 Z hb581 (agp (.bool s309) Z Z Z Z Z Z Z (pu_move Z (tm Z)) (ap (.bool s309) Z Z Z (pu_pick (b := true) Z (tm Z) (fun _ => (tm Z)) (fun h => nomatch h)) (aops_nil ?_)))
       subst h
       exact ⟨(), Weak.mkL [] (by decide) trivial ⟨AEv.tmp Z, AEv.tmp Z, AEv.tmp Z, AEv.tmp Z, AEv.tmp Z, trivial⟩⟩
      ·replace h := ite_f (dec_f hb581) h
       refine aops_known 24 Z hb581 (an Z Z Z Z Z Z Z Z (ap (.bool false) Z Z Z (pu_pick (b := false) Z (tm Z) (fun h => nomatch h) (fun _ => (AEv.bool _))) (aops_nil ?_)))
       subst h
       exact ⟨(), Weak.mkL [] (by decide) trivial ⟨AEv.tmp Z, AEv.tmp Z, AEv.tmp Z, AEv.tmp Z, AEv.tmp Z, trivial⟩⟩
     ·intro _
      have h := h579
      refine aw_cond (b := s578) (tm Z) (fun hb596 => ?_) (fun hb596 => ?_)
      ·replace h := ite_t hb596 h
       refine aw_exit ?_
       exact ⟨s550.n, (), (some_of h).symm, Weak.mkL [] (by decide) trivial ⟨AEv.tmp Z, AEv.tmp Z, AEv.tmp Z, AEv.tmp Z, trivial⟩⟩
      ·replace h := ite_fb hb596 h
       refine aw_skip (aw_seq ?_)
       obtain ⟨s585, s585e, h586⟩ := bind_some h
       refine aw_meet (ν := Unit) (fun v => [(0, .str s_), (4, .bool s309), (5, .int .i64 s550.n), (6, .int .i64 s550.i), (36, .bool s585)]) (fun v => []) ?_ ?_
       ·have h := s585e
        refine aw_region (ap (.str s_) Z Z Z (pu_move Z (tm Z)) (ap (.int .i64 s550.i) Z Z Z (pu_move Z (tm Z)) ?_))
        obtain ⟨c588, h⟩ := need_of h
        refine ap (.int .u8 (bix s_ s550.i)) Z Z Z (pu_strIdxM Z underlying9 (tm Z) (tm Z) c588) (ap (.bool (decide ((bix s_ s550.i) < 48))) Z Z Z (pu_int (v := .bool (decide ((bix s_ s550.i) < 48))) Z Z (tm Z) (AEv.int _ _) Z) (ap (.bool (decide ((bix s_ s550.i) < 48))) Z Z Z (pu_move Z (tm Z)) ?_))
        rcases Bool.eq_false_or_eq_true (decide ((bix s_ s550.i) < 48)) with hb589 | hb589
        ·replace h := ite_t (dec_t hb589) h
         refine aops_known 31 Z hb589 (an Z Z Z Z Z Z Z Z (an Z Z Z Z Z Z Z Z (an Z Z Z Z Z Z Z Z (an Z Z Z Z Z Z Z Z (ap (.bool true) Z Z Z (pu_pick (b := true) Z (tm Z) (fun _ => (AEv.bool _)) (fun h => nomatch h)) (aops_nil ?_))))))
         obtain rfl := some_of h
         exact ⟨(), Weak.mkL [] (by decide) trivial ⟨AEv.tmp Z, AEv.tmp Z, AEv.tmp Z, AEv.tmp Z, AEv.tmp Z, trivial⟩⟩
        ·replace h := ite_f (dec_f hb589) h
         refine aops_known 31 Z hb589 (agp (.str s_) Z Z Z Z Z Z Z (pu_move Z (tm Z)) (agp (.int .i64 s550.i) Z Z Z Z Z Z Z (pu_move Z (tm Z)) ?_))
         obtain ⟨c590, h⟩ := need_of h
         refine agp (.int .u8 (bix s_ s550.i)) Z Z Z Z Z Z Z (pu_strIdxM Z underlying9 (tm Z) (tm Z) c590) (agp (.bool (decide (57 < (bix s_ s550.i)))) Z Z Z Z Z Z Z (pu_int (v := .bool (decide (57 < (bix s_ s550.i)))) Z Z (tm Z) (AEv.int _ _) Z) (ap (.bool (decide (57 < (bix s_ s550.i)))) Z Z Z (pu_pick (b := false) Z (tm Z) (fun h => nomatch h) (fun _ => (tm Z))) (aops_nil ?_)))
         obtain rfl := some_of h
         exact ⟨(), Weak.mkL [] (by decide) trivial ⟨AEv.tmp Z, AEv.tmp Z, AEv.tmp Z, AEv.tmp Z, (AEv.le (tm Z) (AV.Le.refl _)), trivial⟩⟩
       ·intro _
        have h := h586
        refine aw_cond (b := s585) (tm Z) (fun hb595 => ?_) (fun hb595 => ?_)
        ·replace h := ite_t hb595 h
         refine aw_seq (aw_region (ap (.int .i64 0) Z Z Z (pu_assign Z (AEv.int _ _)) (ap (.bool false) Z Z Z (pu_assign Z (AEv.bool _)) (aops_nil (aw_ret ?_)))))
         obtain rfl := some_of h
         have h := onSum_inr h575
         obtain rfl := some_of h
         have h := congrArg some (hx551 _ rfl)
         obtain rfl := some_of h
         have h := onSum_inr h456
         obtain rfl := some_of h
         exact ⟨[.int .i64 0, .bool false], _, [], ⟨(tm Z), (tm Z), trivial⟩, (AV.Le.refl _), Weak.mkL [] (by decide) trivial trivial, ⟨Z, Z⟩⟩
        ·replace h := ite_fb hb595 h
         refine aw_skip (aw_seq (aw_region (ap (.str s_) Z Z Z (pu_move Z (tm Z)) (ap (.int .i64 s550.i) Z Z Z (pu_move Z (tm Z)) ?_))))
         obtain ⟨c591, h⟩ := need_of h
         refine ap (.int .u8 (bix s_ s550.i)) Z Z Z (pu_strIdxM Z underlying9 (tm Z) (tm Z) c591) (ap (.int .u8 (IntKind.wrap .u8 ((bix s_ s550.i) - 48))) Z Z Z (pu_int (v := .int .u8 (IntKind.wrap .u8 ((bix s_ s550.i) - 48))) Z Z (tm Z) (AEv.int _ _) Z) (ap (.int .i64 (IntKind.wrap .i64 (IntKind.wrap .u8 ((bix s_ s550.i) - 48)))) Z Z Z (pu_conv Z underlying5 underlying2 (tm Z)) (ap (.int .i64 (IntKind.wrap .i64 (IntKind.wrap .u8 ((bix s_ s550.i) - 48)))) Z Z Z (pu_assign Z (tm Z)) (aops_nil (aw_seq (aw_seq (aw_region (ap (.int .i64 s550.n) Z Z Z (pu_move Z (tm Z)) (ap (.int .i64 (IntKind.wrap .i64 (IntKind.wrap .u8 ((bix s_ s550.i) - 48)))) Z Z Z (pu_move Z (tm Z)) ?_)))))))))
         refine ap (.int .i64 (IntKind.wrap .i64 ((-9223372036854775808) + (IntKind.wrap .i64 (IntKind.wrap .u8 ((bix s_ s550.i) - 48)))))) Z Z Z (pu_int (v := .int .i64 (IntKind.wrap .i64 ((-9223372036854775808) + (IntKind.wrap .i64 (IntKind.wrap .u8 ((bix s_ s550.i) - 48)))))) Z Z (AEv.int _ _) (tm Z) Z) ?_
         obtain ⟨x592, x592e, h⟩ := letO_of h
         refine ap (.int .i64 x592) Z Z Z (APure.eq (pu_quo Z (tm Z) (AEv.int _ _) (by decide)) (congrArg (AV.int .i64) x592e.symm)) (ap (.bool (decide (s550.n < x592))) Z Z Z (pu_int (v := .bool (decide (s550.n < x592))) Z Z (tm Z) (tm Z) Z) (aops_nil (aw_cond (b := decide (s550.n < x592)) (tm Z) (fun hb594 => ?_) (fun hb594 => ?_))))
         ·replace h := ite_t (dec_t hb594) h
          refine aw_seq (aw_region (ap (.int .i64 0) Z Z Z (pu_assign Z (AEv.int _ _)) (ap (.bool false) Z Z Z (pu_assign Z (AEv.bool _)) (aops_nil (aw_ret ?_)))))
          obtain rfl := some_of h
          have h := onSum_inr h575
          obtain rfl := some_of h
          have h := congrArg some (hx551 _ rfl)
          obtain rfl := some_of h
          have h := onSum_inr h456
          obtain rfl := some_of h
          exact ⟨[.int .i64 0, .bool false], _, [], ⟨(tm Z), (tm Z), trivial⟩, (AV.Le.refl _), Weak.mkL [] (by decide) trivial trivial, ⟨Z, Z⟩⟩
         ·replace h := ite_f (dec_f hb594) h
          refine aw_skip (aw_region (ap (.int .i64 s550.n) Z Z Z (pu_move Z (tm Z)) (ap (.int .i64 (IntKind.wrap .i64 (s550.n * 10))) Z Z Z (pu_int (v := .int .i64 (IntKind.wrap .i64 (s550.n * 10))) Z Z (tm Z) (AEv.int _ _) Z) (ap (.int .i64 (IntKind.wrap .i64 (IntKind.wrap .u8 ((bix s_ s550.i) - 48)))) Z Z Z (pu_move Z (tm Z)) ?_))))
          obtain ⟨x593, x593e, h⟩ := letO_of h
          refine ap (.int .i64 x593) Z Z Z (APure.eq (pu_int (v := .int .i64 (IntKind.wrap .i64 ((IntKind.wrap .i64 (s550.n * 10)) - (IntKind.wrap .i64 (IntKind.wrap .u8 ((bix s_ s550.i) - 48)))))) Z Z (tm Z) (tm Z) Z) (congrArg (AV.int .i64) x593e.symm)) (ap (.int .i64 x593) Z Z Z (pu_assign Z (tm Z)) (aops_nil ?_))
          exact ⟨x593, (), (some_of h).symm, Weak.mkL [] (by decide) trivial ⟨AEv.tmp Z, AEv.tmp Z, AEv.tmp Z, AEv.tmp Z, trivial⟩⟩
   ·replace h := ite_f (dec_f hb598) h
    refine aw_exit ?_
    obtain rfl := some_of h
    have h := congrArg some (hx551 _ rfl)
    exact ⟨s550.n, (), (some_of h).symm, Weak.mkL [] (by decide) trivial ⟨AEv.tmp Z, AEv.tmp Z, AEv.tmp Z, trivial⟩⟩

theorem mewsref05.first.ok {s_ : List UInt8} {mark : Int} {most : Int} {over : Int} {r : Int × Int × Int} (h : mewsref05.first s_ mark most over = some r) : Go.Lift.Spec prog 78 [.str s_, .int .u8 mark, .int .i64 most, .int .i64 over] [] (fun v H => v = .tup [.int .i64 r.1, .int .i64 r.2.1, .int .i64 r.2.2] ∧ H = []) := by
 unfold mewsref05.first at h
 refine Go.Lift.Spec.of_body (rs := [.tmp 8, .tmp 9, .tmp 10]) func78 Z Z (Nat.le_of_ble_eq_true Z) Z (aw_seq (aw_region (ap (.int .i64 0) Z Z Z (pu_assign Z (AEv.int _ _)) (ap (.int .i64 0) Z Z Z (pu_assign Z (AEv.int _ _)) (ap (.int .i64 0) Z Z Z (pu_assign Z (AEv.int _ _)) (aops_nil (aw_seq (aw_seq (aw_region ?_)))))))))
 refine ap (.str s_) Z Z Z (pu_move Z (tm Z)) (ap (.bool (decide (s_ = ([] : List UInt8)))) Z Z Z (pu_str (v := .bool (decide (s_ = ([] : List UInt8)))) Z Z (tm Z) (AEv.const Z) Z) (aops_nil (aw_cond (b := decide (s_ = ([] : List UInt8))) (tm Z) (fun hb404 => ?_) (fun hb404 => ?_))))
 ·replace h := ite_t (dec_t hb404) h
  refine aw_seq (aw_region (ap (.int .i64 0) Z Z Z (pu_assign Z (AEv.int _ _)) (ap (.int .i64 0) Z Z Z (pu_assign Z (AEv.int _ _)) (ap (.int .i64 (-1)) Z Z Z (pu_assign Z (AEv.int _ _)) (aops_nil (aw_ret ?_))))))
  obtain rfl := some_of h
  exact ⟨[.int .i64 0, .int .i64 0, .int .i64 (-1)], _, [], ⟨(tm Z), (tm Z), (tm Z), trivial⟩, (AV.Le.refl _), Weak.mkL [] (by decide) trivial trivial, ⟨Z, Z⟩⟩
 ·replace h := ite_f (dec_f hb404) h
  refine aw_skip (aw_seq (aw_seq (aw_region (ap (.str s_) Z Z Z (pu_move Z (tm Z)) ?_))))
  obtain ⟨c203, h⟩ := need_of h
  refine ap (.int .u8 (bix s_ 0)) Z Z Z (pu_strIdxM Z underlying9 (tm Z) (AEv.int _ _) c203) (ap (.int .u8 mark) Z Z Z (pu_move Z (tm Z)) (ap (.bool (!decide ((bix s_ 0) = mark))) Z Z Z (pu_int (v := .bool (!decide ((bix s_ 0) = mark))) Z Z (tm Z) (tm Z) Z) (aops_nil (aw_cond (b := (!decide ((bix s_ 0) = mark))) (tm Z) (fun hb403 => ?_) (fun hb403 => ?_)))))
  ·replace h := ite_f (ndec_t hb403) h
   refine aw_seq (aw_region (ap (.int .i64 0) Z Z Z (pu_assign Z (AEv.int _ _)) (ap (.int .i64 0) Z Z Z (pu_assign Z (AEv.int _ _)) (ap (.int .i64 5) Z Z Z (pu_assign Z (AEv.int _ _)) (aops_nil (aw_ret ?_))))))
   obtain rfl := some_of h
   exact ⟨[.int .i64 0, .int .i64 0, .int .i64 5], _, [], ⟨(tm Z), (tm Z), (tm Z), trivial⟩, (AV.Le.refl _), Weak.mkL [] (by decide) trivial trivial, ⟨Z, Z⟩⟩
  ·replace h := ite_t (ndec_f hb403) h
   refine aw_skip (aw_seq (aw_region (ap (.int .i64 1) Z Z Z (pu_assign Z (AEv.int _ _)) (aops_nil ?_))))
   obtain ⟨s402, s402e, h295⟩ := bind_some h
   refine aw_join (σ := Int) (ν := Unit) (fun u v => [(0, .str s_), (11, .int .i64 u)]) (fun u v => []) (fun u => s402 = .inl u) ?_ ?_
   ·intro s294
    intro _
    rintro rfl
    have h := onSum_inl h295
    refine aw_seq (aw_region (ap (.str s_) Z Z Z (pu_move Z (tm Z)) (ap (.int .i64 s294) Z Z Z (pu_move Z (tm Z)) ?_)))
    obtain ⟨c387, h⟩ := need_of h
    refine ap (.str (sub s_ 1 s294)) Z Z Z (pu_strSliceM Z underlying9 (tm Z) ⟨_, (AEv.int _ _)⟩ ⟨_, (tm Z)⟩ c387) ?_
    obtain ⟨r388, r388e, h⟩ := bind_some h
    refine ac Z Z Z (op_call (vs := [.str (sub s_ 1 s294)]) (H := []) Z call92 ⟨(tm Z), trivial⟩ (List.Perm.refl _) (mewsref01.Parse.ok r388e) ?_)
    rintro _ _ ⟨rfl, rfl⟩
    refine ap (.tup [.int .i64 r388.1, .bool r388.2]) Z Z Z (pu_move Z (tm Z)) (ap (.int .i64 r388.1) Z Z Z (pu_extract Z (tm Z) (Nat.le_of_ble_eq_true Z) Z) (ap (.bool r388.2) Z Z Z (pu_extract Z (tm Z) (Nat.le_of_ble_eq_true Z) Z) (ap (.int .i64 r388.1) Z Z Z (pu_assign Z (tm Z)) (ap (.bool r388.2) Z Z Z (pu_assign Z (tm Z)) (aops_nil (aw_seq (aw_region (ap (.str s_) Z Z Z (pu_move Z (tm Z)) (ap (.int .i64 s294) Z Z Z (pu_move Z (tm Z)) ?_)))))))))
    obtain ⟨c389, h⟩ := need_of h
    refine ap (.str (sub s_ s294 (s_.length : Int))) Z Z Z (pu_strSliceM Z underlying9 (tm Z) ⟨_, (tm Z)⟩ Z c389) (ap (.str (sub s_ s294 (s_.length : Int))) Z Z Z (pu_assign Z (tm Z)) (aops_nil (aw_seq (aw_block (aw_seq (aw_region (ap (.str (sub s_ s294 (s_.length : Int))) Z Z Z (pu_move Z (tm Z)) (ap (.bool (decide ((sub s_ s294 (s_.length : Int)) = ([] : List UInt8)))) Z Z Z (pu_str (v := .bool (decide ((sub s_ s294 (s_.length : Int)) = ([] : List UInt8)))) Z Z (tm Z) (AEv.const Z) Z) (ap (.bool (decide ((sub s_ s294 (s_.length : Int)) = ([] : List UInt8)))) Z Z Z (pu_assign Z (tm Z)) ?_)))))))))
    refine aops_nil (aw_cond (b := decide ((sub s_ s294 (s_.length : Int)) = ([] : List UInt8))) (tm Z) (fun hb401 => ?_) (fun hb401 => ?_))
    ·replace h := ite_t (dec_t hb401) h
     refine aw_seq (aw_region (ap (.int .i64 0) Z Z Z (pu_assign Z (AEv.int _ _)) (ap (.int .i64 0) Z Z Z (pu_assign Z (AEv.int _ _)) (ap (.int .i64 (-1)) Z Z Z (pu_assign Z (AEv.int _ _)) (aops_nil (aw_ret ?_))))))
     obtain rfl := some_of h
     exact ⟨[.int .i64 0, .int .i64 0, .int .i64 (-1)], _, [], ⟨(tm Z), (tm Z), (tm Z), trivial⟩, (AV.Le.refl _), Weak.mkL [] (by decide) trivial trivial, ⟨Z, Z⟩⟩
    ·replace h := ite_f (dec_f hb401) h
     obtain ⟨s392, s392e, h393⟩ := bind_some h
     refine aw_meet (ν := Unit) (fun v => [(11, .int .i64 s294), (14, .int .i64 r388.1), (16, .str (sub s_ s294 (s_.length : Int))), (77, .bool s392)]) (fun v => []) ?_ ?_
     ·have h := s392e
      refine aw_region (ap (.int .i64 s294) Z Z Z (pu_move Z (tm Z)) (ap (.bool (decide (s294 = 1))) Z Z Z (pu_int (v := .bool (decide (s294 = 1))) Z Z (tm Z) (AEv.int _ _) Z) (ap (.bool (decide (s294 = 1))) Z Z Z (pu_move Z (tm Z)) ?_)))
      rcases Bool.eq_false_or_eq_true (decide (s294 = 1)) with hb395 | hb395
      ·replace h := ite_t (dec_t hb395) h
       refine aops_known 80 Z hb395 (an Z Z Z Z Z Z Z Z (an Z Z Z Z Z Z Z Z (an Z Z Z Z Z Z Z Z (ap (.bool true) Z Z Z (pu_pick (b := true) Z (tm Z) (fun _ => (AEv.bool _)) (fun h => nomatch h)) (ap (.bool true) Z Z Z (pu_assign Z (tm Z)) (aops_nil ?_))))))
       obtain rfl := some_of h
       exact ⟨(), Weak.mkL [] (by decide) trivial ⟨AEv.tmp Z, AEv.tmp Z, AEv.tmp Z, AEv.tmp Z, trivial⟩⟩
      ·replace h := ite_f (dec_f hb395) h
       refine aops_known 80 Z hb395 (agp (.str (sub s_ s294 (s_.length : Int))) Z Z Z Z Z Z Z (pu_move Z (tm Z)) ?_)
       obtain ⟨c396, h⟩ := need_of h
       refine agp (.int .u8 (bix (sub s_ s294 (s_.length : Int)) 0)) Z Z Z Z Z Z Z (pu_strIdxM Z underlying9 (tm Z) (AEv.int _ _) c396) (agp (.bool (!decide ((bix (sub s_ s294 (s_.length : Int)) 0) = 13))) Z Z Z Z Z Z Z (pu_int (v := .bool (!decide ((bix (sub s_ s294 (s_.length : Int)) 0) = 13))) Z Z (tm Z) (AEv.int _ _) Z) (ap (.bool (!decide ((bix (sub s_ s294 (s_.length : Int)) 0) = 13))) Z Z Z (pu_pick (b := false) Z (tm Z) (fun h => nomatch h) (fun _ => (tm Z))) (ap (.bool (!decide ((bix (sub s_ s294 (s_.length : Int)) 0) = 13))) Z Z Z (pu_assign Z (tm Z)) (aops_nil ?_))))
       obtain rfl := some_of h
       exact ⟨(), Weak.mkL [] (by decide) trivial ⟨AEv.tmp Z, AEv.tmp Z, AEv.tmp Z, AEv.tmp Z, trivial⟩⟩
     ·intro _
      have h := h393
      refine aw_cond (b := s392) (tm Z) (fun hb400 => ?_) (fun hb400 => ?_)
      ·replace h := ite_t hb400 h
       refine aw_seq (aw_region (ap (.int .i64 0) Z Z Z (pu_assign Z (AEv.int _ _)) (ap (.int .i64 0) Z Z Z (pu_assign Z (AEv.int _ _)) (ap (.int .i64 5) Z Z Z (pu_assign Z (AEv.int _ _)) (aops_nil (aw_ret ?_))))))
       obtain rfl := some_of h
       exact ⟨[.int .i64 0, .int .i64 0, .int .i64 5], _, [], ⟨(tm Z), (tm Z), (tm Z), trivial⟩, (AV.Le.refl _), Weak.mkL [] (by decide) trivial trivial, ⟨Z, Z⟩⟩
      ·replace h := ite_fb hb400 h
       refine aw_seq (aw_region (ap (.str (sub s_ s294 (s_.length : Int))) Z Z Z (pu_move Z (tm Z)) (ap (.int .i64 ((sub s_ s294 (s_.length : Int)).length : Int)) Z Z Z (pu_strLen Z underlying9 (tm Z)) (ap (.bool (decide (((sub s_ s294 (s_.length : Int)).length : Int) = 1))) Z Z Z (pu_int (v := .bool (decide (((sub s_ s294 (s_.length : Int)).length : Int) = 1))) Z Z (tm Z) (AEv.int _ _) Z) (ap (.bool (decide (((sub s_ s294 (s_.length : Int)).length : Int) = 1))) Z Z Z (pu_assign Z (tm Z)) (aops_nil (aw_cond (b := decide (((sub s_ s294 (s_.length : Int)).length : Int) = 1)) (tm Z) (fun hb399 => ?_) (fun hb399 => ?_))))))))
       ·replace h := ite_t (dec_t hb399) h
        refine aw_seq (aw_region (ap (.int .i64 0) Z Z Z (pu_assign Z (AEv.int _ _)) (ap (.int .i64 0) Z Z Z (pu_assign Z (AEv.int _ _)) (ap (.int .i64 (-1)) Z Z Z (pu_assign Z (AEv.int _ _)) (aops_nil (aw_ret ?_))))))
        obtain rfl := some_of h
        exact ⟨[.int .i64 0, .int .i64 0, .int .i64 (-1)], _, [], ⟨(tm Z), (tm Z), (tm Z), trivial⟩, (AV.Le.refl _), Weak.mkL [] (by decide) trivial trivial, ⟨Z, Z⟩⟩
       ·replace h := ite_f (dec_f hb399) h
        refine aw_seq (aw_region (ap (.str (sub s_ s294 (s_.length : Int))) Z Z Z (pu_move Z (tm Z)) ?_))
        obtain ⟨c397, h⟩ := need_of h
        refine ap (.int .u8 (bix (sub s_ s294 (s_.length : Int)) 1)) Z Z Z (pu_strIdxM Z underlying9 (tm Z) (AEv.int _ _) c397) (ap (.bool (!decide ((bix (sub s_ s294 (s_.length : Int)) 1) = 10))) Z Z Z (pu_int (v := .bool (!decide ((bix (sub s_ s294 (s_.length : Int)) 1) = 10))) Z Z (tm Z) (AEv.int _ _) Z) (ap (.bool (!decide ((bix (sub s_ s294 (s_.length : Int)) 1) = 10))) Z Z Z (pu_assign Z (tm Z)) (aops_nil (aw_cond (b := (!decide ((bix (sub s_ s294 (s_.length : Int)) 1) = 10))) (tm Z) (fun hb398 => ?_) (fun hb398 => ?_)))))
        ·replace h := ite_f (ndec_t hb398) h
         refine aw_seq (aw_region (ap (.int .i64 0) Z Z Z (pu_assign Z (AEv.int _ _)) (ap (.int .i64 0) Z Z Z (pu_assign Z (AEv.int _ _)) (ap (.int .i64 5) Z Z Z (pu_assign Z (AEv.int _ _)) (aops_nil (aw_ret ?_))))))
         obtain rfl := some_of h
         exact ⟨[.int .i64 0, .int .i64 0, .int .i64 5], _, [], ⟨(tm Z), (tm Z), (tm Z), trivial⟩, (AV.Le.refl _), Weak.mkL [] (by decide) trivial trivial, ⟨Z, Z⟩⟩
        ·replace h := ite_t (ndec_f hb398) h
         refine aw_skip (aw_seq (aw_region (ap (.int .i64 r388.1) Z Z Z (pu_move Z (tm Z)) (ap (.int .i64 s294) Z Z Z (pu_move Z (tm Z)) (ap (.int .i64 (IntKind.wrap .i64 (s294 + 2))) Z Z Z (pu_int (v := .int .i64 (IntKind.wrap .i64 (s294 + 2))) Z Z (tm Z) (AEv.int _ _) Z) (ap (.int .i64 r388.1) Z Z Z (pu_assign Z (tm Z)) (ap (.int .i64 (IntKind.wrap .i64 (s294 + 2))) Z Z Z (pu_assign Z (tm Z)) (ap (.int .i64 0) Z Z Z (pu_assign Z (AEv.int _ _)) (aops_nil ?_)))))))))
         refine aw_ret ?_
         obtain rfl := some_of h
         exact ⟨[.int .i64 r388.1, .int .i64 (IntKind.wrap .i64 (s294 + 2)), .int .i64 0], _, [], ⟨(tm Z), (tm Z), (tm Z), trivial⟩, (AV.Le.refl _), Weak.mkL [] (by decide) trivial trivial, ⟨Z, Z⟩⟩
   ·have h := s402e
    refine aw_block (aw_while (σ := mewsref05.first.S0) (ν := Unit) (mewsref05.first.body0 s_ most over) (fun s355 v => [(0, .str s_), (2, .int .i64 most), (3, .int .i64 over), (11, .int .i64 s355.digits)]) (fun s355 v => []) ⟨1⟩ () _ h (Weak.mkL [] (by decide) trivial ⟨AEv.tmp Z, AEv.tmp Z, AEv.tmp Z, AEv.tmp Z, trivial⟩) ?_)
    rintro s355 _ x357 h hx356
    unfold mewsref05.first.body0 at h
    refine aw_seq ?_
    obtain ⟨s363, s363e, h364⟩ := bind_some h
    refine aw_meet (ν := Unit) (fun v => [(0, .str s_), (2, .int .i64 most), (3, .int .i64 over), (11, .int .i64 s355.digits), (38, .bool s363)]) (fun v => []) ?_ ?_
    ·have h := s363e
     refine aw_region (ap (.int .i64 s355.digits) Z Z Z (pu_move Z (tm Z)) (ap (.str s_) Z Z Z (pu_move Z (tm Z)) (ap (.int .i64 (s_.length : Int)) Z Z Z (pu_strLen Z underlying9 (tm Z)) (ap (.bool (decide (s355.digits < (s_.length : Int)))) Z Z Z (pu_int (v := .bool (decide (s355.digits < (s_.length : Int)))) Z Z (tm Z) (tm Z) Z) (ap (.bool (decide (s355.digits < (s_.length : Int)))) Z Z Z (pu_move Z (tm Z)) ?_)))))
     rcases Bool.eq_false_or_eq_true (decide (s355.digits < (s_.length : Int))) with hb366 | hb366
     ·replace h := ite_t (dec_t hb366) h
      refine aops_known 27 Z hb366 (agp (.str s_) Z Z Z Z Z Z Z (pu_move Z (tm Z)) (agp (.int .i64 s355.digits) Z Z Z Z Z Z Z (pu_move Z (tm Z)) ?_))
      obtain ⟨c367, h⟩ := need_of h
      refine agp (.int .u8 (bix s_ s355.digits)) Z Z Z Z Z Z Z (pu_strIdxM Z underlying9 (tm Z) (tm Z) c367) (agp (.bool (decide (48 ≤ (bix s_ s355.digits)))) Z Z Z Z Z Z Z (pu_int (v := .bool (decide (48 ≤ (bix s_ s355.digits)))) Z Z (tm Z) (AEv.int _ _) Z) (ap (.bool (decide (48 ≤ (bix s_ s355.digits)))) Z Z Z (pu_pick (b := true) Z (tm Z) (fun _ => (tm Z)) (fun h => nomatch h)) (ap (.bool (decide (48 ≤ (bix s_ s355.digits)))) Z Z Z (pu_move Z (tm Z)) ?_)))
      rcases Bool.eq_false_or_eq_true (decide (48 ≤ (bix s_ s355.digits))) with hb368 | hb368
      ·replace h := ite_t (dec_t hb368) h
       refine aops_known 33 Z hb368 (agp (.str s_) Z Z Z Z Z Z Z (pu_move Z (tm Z)) (agp (.int .i64 s355.digits) Z Z Z Z Z Z Z (pu_move Z (tm Z)) ?_))
       obtain ⟨c369, h⟩ := need_of h
       refine agp (.int .u8 (bix s_ s355.digits)) Z Z Z Z Z Z Z (pu_strIdxM Z underlying9 (tm Z) (tm Z) c369) (agp (.bool (decide ((bix s_ s355.digits) ≤ 57))) Z Z Z Z Z Z Z (pu_int (v := .bool (decide ((bix s_ s355.digits) ≤ 57))) Z Z (tm Z) (AEv.int _ _) Z) (ap (.bool (decide ((bix s_ s355.digits) ≤ 57))) Z Z Z (pu_pick (b := true) Z (tm Z) (fun _ => (tm Z)) (fun h => nomatch h)) (aops_nil ?_)))
       obtain rfl := some_of h
       exact ⟨(), Weak.mkL [] (by decide) trivial ⟨AEv.tmp Z, AEv.tmp Z, AEv.tmp Z, AEv.tmp Z, (AEv.le (tm Z) (AV.Le.refl _)), trivial⟩⟩
      ·replace h := ite_f (dec_f hb368) h
       refine aops_known 33 Z hb368 (an Z Z Z Z Z Z Z Z (an Z Z Z Z Z Z Z Z (an Z Z Z Z Z Z Z Z (an Z Z Z Z Z Z Z Z (ap (.bool false) Z Z Z (pu_pick (b := false) Z (tm Z) (fun h => nomatch h) (fun _ => (AEv.bool _))) (aops_nil ?_))))))
       obtain rfl := some_of h
       exact ⟨(), Weak.mkL [] (by decide) trivial ⟨AEv.tmp Z, AEv.tmp Z, AEv.tmp Z, AEv.tmp Z, AEv.tmp Z, trivial⟩⟩
     ·replace h := ite_f (dec_f hb366) h
      refine aops_known 27 Z hb366 (an Z Z Z Z Z Z Z Z (an Z Z Z Z Z Z Z Z (an Z Z Z Z Z Z Z Z (an Z Z Z Z Z Z Z Z (ap (.bool false) Z Z Z (pu_pick (b := false) Z (tm Z) (fun h => nomatch h) (fun _ => (AEv.bool _))) (ap (.bool false) Z Z Z (pu_move Z (tm Z)) (an Z Z Z Z Z Z Z Z (an Z Z Z Z Z Z Z Z (an Z Z Z Z Z Z Z Z ?_)))))))))
      refine an Z Z Z Z Z Z Z Z (ap (.bool false) Z Z Z (pu_pick (b := false) Z (tm Z) (fun h => nomatch h) (fun _ => (AEv.bool _))) (aops_nil ?_))
      obtain rfl := some_of h
      exact ⟨(), Weak.mkL [] (by decide) trivial ⟨AEv.tmp Z, AEv.tmp Z, AEv.tmp Z, AEv.tmp Z, AEv.tmp Z, trivial⟩⟩
    ·intro _
     have h := h364
     refine aw_cond (b := s363) (tm Z) (fun hb386 => ?_) (fun hb386 => ?_)
     ·replace h := ite_t hb386 h
      refine aw_skip (aw_block (aw_seq (aw_region (ap (.str s_) Z Z Z (pu_move Z (tm Z)) (ap (.int .i64 s355.digits) Z Z Z (pu_move Z (tm Z)) (ap (.int .i64 (IntKind.wrap .i64 (s355.digits + 1))) Z Z Z (pu_int (v := .int .i64 (IntKind.wrap .i64 (s355.digits + 1))) Z Z (tm Z) (AEv.int _ _) Z) ?_))))))
      obtain ⟨c370, h⟩ := need_of h
      refine ap (.str (sub s_ 1 (IntKind.wrap .i64 (s355.digits + 1)))) Z Z Z (pu_strSliceM Z underlying9 (tm Z) ⟨_, (AEv.int _ _)⟩ ⟨_, (tm Z)⟩ c370) ?_
      obtain ⟨r371, r371e, h⟩ := bind_some h
      refine ac Z Z Z (op_call (vs := [.str (sub s_ 1 (IntKind.wrap .i64 (s355.digits + 1)))]) (H := []) Z call92 ⟨(tm Z), trivial⟩ (List.Perm.refl _) (mewsref01.Parse.ok r371e) ?_)
      rintro _ _ ⟨rfl, rfl⟩
      refine ap (.tup [.int .i64 r371.1, .bool r371.2]) Z Z Z (pu_move Z (tm Z)) (ap (.int .i64 r371.1) Z Z Z (pu_extract Z (tm Z) (Nat.le_of_ble_eq_true Z) Z) (ap (.bool r371.2) Z Z Z (pu_extract Z (tm Z) (Nat.le_of_ble_eq_true Z) Z) (ap (.int .i64 r371.1) Z Z Z (pu_assign Z (tm Z)) (ap (.bool r371.2) Z Z Z (pu_assign Z (tm Z)) (aops_nil (aw_seq ?_))))))
      obtain ⟨s374, s374e, h375⟩ := bind_some h
      refine aw_meet (ν := Unit) (fun v => [(0, .str s_), (2, .int .i64 most), (3, .int .i64 over), (11, .int .i64 s355.digits), (12, .int .i64 r371.1), (13, .bool r371.2), (53, .bool s374)]) (fun v => []) ?_ ?_
      ·have h := s374e
       refine aw_region (ap (.bool r371.2) Z Z Z (pu_move Z (tm Z)) (ap (.bool (!r371.2)) Z Z Z (pu_not Z (tm Z)) (ap (.bool (!r371.2)) Z Z Z (pu_move Z (tm Z)) ?_)))
       rcases Bool.eq_false_or_eq_true (!r371.2) with hb377 | hb377
       ·replace h := ite_t hb377 h
        refine aops_known 49 Z hb377 (agp (.str s_) Z Z Z Z Z Z Z (pu_move Z (tm Z)) ?_)
        obtain ⟨c378, h⟩ := need_of h
        refine agp (.int .u8 (bix s_ 1)) Z Z Z Z Z Z Z (pu_strIdxM Z underlying9 (tm Z) (AEv.int _ _) c378) (agp (.bool (decide ((bix s_ 1) = 48))) Z Z Z Z Z Z Z (pu_int (v := .bool (decide ((bix s_ 1) = 48))) Z Z (tm Z) (AEv.int _ _) Z) (ap (.bool (decide ((bix s_ 1) = 48))) Z Z Z (pu_pick (b := true) Z (tm Z) (fun _ => (tm Z)) (fun h => nomatch h)) (aops_nil ?_)))
        obtain rfl := some_of h
        exact ⟨(), Weak.mkL [] (by decide) trivial ⟨AEv.tmp Z, AEv.tmp Z, AEv.tmp Z, AEv.tmp Z, AEv.tmp Z, AEv.tmp Z, (AEv.le (tm Z) (AV.Le.refl _)), trivial⟩⟩
       ·replace h := ite_fb hb377 h
        refine aops_known 49 Z hb377 (an Z Z Z Z Z Z Z Z (an Z Z Z Z Z Z Z Z (an Z Z Z Z Z Z Z Z (ap (.bool false) Z Z Z (pu_pick (b := false) Z (tm Z) (fun h => nomatch h) (fun _ => (AEv.bool _))) (aops_nil ?_)))))
        obtain rfl := some_of h
        exact ⟨(), Weak.mkL [] (by decide) trivial ⟨AEv.tmp Z, AEv.tmp Z, AEv.tmp Z, AEv.tmp Z, AEv.tmp Z, AEv.tmp Z, AEv.tmp Z, trivial⟩⟩
      ·intro _
       have h := h375
       refine aw_cond (b := s374) (tm Z) (fun hb385 => ?_) (fun hb385 => ?_)
       ·replace h := ite_t hb385 h
        refine aw_seq (aw_region (ap (.int .i64 0) Z Z Z (pu_assign Z (AEv.int _ _)) (ap (.int .i64 0) Z Z Z (pu_assign Z (AEv.int _ _)) (ap (.int .i64 5) Z Z Z (pu_assign Z (AEv.int _ _)) (aops_nil (aw_ret ?_))))))
        obtain rfl := some_of h
        have h := congrArg some (hx356 _ rfl)
        obtain rfl := some_of h
        have h := onSum_inr h295
        obtain rfl := some_of h
        exact ⟨[.int .i64 0, .int .i64 0, .int .i64 5], _, [], ⟨(tm Z), (tm Z), (tm Z), trivial⟩, (AV.Le.refl _), Weak.mkL [] (by decide) trivial trivial, ⟨Z, Z⟩⟩
       ·replace h := ite_fb hb385 h
        refine aw_skip (aw_seq ?_)
        obtain ⟨s380, s380e, h381⟩ := letO_of h
        refine aw_meet (ν := Unit) (fun v => [(0, .str s_), (2, .int .i64 most), (3, .int .i64 over), (11, .int .i64 s355.digits), (60, .bool s380)]) (fun v => []) ?_ ?_
        ·have h := s380e.symm
         refine aw_region (ap (.bool r371.2) Z Z Z (pu_move Z (tm Z)) (ap (.bool (!r371.2)) Z Z Z (pu_not Z (tm Z)) (ap (.bool (!r371.2)) Z Z Z (pu_move Z (tm Z)) ?_)))
         rcases Bool.eq_false_or_eq_true (!r371.2) with hb383 | hb383
         ·replace h := ite_t hb383 h
          refine aops_known 56 Z hb383 (an Z Z Z Z Z Z Z Z (an Z Z Z Z Z Z Z Z (an Z Z Z Z Z Z Z Z (ap (.bool true) Z Z Z (pu_pick (b := true) Z (tm Z) (fun _ => (AEv.bool _)) (fun h => nomatch h)) (aops_nil ?_)))))
          subst h
          exact ⟨(), Weak.mkL [] (by decide) trivial ⟨AEv.tmp Z, AEv.tmp Z, AEv.tmp Z, AEv.tmp Z, AEv.tmp Z, trivial⟩⟩
         ·replace h := ite_fb hb383 h
          refine aops_known 56 Z hb383 (agp (.int .i64 r371.1) Z Z Z Z Z Z Z (pu_move Z (tm Z)) (agp (.int .i64 most) Z Z Z Z Z Z Z (pu_move Z (tm Z)) (agp (.bool (decide (most < r371.1))) Z Z Z Z Z Z Z (pu_int (v := .bool (decide (most < r371.1))) Z Z (tm Z) (tm Z) Z) (ap (.bool (decide (most < r371.1))) Z Z Z (pu_pick (b := false) Z (tm Z) (fun h => nomatch h) (fun _ => (tm Z))) (aops_nil ?_)))))
          subst h
          exact ⟨(), Weak.mkL [] (by decide) trivial ⟨AEv.tmp Z, AEv.tmp Z, AEv.tmp Z, AEv.tmp Z, (AEv.le (tm Z) (AV.Le.refl _)), trivial⟩⟩
        ·intro _
         have h := h381
         refine aw_cond (b := s380) (tm Z) (fun hb384 => ?_) (fun hb384 => ?_)
         ·replace h := ite_t hb384 h
          refine aw_seq (aw_region (ap (.int .i64 over) Z Z Z (pu_move Z (tm Z)) (ap (.int .i64 0) Z Z Z (pu_assign Z (AEv.int _ _)) (ap (.int .i64 0) Z Z Z (pu_assign Z (AEv.int _ _)) (ap (.int .i64 over) Z Z Z (pu_assign Z (tm Z)) (aops_nil (aw_ret ?_)))))))
          obtain rfl := some_of h
          have h := congrArg some (hx356 _ rfl)
          obtain rfl := some_of h
          have h := onSum_inr h295
          obtain rfl := some_of h
          exact ⟨[.int .i64 0, .int .i64 0, .int .i64 over], _, [], ⟨(tm Z), (tm Z), (tm Z), trivial⟩, (AV.Le.refl _), Weak.mkL [] (by decide) trivial trivial, ⟨Z, Z⟩⟩
         ·replace h := ite_fb hb384 h
          refine aw_skip (aw_region (ap (.int .i64 s355.digits) Z Z Z (pu_move Z (tm Z)) (ap (.int .i64 (IntKind.wrap .i64 (s355.digits + 1))) Z Z Z (pu_int (v := .int .i64 (IntKind.wrap .i64 (s355.digits + 1))) Z Z (tm Z) (AEv.int _ _) Z) (ap (.int .i64 (IntKind.wrap .i64 (s355.digits + 1))) Z Z Z (pu_assign Z (tm Z)) (aops_nil ?_)))))
          obtain rfl := some_of h
          exact ⟨_, (), Z, Weak.mkL [] (by decide) trivial ⟨AEv.tmp Z, AEv.tmp Z, AEv.tmp Z, (AEv.le (tm Z) (AV.Le.refl _)), trivial⟩⟩
     ·replace h := ite_fb hb386 h
      refine aw_exit ?_
      obtain rfl := some_of h
      have h := congrArg some (hx356 _ rfl)
      exact ⟨s355.digits, (), (some_of h).symm, Weak.mkL [] (by decide) trivial ⟨AEv.tmp Z, AEv.tmp Z, trivial⟩⟩

theorem mewsref05.ends.ok {s_ : List UInt8} {r : Int} (h : mewsref05.ends s_ = some r) : Go.Lift.Spec prog 79 [.str s_] [] (fun v H => v = .int .i64 r ∧ H = []) := by
 unfold mewsref05.ends at h
 refine Go.Lift.Spec.of_body (rs := [.tmp 2]) func79 Z Z (Nat.le_of_ble_eq_true Z) Z (aw_seq (aw_region (ap (.int .i64 0) Z Z Z (pu_assign Z (AEv.int _ _)) (aops_nil (aw_seq (aw_region (ap (.str [13, 10]) Z Z Z (pu_assign Z (AEv.const Z)) (aops_nil ?_))))))))
 obtain ⟨s92, s92e, h69⟩ := bind_some h
 refine aw_join (σ := Unit) (ν := Unit) (fun u v => []) (fun u v => []) (fun u => s92 = .inl u) ?_ ?_
 ·intro s68
  intro _
  rintro rfl
  have h := onSum_inl h69
  refine aw_seq (aw_region (ap (.int .i64 0) Z Z Z (pu_assign Z (AEv.int _ _)) (aops_nil (aw_ret ?_))))
  obtain rfl := some_of h
  exact ⟨[.int .i64 0], _, [], ⟨(tm Z), trivial⟩, (AV.Le.refl _), Weak.mkL [] (by decide) trivial trivial, ⟨Z, Z⟩⟩
 ·have h := s92e
  refine aw_seq (aw_region (ap (.int .i64 0) Z Z Z (pu_assign Z (AEv.int _ _)) (aops_nil (aw_block (aw_while (σ := mewsref05.ends.S0) (ν := Unit) (mewsref05.ends.body0 s_) (fun s83 v => [(0, .str s_), (3, .str [13, 10]), (4, .int .i64 s83.i)]) (fun s83 v => []) ⟨0⟩ () _ h (Weak.mkL [] (by decide) trivial ⟨AEv.tmp Z, AEv.tmp Z, AEv.tmp Z, trivial⟩) ?_)))))
  rintro s83 _ x85 h hx84
  unfold mewsref05.ends.body0 at h
  refine aw_seq (aw_seq (aw_region (ap (.int .i64 s83.i) Z Z Z (pu_move Z (tm Z)) (ap (.bool (decide (s83.i < 2))) Z Z Z (pu_int (v := .bool (decide (s83.i < 2))) Z Z (tm Z) (AEv.int _ _) Z) (aops_nil (aw_cond (b := decide (s83.i < 2)) (tm Z) (fun hb91 => ?_) (fun hb91 => ?_)))))))
  ·replace h := ite_t (dec_t hb91) h
   refine aw_skip (aw_seq (aw_block (aw_seq (aw_seq (aw_region (ap (.str s_) Z Z Z (pu_move Z (tm Z)) (ap (.int .i64 (s_.length : Int)) Z Z Z (pu_strLen Z underlying9 (tm Z)) (ap (.int .i64 s83.i) Z Z Z (pu_move Z (tm Z)) (ap (.bool (decide ((s_.length : Int) ≤ s83.i))) Z Z Z (pu_int (v := .bool (decide ((s_.length : Int) ≤ s83.i))) Z Z (tm Z) (tm Z) Z) ?_)))))))))
   refine aops_nil (aw_cond (b := decide ((s_.length : Int) ≤ s83.i)) (tm Z) (fun hb90 => ?_) (fun hb90 => ?_))
   ·replace h := ite_t (dec_t hb90) h
    refine aw_seq (aw_region (ap (.int .i64 (-1)) Z Z Z (pu_assign Z (AEv.int _ _)) (aops_nil (aw_ret ?_))))
    obtain rfl := some_of h
    have h := congrArg some (hx84 _ rfl)
    obtain rfl := some_of h
    have h := onSum_inr h69
    obtain rfl := some_of h
    exact ⟨[.int .i64 (-1)], _, [], ⟨(tm Z), trivial⟩, (AV.Le.refl _), Weak.mkL [] (by decide) trivial trivial, ⟨Z, Z⟩⟩
   ·replace h := ite_f (dec_f hb90) h
    refine aw_skip (aw_seq ?_)
    obtain ⟨c87, h⟩ := need_of h
    obtain ⟨c88, h⟩ := need_of h
    refine aw_plan (by decide +kernel) [([], some 13, [0]), ([], some 14, [4]), ([0, 1], some 15, [13, 14]), ([], some 16, [3]), ([], some 17, [4]), ([3, 4], some 18, [16, 17]), ([2, 5], some 19, [15, 18])] Z [[], [], [0, 1], [], [], [3, 4], [0, 1, 2, 3, 4, 5]] [[], [], [], [], [], [], []] [] [] [.str s_, .int .i64 s83.i, .int .u8 (bix s_ s83.i), .str [13, 10], .int .i64 s83.i, .int .u8 (bix [13, 10] s83.i), .bool (!decide ((bix s_ s83.i) = (bix [13, 10] s83.i)))] (by decide +kernel) Z Z ?_ ?_
    ·refine ⟨⟨[0], Z, stepg_pure Z (pu_move Z (tm Z))⟩, ?_⟩
     refine ⟨⟨[4], Z, stepg_pure Z (pu_move Z (tm Z))⟩, ?_⟩
     refine ⟨⟨[13, 14], Z, stepg_pure Z (pu_strIdxM Z underlying9 (tm Z) (tm Z) c87)⟩, ?_⟩
     refine ⟨⟨[3], Z, stepg_pure Z (pu_move Z (tm Z))⟩, ?_⟩
     refine ⟨⟨[4], Z, stepg_pure Z (pu_move Z (tm Z))⟩, ?_⟩
     refine ⟨⟨[16, 17], Z, stepg_pure Z (pu_strIdxM Z underlying9 (tm Z) (tm Z) c88)⟩, ?_⟩
     refine ⟨⟨[15, 18], Z, stepg_pure Z (pu_int (v := .bool (!decide ((bix s_ s83.i) = (bix [13, 10] s83.i)))) Z Z (tm Z) (tm Z) Z)⟩, ?_⟩
     trivial
    refine aw_cond (b := (!decide ((bix s_ s83.i) = (bix [13, 10] s83.i)))) (tm Z) (fun hb89 => ?_) (fun hb89 => ?_)
    ·replace h := ite_f (ndec_t hb89) h
     refine aw_seq (aw_region (ap (.int .i64 5) Z Z Z (pu_assign Z (AEv.int _ _)) (aops_nil (aw_ret ?_))))
     obtain rfl := some_of h
     have h := congrArg some (hx84 _ rfl)
     obtain rfl := some_of h
     have h := onSum_inr h69
     obtain rfl := some_of h
     exact ⟨[.int .i64 5], _, [], ⟨(tm Z), trivial⟩, (AV.Le.refl _), Weak.mkL [] (by decide) trivial trivial, ⟨Z, Z⟩⟩
    ·replace h := ite_t (ndec_f hb89) h
     refine aw_skip (aw_region (ap (.int .i64 s83.i) Z Z Z (pu_move Z (tm Z)) (ap (.int .i64 (IntKind.wrap .i64 (s83.i + 1))) Z Z Z (pu_int (v := .int .i64 (IntKind.wrap .i64 (s83.i + 1))) Z Z (tm Z) (AEv.int _ _) Z) (ap (.int .i64 (IntKind.wrap .i64 (s83.i + 1))) Z Z Z (pu_assign Z (tm Z)) (aops_nil ?_)))))
     obtain rfl := some_of h
     exact ⟨_, (), Z, Weak.mkL [] (by decide) trivial ⟨AEv.tmp Z, AEv.tmp Z, (AEv.le (tm Z) (AV.Le.refl _)), trivial⟩⟩
  ·replace h := ite_f (dec_f hb91) h
   refine aw_exit ?_
   obtain rfl := some_of h
   have h := congrArg some (hx84 _ rfl)
   exact ⟨(), (), (some_of h).symm, Weak.mkL [] (by decide) trivial trivial⟩

theorem mewsref05.many.ok {s_ : List UInt8} {l : api.Limits} {r : api.Input × Int} (h : mewsref05.many s_ l = some r) : Go.Lift.Spec prog 53 [.str s_, .agg [.int .i64 l.Args, .int .i64 l.Bulk, .int .i64 l.Line]] [] (fun v H => v = .tup [.agg [.str r.1.Rest, .sl .no 1 (r.1.Args.map AV.str), .int .i64 r.1.Left, .int .i64 r.1.Size, .bool r.1.Body, .int .i64 r.1.Need, .int .i64 r.1.Dead], .int .i64 r.2] ∧ H = []) := by
 unfold mewsref05.many at h
 refine Go.Lift.Spec.of_body (rs := [.cell 4 29, .tmp 5]) func53 Z Z (Nat.le_of_ble_eq_true Z) Z (aw_seq (aw_region (ac Z Z Z (op_box (cs := [.int .i64 l.Args, .int .i64 l.Bulk, .int .i64 l.Line]) (v := .agg [.int .i64 l.Args, .int .i64 l.Bulk, .int .i64 l.Line]) Z (tm Z) Z Z ?_))))
 intro p161
 refine ac Z Z Z (op_alloc (cs := [.str ([] : List UInt8), .sl .full 1 (([] : List (List UInt8)).map AV.str), .int .i64 0, .int .i64 0, .bool false, .int .i64 0, .int .i64 0]) (v := .agg [.str ([] : List UInt8), .sl .full 1 (([] : List (List UInt8)).map AV.str), .int .i64 0, .int .i64 0, .bool false, .int .i64 0, .int .i64 0]) Z zeroValue29 Z Z Z ?_)
 intro p162
 refine ap (.int .i64 0) Z Z Z (pu_assign Z (AEv.int _ _)) (aops_nil (aw_seq (aw_region (ap (.str s_) Z Z Z (pu_move Z (tm Z)) (ap (.ptr p161 0) Z Z Z (pu_fieldAddr Z underlying23 Z sizeOf3 (by decide) (tm Z) Z) (ac Z Z Z (op_load1 (i := 1) Z isAgg3 (tm Z) Z Z ?_)))))))
 obtain ⟨r163, r163e, h⟩ := bind_some h
 refine ac Z Z Z (op_call (vs := [.str s_, .int .u8 42, .int .i64 l.Args, .int .i64 7]) (H := []) Z call78 ⟨(tm Z), (AEv.int _ _), (tm Z), (AEv.int _ _), trivial⟩ (List.Perm.refl _) (mewsref05.first.ok r163e) ?_)
 rintro _ _ ⟨rfl, rfl⟩
 refine ap (.tup [.int .i64 r163.1, .int .i64 r163.2.1, .int .i64 r163.2.2]) Z Z Z (pu_move Z (tm Z)) (ap (.int .i64 r163.1) Z Z Z (pu_extract Z (tm Z) (Nat.le_of_ble_eq_true Z) Z) (ap (.int .i64 r163.2.1) Z Z Z (pu_extract Z (tm Z) (Nat.le_of_ble_eq_true Z) Z) (ap (.int .i64 r163.2.2) Z Z Z (pu_extract Z (tm Z) (Nat.le_of_ble_eq_true Z) Z) (ap (.int .i64 r163.1) Z Z Z (pu_assign Z (tm Z)) (ap (.int .i64 r163.2.1) Z Z Z (pu_assign Z (tm Z)) (ap (.int .i64 r163.2.2) Z Z Z (pu_assign Z (tm Z)) (aops_nil (aw_seq (aw_seq ?_)))))))))
 refine aw_region (ap (.int .i64 r163.2.2) Z Z Z (pu_move Z (tm Z)) (ap (.bool (!decide (r163.2.2 = 0))) Z Z Z (pu_int (v := .bool (!decide (r163.2.2 = 0))) Z Z (tm Z) (AEv.int _ _) Z) (aops_nil (aw_cond (b := (!decide (r163.2.2 = 0))) (tm Z) (fun hb320 => ?_) (fun hb320 => ?_)))))
 ·replace h := ite_f (ndec_t hb320) h
  refine aw_seq (aw_region (ap (.str s_) Z Z Z (pu_move Z (tm Z)) (ap (.agg [.str s_, .sl .full 1 (([] : List (List UInt8)).map AV.str), .int .i64 0, .int .i64 0, .bool false, .int .i64 0, .int .i64 0]) Z Z Z (pu_build (zs := [.str ([] : List UInt8), .sl .full 1 (([] : List (List UInt8)).map AV.str), .int .i64 0, .int .i64 0, .bool false, .int .i64 0, .int .i64 0]) (szs := [1, 1, 1, 1, 1, 1, 1]) (aparts := [(0, .str s_)]) (cs := [.str s_, .sl .full 1 (([] : List (List UInt8)).map AV.str), .int .i64 0, .int .i64 0, .bool false, .int .i64 0, .int .i64 0]) Z underlying29 zeroValue29 Z ⟨sizeOf9, sizeOf26, sizeOf3, sizeOf3, sizeOf4, sizeOf3, sizeOf27, trivial⟩ ⟨Z, (tm Z), trivial⟩ Z) (ap (.int .i64 r163.2.2) Z Z Z (pu_move Z (tm Z)) (ac0 Z Z (op_store (i := 0) (cs' := [.str s_, .sl .full 1 (([] : List (List UInt8)).map AV.str), .int .i64 0, .int .i64 0, .bool false, .int .i64 0, .int .i64 0]) Z sizeOf29 (tm Z) (v := .agg [.str s_, .sl .full 1 (([] : List (List UInt8)).map AV.str), .int .i64 0, .int .i64 0, .bool false, .int .i64 0, .int .i64 0]) (tm Z) Z Z Z (Nat.le_of_ble_eq_true Z) Z (ap (.int .i64 r163.2.2) Z Z Z (pu_assign Z (tm Z)) (aops_nil (aw_ret ?_)))))))))
  obtain rfl := some_of h
  exact ⟨[.agg [.str s_, .sl .full 1 (([] : List (List UInt8)).map AV.str), .int .i64 0, .int .i64 0, .bool false, .int .i64 0, .int .i64 0], .int .i64 r163.2.2], .tup [.agg [.str s_, .sl .no 1 (([] : List (List UInt8)).map AV.str), .int .i64 0, .int .i64 0, .bool false, .int .i64 0, .int .i64 0], .int .i64 r163.2.2], [], ⟨(CellOk.agg 0 (tm Z) Z isAgg29 sizeOf29 (Nat.le_of_ble_eq_true Z) Z), (tm Z), trivial⟩, (AV.Le.tup ⟨(AV.Le.agg ⟨(AV.Le.refl _), (AV.Le.forget _ _ _), (AV.Le.refl _), (AV.Le.refl _), (AV.Le.refl _), (AV.Le.refl _), (AV.Le.refl _), trivial⟩), (AV.Le.refl _), trivial⟩), Weak.mkL [] (by decide) trivial trivial, ⟨Z, Z⟩⟩
 ·replace h := ite_t (ndec_f hb320) h
  refine aw_skip (aw_seq (aw_region (ap (.int .i64 r163.1) Z Z Z (pu_move Z (tm Z)) (ap (.int .i64 r163.2.1) Z Z Z (pu_move Z (tm Z)) (ap (.agg [.str ([] : List UInt8), .sl .full 1 (([] : List (List UInt8)).map AV.str), .int .i64 r163.1, .int .i64 r163.2.1, .bool false, .int .i64 0, .int .i64 0]) Z Z Z (pu_build (zs := [.str ([] : List UInt8), .sl .full 1 (([] : List (List UInt8)).map AV.str), .int .i64 0, .int .i64 0, .bool false, .int .i64 0, .int .i64 0]) (szs := [1, 1, 1, 1, 1, 1, 1]) (aparts := [(2, .int .i64 r163.1), (3, .int .i64 r163.2.1)]) (cs := [.str ([] : List UInt8), .sl .full 1 (([] : List (List UInt8)).map AV.str), .int .i64 r163.1, .int .i64 r163.2.1, .bool false, .int .i64 0, .int .i64 0]) Z underlying29 zeroValue29 Z ⟨sizeOf9, sizeOf26, sizeOf3, sizeOf3, sizeOf4, sizeOf3, sizeOf27, trivial⟩ ⟨Z, (tm Z), ⟨Z, (tm Z), trivial⟩⟩ Z) (ac Z Z Z (op_alloc (cs := [.str ([] : List UInt8), .sl .full 1 (([] : List (List UInt8)).map AV.str), .int .i64 0, .int .i64 0, .bool false, .int .i64 0, .int .i64 0]) (v := .agg [.str ([] : List UInt8), .sl .full 1 (([] : List (List UInt8)).map AV.str), .int .i64 0, .int .i64 0, .bool false, .int .i64 0, .int .i64 0]) Z zeroValue29 Z Z Z ?_)))))))
  intro p164
  refine ac0 Z Z (op_store (i := 0) (cs' := [.str ([] : List UInt8), .sl .full 1 (([] : List (List UInt8)).map AV.str), .int .i64 r163.1, .int .i64 r163.2.1, .bool false, .int .i64 0, .int .i64 0]) Z sizeOf29 (tm Z) (v := .agg [.str ([] : List UInt8), .sl .full 1 (([] : List (List UInt8)).map AV.str), .int .i64 r163.1, .int .i64 r163.2.1, .bool false, .int .i64 0, .int .i64 0]) (tm Z) Z Z Z (Nat.le_of_ble_eq_true Z) Z (aops_nil ?_))
  obtain ⟨s319, s319e, h242⟩ := bind_some h
  refine aw_join (σ := (List (List UInt8)) × Int × Int) (ν := Nat) (fun u v => [(4, .ptr p162 0), (9, .ptr p164 0)]) (fun u v => [(p162, .cells [.str ([] : List UInt8), .sl .full 1 (([] : List (List UInt8)).map AV.str), .int .i64 0, .int .i64 0, .bool false, .int .i64 0, .int .i64 0]), (p164, .cells [.str ([] : List UInt8), .sl (.own v) 1 (u.1.map AV.str), .int .i64 u.2.1, .int .i64 u.2.2, .bool false, .int .i64 0, .int .i64 0]), (v, .spare)]) (fun u => s319 = .inl u) ?_ ?_
  ·intro s240
   intro n241
   rintro rfl
   have h := onSum_inl h242
   refine aw_seq (aw_region (ac Z Z Z (op_loadN (i := 1) Z isAgg29 sizeOf29 (tm Z) Z (Nat.le_of_ble_eq_true Z) Z (ac0 Z Z (op_store (i := 0) (cs' := [.str ([] : List UInt8), .sl (.own n241) 1 (s240.1.map AV.str), .int .i64 s240.2.1, .int .i64 s240.2.2, .bool false, .int .i64 0, .int .i64 0]) Z sizeOf29 (tm Z) (v := .agg [.str ([] : List UInt8), .sl (.own n241) 1 (s240.1.map AV.str), .int .i64 s240.2.1, .int .i64 s240.2.2, .bool false, .int .i64 0, .int .i64 0]) (tm Z) Z Z Z (Nat.le_of_ble_eq_true Z) Z (ap (.int .i64 0) Z Z Z (pu_assign Z (AEv.int _ _)) (aops_nil (aw_ret ?_))))))))
   obtain rfl := some_of h
   exact ⟨[.agg [.str ([] : List UInt8), .sl (.own n241) 1 (s240.1.map AV.str), .int .i64 s240.2.1, .int .i64 s240.2.2, .bool false, .int .i64 0, .int .i64 0], .int .i64 0], .tup [.agg [.str ([] : List UInt8), .sl .no 1 (s240.1.map AV.str), .int .i64 s240.2.1, .int .i64 s240.2.2, .bool false, .int .i64 0, .int .i64 0], .int .i64 0], [], ⟨(CellOk.agg 0 (tm Z) Z isAgg29 sizeOf29 (Nat.le_of_ble_eq_true Z) Z), (tm Z), trivial⟩, (AV.Le.tup ⟨(AV.Le.agg ⟨(AV.Le.refl _), (AV.Le.forget _ _ _), (AV.Le.refl _), (AV.Le.refl _), (AV.Le.refl _), (AV.Le.refl _), (AV.Le.refl _), trivial⟩), (AV.Le.refl _), trivial⟩), Weak.mkL [] (by decide) trivial trivial, ⟨Z, Z⟩⟩
  ·have h := s319e
   refine aw_block (aw_claimCell 0 1 Z Z fun t318 => (aw_while (σ := mewsref05.many.S0) (ν := Nat) (mewsref05.many.body0 s_ l) (fun s291 v => [(0, .str s_), (3, .ptr p161 0), (4, .ptr p162 0), (9, .ptr p164 0)]) (fun s291 v => [(p161, .cells [.int .i64 l.Args, .int .i64 l.Bulk, .int .i64 l.Line]), (p162, .cells [.str ([] : List UInt8), .sl .full 1 (([] : List (List UInt8)).map AV.str), .int .i64 0, .int .i64 0, .bool false, .int .i64 0, .int .i64 0]), (p164, .cells [.str ([] : List UInt8), .sl (.own v) 1 (s291.c.map AV.str), .int .i64 s291.c2, .int .i64 s291.c3, .bool false, .int .i64 0, .int .i64 0]), (v, .spare)]) ⟨([] : List (List UInt8)), r163.1, r163.2.1⟩ t318 _ h (Weak.mkL [3, 2, 1, 0] (by decide) ⟨⟨_, Z, (CellsLe.refl _), Z⟩, ⟨_, Z, (CellsLe.refl _), Z⟩, ⟨_, Z, (CellsLe.refl _), Z⟩, ⟨_, Z, Z⟩, trivial⟩ ⟨AEv.tmp Z, AEv.tmp Z, AEv.tmp Z, AEv.tmp Z, trivial⟩) ?_))
   rintro s291 n292 x294 h hx293
   unfold mewsref05.many.body0 at h
   refine aw_seq (aw_seq (aw_region (ap (.ptr p164 2) Z Z Z (pu_fieldAddr Z underlying29 Z sizeOf3 (by decide) (tm Z) Z) (ac Z Z Z (op_load1 (i := 2) Z isAgg3 (tm Z) Z Z (ap (.bool (decide (0 < s291.c2))) Z Z Z (pu_int (v := .bool (decide (0 < s291.c2))) Z Z (tm Z) (AEv.int _ _) Z) (aops_nil (aw_cond (b := decide (0 < s291.c2)) (tm Z) (fun hb317 => ?_) (fun hb317 => ?_)))))))))
   ·replace h := ite_t (dec_t hb317) h
    refine aw_skip (aw_block (aw_seq ?_))
    obtain ⟨c296, h⟩ := need_of h
    obtain ⟨r297, r297e, h⟩ := bind_some h
    refine aw_plan (by decide +kernel) [([], some 35, [0]), ([], some 36, [9]), ([1], some 37, [36]), ([0, 2], some 38, [35, 37]), ([], some 39, [3]), ([4], some 40, [39]), ([3, 5], some 41, [38, 40]), ([6], some 34, [41]), ([7], some 42, [34]), ([7], some 43, [34]), ([7], some 44, [34]), ([8, 6, 0, 1, 2, 3, 4, 5, 6, 7, 8], some 10, [42]), ([9, 11, 0, 1, 2, 3, 4, 5, 6, 7, 8, 9, 11], some 11, [43]), ([10, 12, 0, 1, 2, 3, 4, 5, 6, 7, 8, 9, 10, 11, 12], some 12, [44])] Z [[], [], [1], [0, 1, 2], [], [4], [0, 1, 2, 3, 4, 5], [0, 1, 2, 3, 4, 5, 6], [0, 1, 2, 3, 4, 5, 6, 7], [0, 1, 2, 3, 4, 5, 6, 7], [0, 1, 2, 3, 4, 5, 6, 7], [0, 1, 2, 3, 4, 5, 6, 7, 8], [0, 1, 2, 3, 4, 5, 6, 7, 8, 9, 11], [0, 1, 2, 3, 4, 5, 6, 7, 8, 9, 10, 11, 12]] [[], [], [(2, 0, false)], [], [], [(0, 0, false)], [], [], [], [], [], [], [], []] [[], [], [], []] [[[(p161, .cells [.int .i64 l.Args, .int .i64 l.Bulk, .int .i64 l.Line])]], [[(p162, .cells [.str ([] : List UInt8), .sl .full 1 (([] : List (List UInt8)).map AV.str), .int .i64 0, .int .i64 0, .bool false, .int .i64 0, .int .i64 0])]], [[(p164, .cells [.str ([] : List UInt8), .sl (.own n292) 1 (s291.c.map AV.str), .int .i64 s291.c2, .int .i64 s291.c3, .bool false, .int .i64 0, .int .i64 0])]], [[(n292, .spare)]]] [.str s_, .ptr p164 3, .int .i64 s291.c3, .str (sub s_ s291.c3 (s_.length : Int)), .ptr p161 1, .int .i64 l.Bulk, .tup [.int .i64 r297.1, .int .i64 r297.2.1, .int .i64 r297.2.2], .tup [.int .i64 r297.1, .int .i64 r297.2.1, .int .i64 r297.2.2], .int .i64 r297.1, .int .i64 r297.2.1, .int .i64 r297.2.2, .int .i64 r297.1, .int .i64 r297.2.1, .int .i64 r297.2.2] (by decide +kernel) Z Z ?_ ?_
    ·refine ⟨⟨[0], Z, stepg_pure Z (pu_move Z (tm Z))⟩, ?_⟩
     refine ⟨⟨[9], Z, stepg_pure Z (pu_fieldAddr Z underlying29 Z sizeOf3 (by decide) (tm Z) Z)⟩, ?_⟩
     refine ⟨⟨[36], Z, stepg_plain Z (op_load1 (i := 0) Z isAgg3 (tm Z) Z Z ⟨Z, Z⟩)⟩, ?_⟩
     refine ⟨⟨[35, 37], Z, stepg_pure Z (pu_strSliceM Z underlying9 (tm Z) ⟨_, (tm Z)⟩ Z c296)⟩, ?_⟩
     refine ⟨⟨[3], Z, stepg_pure Z (pu_fieldAddr Z underlying23 Z sizeOf3 (by decide) (tm Z) Z)⟩, ?_⟩
     refine ⟨⟨[39], Z, stepg_plain Z (op_load1 (i := 0) Z isAgg3 (tm Z) Z Z ⟨Z, Z⟩)⟩, ?_⟩
     refine ⟨⟨[38, 40], Z, stepg_plain Z (op_call (vs := [.str (sub s_ s291.c3 (s_.length : Int)), .int .u8 36, .int .i64 l.Bulk, .int .i64 6]) (H := []) Z call78 ⟨(tm Z), (AEv.int _ _), (tm Z), (AEv.int _ _), trivial⟩ (R := []) (List.Perm.refl _) (mewsref05.first.ok r297e) (by rintro _ _ ⟨rfl, rfl⟩; exact ⟨Z, Z⟩))⟩, ?_⟩
     refine ⟨⟨[41], Z, stepg_pure Z (pu_move Z (tm Z))⟩, ?_⟩
     refine ⟨⟨[34], Z, stepg_pure Z (pu_extract Z (tm Z) (Nat.le_of_ble_eq_true Z) Z)⟩, ?_⟩
     refine ⟨⟨[34], Z, stepg_pure Z (pu_extract Z (tm Z) (Nat.le_of_ble_eq_true Z) Z)⟩, ?_⟩
     refine ⟨⟨[34], Z, stepg_pure Z (pu_extract Z (tm Z) (Nat.le_of_ble_eq_true Z) Z)⟩, ?_⟩
     refine ⟨⟨[42], Z, stepg_pure Z (pu_assign Z (tm Z))⟩, ?_⟩
     refine ⟨⟨[43], Z, stepg_pure Z (pu_assign Z (tm Z))⟩, ?_⟩
     refine ⟨⟨[44], Z, stepg_pure Z (pu_assign Z (tm Z))⟩, ?_⟩
     trivial
    refine aw_seq (aw_seq (aw_region (ap (.int .i64 r297.2.2) Z Z Z (pu_move Z (tm Z)) (ap (.bool (!decide (r297.2.2 = 0))) Z Z Z (pu_int (v := .bool (!decide (r297.2.2 = 0))) Z Z (tm Z) (AEv.int _ _) Z) (aops_nil (aw_cond (b := (!decide (r297.2.2 = 0))) (tm Z) (fun hb316 => ?_) (fun hb316 => ?_)))))))
    ·replace h := ite_f (ndec_t hb316) h
     refine aw_seq (aw_region (ap (.str s_) Z Z Z (pu_move Z (tm Z)) (ap (.ptr p164 3) Z Z Z (pu_fieldAddr Z underlying29 Z sizeOf3 (by decide) (tm Z) Z) (ac Z Z Z (op_load1 (i := 2) Z isAgg3 (tm Z) Z Z ?_)))))
     obtain ⟨c298, h⟩ := need_of h
     refine ap (.str (sub s_ s291.c3 (s_.length : Int))) Z Z Z (pu_strSliceM Z underlying9 (tm Z) ⟨_, (tm Z)⟩ Z c298) (ap (.ptr p164 0) Z Z Z (pu_fieldAddr Z underlying29 Z sizeOf9 (by decide) (tm Z) Z) (ac0 Z Z (op_store (i := 2) (cs' := [.str (sub s_ s291.c3 (s_.length : Int)), .sl (.own n292) 1 (s291.c.map AV.str), .int .i64 s291.c2, .int .i64 s291.c3, .bool false, .int .i64 0, .int .i64 0]) Z sizeOf9 (tm Z) (v := .str (sub s_ s291.c3 (s_.length : Int))) (tm Z) Z Z Z (Nat.le_of_ble_eq_true Z) Z (aops_nil (aw_seq (aw_region (ac Z Z Z (op_loadN (i := 2) Z isAgg29 sizeOf29 (tm Z) Z (Nat.le_of_ble_eq_true Z) Z (ap (.int .i64 r297.2.2) Z Z Z (pu_move Z (tm Z)) (ac0 Z Z (op_store (i := 1) (cs' := [.str (sub s_ s291.c3 (s_.length : Int)), .sl (.own n292) 1 (s291.c.map AV.str), .int .i64 s291.c2, .int .i64 s291.c3, .bool false, .int .i64 0, .int .i64 0]) Z sizeOf29 (tm Z) (v := .agg [.str (sub s_ s291.c3 (s_.length : Int)), .sl (.own n292) 1 (s291.c.map AV.str), .int .i64 s291.c2, .int .i64 s291.c3, .bool false, .int .i64 0, .int .i64 0]) (tm Z) Z Z Z (Nat.le_of_ble_eq_true Z) Z (ap (.int .i64 r297.2.2) Z Z Z (pu_assign Z (tm Z)) ?_))))))))))))
     refine aops_nil (aw_ret ?_)
     obtain rfl := some_of h
     have h := congrArg some (hx293 _ rfl)
     obtain rfl := some_of h
     have h := onSum_inr h242
     obtain rfl := some_of h
     exact ⟨[.agg [.str (sub s_ s291.c3 (s_.length : Int)), .sl (.own n292) 1 (s291.c.map AV.str), .int .i64 s291.c2, .int .i64 s291.c3, .bool false, .int .i64 0, .int .i64 0], .int .i64 r297.2.2], .tup [.agg [.str (sub s_ s291.c3 (s_.length : Int)), .sl .no 1 (s291.c.map AV.str), .int .i64 s291.c2, .int .i64 s291.c3, .bool false, .int .i64 0, .int .i64 0], .int .i64 r297.2.2], [], ⟨(CellOk.agg 1 (tm Z) Z isAgg29 sizeOf29 (Nat.le_of_ble_eq_true Z) Z), (tm Z), trivial⟩, (AV.Le.tup ⟨(AV.Le.agg ⟨(AV.Le.refl _), (AV.Le.forget _ _ _), (AV.Le.refl _), (AV.Le.refl _), (AV.Le.refl _), (AV.Le.refl _), (AV.Le.refl _), trivial⟩), (AV.Le.refl _), trivial⟩), Weak.mkL [] (by decide) trivial trivial, ⟨Z, Z⟩⟩
    ·replace h := ite_t (ndec_f hb316) h
     refine aw_skip (aw_seq (aw_region (ap (.ptr p164 3) Z Z Z (pu_fieldAddr Z underlying29 Z sizeOf3 (by decide) (tm Z) Z) (ac Z Z Z (op_load1 (i := 2) Z isAgg3 (tm Z) Z Z (ap (.int .i64 r297.2.1) Z Z Z (pu_move Z (tm Z)) (ap (.int .i64 (IntKind.wrap .i64 (s291.c3 + r297.2.1))) Z Z Z (pu_int (v := .int .i64 (IntKind.wrap .i64 (s291.c3 + r297.2.1))) Z Z (tm Z) (tm Z) Z) (ap (.ptr p164 3) Z Z Z (pu_fieldAddr Z underlying29 Z sizeOf3 (by decide) (tm Z) Z) (ac0 Z Z (op_store (i := 2) (cs' := [.str ([] : List UInt8), .sl (.own n292) 1 (s291.c.map AV.str), .int .i64 s291.c2, .int .i64 (IntKind.wrap .i64 (s291.c3 + r297.2.1)), .bool false, .int .i64 0, .int .i64 0]) Z sizeOf3 (tm Z) (v := .int .i64 (IntKind.wrap .i64 (s291.c3 + r297.2.1))) (tm Z) Z Z Z (Nat.le_of_ble_eq_true Z) Z (aops_nil ?_)))))))))))
     refine aw_seq (aw_region (ap (.str s_) Z Z Z (pu_move Z (tm Z)) (ap (.ptr p164 3) Z Z Z (pu_fieldAddr Z underlying29 Z sizeOf3 (by decide) (tm Z) Z) (ac Z Z Z (op_load1 (i := 2) Z isAgg3 (tm Z) Z Z ?_)))))
     obtain ⟨c299, h⟩ := need_of h
     refine ap (.str (sub s_ (IntKind.wrap .i64 (s291.c3 + r297.2.1)) (s_.length : Int))) Z Z Z (pu_strSliceM Z underlying9 (tm Z) ⟨_, (tm Z)⟩ Z c299) (ap (.str (sub s_ (IntKind.wrap .i64 (s291.c3 + r297.2.1)) (s_.length : Int))) Z Z Z (pu_assign Z (tm Z)) (aops_nil (aw_seq (aw_region (ap (.int .i64 (-1)) Z Z Z (pu_assign Z (AEv.int _ _)) (aops_nil ?_))))))
     obtain ⟨s304, s304e, h305⟩ := bind_some h
     refine aw_meet (ν := Unit) (fun v => [(0, .str s_), (3, .ptr p161 0), (4, .ptr p162 0), (9, .ptr p164 0), (10, .int .i64 r297.1), (13, .str (sub s_ (IntKind.wrap .i64 (s291.c3 + r297.2.1)) (s_.length : Int))), (14, .int .i64 s304)]) (fun v => [(p161, .cells [.int .i64 l.Args, .int .i64 l.Bulk, .int .i64 l.Line]), (p162, .cells [.str ([] : List UInt8), .sl .full 1 (([] : List (List UInt8)).map AV.str), .int .i64 0, .int .i64 0, .bool false, .int .i64 0, .int .i64 0]), (p164, .cells [.str ([] : List UInt8), .sl (.own n292) 1 (s291.c.map AV.str), .int .i64 s291.c2, .int .i64 (IntKind.wrap .i64 (s291.c3 + r297.2.1)), .bool false, .int .i64 0, .int .i64 0]), (n292, .spare)]) ?_ ?_
     ·have h := s304e
      refine aw_seq (aw_region (ap (.str (sub s_ (IntKind.wrap .i64 (s291.c3 + r297.2.1)) (s_.length : Int))) Z Z Z (pu_move Z (tm Z)) (ap (.int .i64 ((sub s_ (IntKind.wrap .i64 (s291.c3 + r297.2.1)) (s_.length : Int)).length : Int)) Z Z Z (pu_strLen Z underlying9 (tm Z)) (ap (.int .i64 r297.1) Z Z Z (pu_move Z (tm Z)) (ap (.bool (decide (r297.1 ≤ ((sub s_ (IntKind.wrap .i64 (s291.c3 + r297.2.1)) (s_.length : Int)).length : Int)))) Z Z Z (pu_int (v := .bool (decide (r297.1 ≤ ((sub s_ (IntKind.wrap .i64 (s291.c3 + r297.2.1)) (s_.length : Int)).length : Int)))) Z Z (tm Z) (tm Z) Z) (aops_nil (aw_cond (b := decide (r297.1 ≤ ((sub s_ (IntKind.wrap .i64 (s291.c3 + r297.2.1)) (s_.length : Int)).length : Int))) (tm Z) (fun hb310 => ?_) (fun hb310 => ?_))))))))
      ·replace h := ite_t (dec_t hb310) h
       refine aw_region (ap (.str (sub s_ (IntKind.wrap .i64 (s291.c3 + r297.2.1)) (s_.length : Int))) Z Z Z (pu_move Z (tm Z)) (ap (.int .i64 r297.1) Z Z Z (pu_move Z (tm Z)) ?_))
       obtain ⟨c307, h⟩ := need_of h
       obtain ⟨x308, x308e, h⟩ := letO_of h
       refine ap (.str x308) Z Z Z (APure.eq (pu_strSliceM Z underlying9 (tm Z) ⟨_, (tm Z)⟩ Z c307) (congrArg (AV.str) x308e.symm)) ?_
       obtain ⟨r309, r309e, h⟩ := bind_some h
       refine ac Z Z Z (op_call (vs := [.str x308]) (H := []) Z call79 ⟨(tm Z), trivial⟩ (List.Perm.refl _) (mewsref05.ends.ok r309e) ?_)
       rintro _ _ ⟨rfl, rfl⟩
       refine ap (.int .i64 r309) Z Z Z (pu_assign Z (tm Z)) (aops_nil ?_)
       obtain rfl := some_of h
       exact ⟨(), Weak.mkL [0, 1, 2, 3] (by decide) ⟨⟨_, Z, (CellsLe.refl _), Z⟩, ⟨_, Z, (CellsLe.refl _), Z⟩, ⟨_, Z, (CellsLe.refl _), Z⟩, ⟨_, Z, Z⟩, trivial⟩ ⟨AEv.tmp Z, AEv.tmp Z, AEv.tmp Z, AEv.tmp Z, AEv.tmp Z, AEv.tmp Z, AEv.tmp Z, trivial⟩⟩
      ·replace h := ite_f (dec_f hb310) h
       refine aw_skip ?_
       obtain rfl := some_of h
       exact ⟨(), Weak.mkL [0, 1, 2, 3] (by decide) ⟨⟨_, Z, (CellsLe.refl _), Z⟩, ⟨_, Z, (CellsLe.refl _), Z⟩, ⟨_, Z, (CellsLe.refl _), Z⟩, ⟨_, Z, Z⟩, trivial⟩ ⟨AEv.tmp Z, AEv.tmp Z, AEv.tmp Z, AEv.tmp Z, AEv.tmp Z, AEv.tmp Z, AEv.tmp Z, trivial⟩⟩
     ·intro _
      have h := h305
      refine aw_seq (aw_seq (aw_region (ap (.int .i64 s304) Z Z Z (pu_move Z (tm Z)) (ap (.bool (!decide (s304 = 0))) Z Z Z (pu_int (v := .bool (!decide (s304 = 0))) Z Z (tm Z) (AEv.int _ _) Z) (aops_nil (aw_cond (b := (!decide (s304 = 0))) (tm Z) (fun hb315 => ?_) (fun hb315 => ?_)))))))
      ·replace h := ite_f (ndec_t hb315) h
       refine aw_seq (aw_region (ap (.ptr p164 4) Z Z Z (pu_fieldAddr Z underlying29 Z sizeOf4 (by decide) (tm Z) Z) (ac0 Z Z (op_store (i := 2) (cs' := [.str ([] : List UInt8), .sl (.own n292) 1 (s291.c.map AV.str), .int .i64 s291.c2, .int .i64 (IntKind.wrap .i64 (s291.c3 + r297.2.1)), .bool true, .int .i64 0, .int .i64 0]) Z sizeOf4 (tm Z) (v := .bool true) (AEv.bool _) Z Z Z (Nat.le_of_ble_eq_true Z) Z (aops_nil (aw_seq (aw_region (ap (.int .i64 r297.1) Z Z Z (pu_move Z (tm Z)) (ap (.ptr p164 5) Z Z Z (pu_fieldAddr Z underlying29 Z sizeOf3 (by decide) (tm Z) Z) (ac0 Z Z (op_store (i := 2) (cs' := [.str ([] : List UInt8), .sl (.own n292) 1 (s291.c.map AV.str), .int .i64 s291.c2, .int .i64 (IntKind.wrap .i64 (s291.c3 + r297.2.1)), .bool true, .int .i64 r297.1, .int .i64 0]) Z sizeOf3 (tm Z) (v := .int .i64 r297.1) (tm Z) Z Z Z (Nat.le_of_ble_eq_true Z) Z ?_)))))))))))
       refine aops_nil (aw_seq (aw_region (ap (.str (sub s_ (IntKind.wrap .i64 (s291.c3 + r297.2.1)) (s_.length : Int))) Z Z Z (pu_move Z (tm Z)) (ap (.ptr p164 0) Z Z Z (pu_fieldAddr Z underlying29 Z sizeOf9 (by decide) (tm Z) Z) (ac0 Z Z (op_store (i := 2) (cs' := [.str (sub s_ (IntKind.wrap .i64 (s291.c3 + r297.2.1)) (s_.length : Int)), .sl (.own n292) 1 (s291.c.map AV.str), .int .i64 s291.c2, .int .i64 (IntKind.wrap .i64 (s291.c3 + r297.2.1)), .bool true, .int .i64 r297.1, .int .i64 0]) Z sizeOf9 (tm Z) (v := .str (sub s_ (IntKind.wrap .i64 (s291.c3 + r297.2.1)) (s_.length : Int))) (tm Z) Z Z Z (Nat.le_of_ble_eq_true Z) Z (aops_nil (aw_seq (aw_region (ac Z Z Z (op_loadN (i := 2) Z isAgg29 sizeOf29 (tm Z) Z (Nat.le_of_ble_eq_true Z) Z ?_)))))))))))
       refine ap (.int .i64 s304) Z Z Z (pu_move Z (tm Z)) (ac0 Z Z (op_store (i := 1) (cs' := [.str (sub s_ (IntKind.wrap .i64 (s291.c3 + r297.2.1)) (s_.length : Int)), .sl (.own n292) 1 (s291.c.map AV.str), .int .i64 s291.c2, .int .i64 (IntKind.wrap .i64 (s291.c3 + r297.2.1)), .bool true, .int .i64 r297.1, .int .i64 0]) Z sizeOf29 (tm Z) (v := .agg [.str (sub s_ (IntKind.wrap .i64 (s291.c3 + r297.2.1)) (s_.length : Int)), .sl (.own n292) 1 (s291.c.map AV.str), .int .i64 s291.c2, .int .i64 (IntKind.wrap .i64 (s291.c3 + r297.2.1)), .bool true, .int .i64 r297.1, .int .i64 0]) (tm Z) Z Z Z (Nat.le_of_ble_eq_true Z) Z (ap (.int .i64 s304) Z Z Z (pu_assign Z (tm Z)) (aops_nil (aw_ret ?_)))))
       obtain rfl := some_of h
       have h := congrArg some (hx293 _ rfl)
       obtain rfl := some_of h
       have h := onSum_inr h242
       obtain rfl := some_of h
       exact ⟨[.agg [.str (sub s_ (IntKind.wrap .i64 (s291.c3 + r297.2.1)) (s_.length : Int)), .sl (.own n292) 1 (s291.c.map AV.str), .int .i64 s291.c2, .int .i64 (IntKind.wrap .i64 (s291.c3 + r297.2.1)), .bool true, .int .i64 r297.1, .int .i64 0], .int .i64 s304], .tup [.agg [.str (sub s_ (IntKind.wrap .i64 (s291.c3 + r297.2.1)) (s_.length : Int)), .sl .no 1 (s291.c.map AV.str), .int .i64 s291.c2, .int .i64 (IntKind.wrap .i64 (s291.c3 + r297.2.1)), .bool true, .int .i64 r297.1, .int .i64 0], .int .i64 s304], [], ⟨(CellOk.agg 1 (tm Z) Z isAgg29 sizeOf29 (Nat.le_of_ble_eq_true Z) Z), (tm Z), trivial⟩, (AV.Le.tup ⟨(AV.Le.agg ⟨(AV.Le.refl _), (AV.Le.forget _ _ _), (AV.Le.refl _), (AV.Le.refl _), (AV.Le.refl _), (AV.Le.refl _), (AV.Le.refl _), trivial⟩), (AV.Le.refl _), trivial⟩), Weak.mkL [] (by decide) trivial trivial, ⟨Z, Z⟩⟩
      ·replace h := ite_t (ndec_f hb315) h
       refine aw_skip (aw_seq ?_)
       obtain ⟨c311, h⟩ := need_of h
       obtain ⟨x312, x312e, h⟩ := letO_of h
       obtain ⟨c313, h⟩ := need_of h
       refine aw_reserve fun p314 => (aw_plan (by decide +kernel) [([], some 80, [9]), ([0], some 81, [80]), ([], some 82, [13]), ([], some 83, [10]), ([2, 3], some 84, [82, 83]), ([4], some 85, [84]), ([1, 5], some 86, [81, 85]), ([0, 1, 2, 3, 4, 5, 6], some 87, [9]), ([7, 6, 6, 0, 1, 2, 3, 4, 5, 6], none, [87, 86])] Z [[], [0], [], [], [2, 3], [2, 3, 4], [0, 1, 2, 3, 4, 5], [0, 1, 2, 3, 4, 5, 6], [0, 1, 2, 3, 4, 5, 6, 7]] [[], [(3, 0, false)], [], [], [], [], [(4, 0, true), (0, 0, true)], [], [(3, 0, true)]] [[6], [], [], [8], [6]] [[[(p314, .resv)], [(p314, .spare)]], [[(p161, .cells [.int .i64 l.Args, .int .i64 l.Bulk, .int .i64 l.Line])]], [[(p162, .cells [.str ([] : List UInt8), .sl .full 1 (([] : List (List UInt8)).map AV.str), .int .i64 0, .int .i64 0, .bool false, .int .i64 0, .int .i64 0])]], [[(p164, .cells [.str ([] : List UInt8), .sl (.own n292) 1 (s291.c.map AV.str), .int .i64 s291.c2, .int .i64 (IntKind.wrap .i64 (s291.c3 + r297.2.1)), .bool false, .int .i64 0, .int .i64 0])], [(p164, .cells [.str ([] : List UInt8), .sl (.own p314) 1 ((s291.c ++ [x312]).map AV.str), .int .i64 s291.c2, .int .i64 (IntKind.wrap .i64 (s291.c3 + r297.2.1)), .bool false, .int .i64 0, .int .i64 0])]], [[(n292, .spare)], []]] [.ptr p164 1, .sl (.own n292) 1 (s291.c.map AV.str), .str (sub s_ (IntKind.wrap .i64 (s291.c3 + r297.2.1)) (s_.length : Int)), .int .i64 r297.1, .str x312, .sl .full 1 ([x312].map AV.str), .sl (.own p314) 1 ((s291.c ++ [x312]).map AV.str), .ptr p164 1, .un] (by decide +kernel) Z Z ?_ ?_)
       ·refine ⟨⟨[9], Z, stepg_pure Z (pu_fieldAddr Z underlying29 Z sizeOf26 (by decide) (tm Z) Z)⟩, ?_⟩
        refine ⟨⟨[80], Z, stepg_plain Z (op_load1 (i := 0) Z isAgg26 (tm Z) Z Z ⟨Z, Z⟩)⟩, ?_⟩
        refine ⟨⟨[13], Z, stepg_pure Z (pu_move Z (tm Z))⟩, ?_⟩
        refine ⟨⟨[10], Z, stepg_pure Z (pu_move Z (tm Z))⟩, ?_⟩
        refine ⟨⟨[82, 83], Z, stepg_pure Z (APure.eq (pu_strSliceM Z underlying9 (tm Z) Z ⟨_, (tm Z)⟩ c311) (congrArg (AV.str) x312e.symm))⟩, ?_⟩
        refine ⟨⟨[84], Z, stepg_plain Z (op_buildSlice (xs := ([x312] : List (List UInt8)).map AV.str) (aparts := [(0, .str x312)]) Z underlying26 sizeOf9 zeroValue9 (by decide) (by decide) ⟨Z, (tm Z), trivial⟩ Z Z Z ⟨Z, Z⟩)⟩, ?_⟩
        refine ⟨⟨[81, 85], Z, stepg_plain Z (aop_settleS (op_appendOM (q := 0) Z underlying26 underlying26 (.inl Z) typeInfo9 Z Z Z (by decide) (tm Z) Z (given_sl (tm Z)) c313 fun t => ⟨t, Z, Z⟩) ⟨Z, Z⟩)⟩, ?_⟩
        refine ⟨⟨[9], Z, stepg_pure Z (pu_fieldAddr Z underlying29 Z sizeOf26 (by decide) (tm Z) Z)⟩, ?_⟩
        refine ⟨⟨[86, 87], Z, stepg_plain Z (op_store (i := 0) (cs' := [.str ([] : List UInt8), .sl (.own p314) 1 ((s291.c ++ [x312]).map AV.str), .int .i64 s291.c2, .int .i64 (IntKind.wrap .i64 (s291.c3 + r297.2.1)), .bool false, .int .i64 0, .int .i64 0]) Z sizeOf26 (tm Z) (v := .sl (.own p314) 1 ((s291.c ++ [x312]).map AV.str)) (tm Z) Z Z Z (Nat.le_of_ble_eq_true Z) Z ⟨Z, Z⟩)⟩, ?_⟩
        trivial
       refine aw_seq (aw_region (ap (.ptr p164 2) Z Z Z (pu_fieldAddr Z underlying29 Z sizeOf3 (by decide) (tm Z) Z) (ac Z Z Z (op_load1 (i := 3) Z isAgg3 (tm Z) Z Z (ap (.int .i64 (IntKind.wrap .i64 (s291.c2 - 1))) Z Z Z (pu_int (v := .int .i64 (IntKind.wrap .i64 (s291.c2 - 1))) Z Z (tm Z) (AEv.int _ _) Z) (ap (.ptr p164 2) Z Z Z (pu_fieldAddr Z underlying29 Z sizeOf3 (by decide) (tm Z) Z) (ac0 Z Z (op_store (i := 3) (cs' := [.str ([] : List UInt8), .sl (.own p314) 1 ((s291.c ++ [x312]).map AV.str), .int .i64 (IntKind.wrap .i64 (s291.c2 - 1)), .int .i64 (IntKind.wrap .i64 (s291.c3 + r297.2.1)), .bool false, .int .i64 0, .int .i64 0]) Z sizeOf3 (tm Z) (v := .int .i64 (IntKind.wrap .i64 (s291.c2 - 1))) (tm Z) Z Z Z (Nat.le_of_ble_eq_true Z) Z (aops_nil (aw_region (ap (.ptr p164 3) Z Z Z (pu_fieldAddr Z underlying29 Z sizeOf3 (by decide) (tm Z) Z) ?_)))))))))))
       refine ac Z Z Z (op_load1 (i := 3) Z isAgg3 (tm Z) Z Z (ap (.int .i64 r297.1) Z Z Z (pu_move Z (tm Z)) (ap (.int .i64 (IntKind.wrap .i64 (r297.1 + 2))) Z Z Z (pu_int (v := .int .i64 (IntKind.wrap .i64 (r297.1 + 2))) Z Z (tm Z) (AEv.int _ _) Z) (ap (.int .i64 (IntKind.wrap .i64 ((IntKind.wrap .i64 (s291.c3 + r297.2.1)) + (IntKind.wrap .i64 (r297.1 + 2))))) Z Z Z (pu_int (v := .int .i64 (IntKind.wrap .i64 ((IntKind.wrap .i64 (s291.c3 + r297.2.1)) + (IntKind.wrap .i64 (r297.1 + 2))))) Z Z (tm Z) (tm Z) Z) (ap (.ptr p164 3) Z Z Z (pu_fieldAddr Z underlying29 Z sizeOf3 (by decide) (tm Z) Z) (ac0 Z Z (op_store (i := 3) (cs' := [.str ([] : List UInt8), .sl (.own p314) 1 ((s291.c ++ [x312]).map AV.str), .int .i64 (IntKind.wrap .i64 (s291.c2 - 1)), .int .i64 (IntKind.wrap .i64 ((IntKind.wrap .i64 (s291.c3 + r297.2.1)) + (IntKind.wrap .i64 (r297.1 + 2)))), .bool false, .int .i64 0, .int .i64 0]) Z sizeOf3 (tm Z) (v := .int .i64 (IntKind.wrap .i64 ((IntKind.wrap .i64 (s291.c3 + r297.2.1)) + (IntKind.wrap .i64 (r297.1 + 2))))) (tm Z) Z Z Z (Nat.le_of_ble_eq_true Z) Z (aops_nil ?_))))))))
       obtain rfl := some_of h
       exact ⟨_, p314, Z, Weak.mkL [1, 2, 3, 0] (by decide) ⟨⟨_, Z, (CellsLe.refl _), Z⟩, ⟨_, Z, (CellsLe.refl _), Z⟩, ⟨_, Z, ⟨(AV.Le.refl _), (AV.Le.refl _), (AV.Le.refl _), (AV.Le.refl _), (AV.Le.refl _), (AV.Le.refl _), (AV.Le.refl _), trivial⟩, Z⟩, ⟨_, Z, Z⟩, trivial⟩ ⟨AEv.tmp Z, AEv.tmp Z, AEv.tmp Z, AEv.tmp Z, trivial⟩⟩
   ·replace h := ite_f (dec_f hb317) h
    refine aw_exit ?_
    obtain rfl := some_of h
    have h := congrArg some (hx293 _ rfl)
    exact ⟨(s291.c, s291.c2, s291.c3), n292, (some_of h).symm, Weak.mkL [1, 2, 3] (by decide) ⟨⟨_, Z, (CellsLe.refl _), Z⟩, ⟨_, Z, (CellsLe.refl _), Z⟩, ⟨_, Z, Z⟩, trivial⟩ ⟨AEv.tmp Z, AEv.tmp Z, trivial⟩⟩

end Go.Pu
