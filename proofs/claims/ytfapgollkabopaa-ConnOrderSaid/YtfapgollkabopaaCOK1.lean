/- Printed by lift.py: the functions come to them. -/
import Derived.Test.YtfapgollkabopaaCOK0
set_option maxRecDepth 100000
set_option maxHeartbeats 0
namespace Go.Pu
open Go.Lift Go.Proofs.Try Go.RowKit Go.Proofs

theorem parse.parser.line.ok {p_ : parse.parser} {r : Bool × parse.parser} (h : parse.parser.line p_ = some r) (o0 q0 q1 : Nat) : Go.Lift.Spec prog 75 [.ptr o0 0] [(o0, .cells (parse.parser.ct (.own q0) (.own q1) p_)), (q0, .spare), (q1, .spare)] (fun v H => ∃ n0 n1, v = .bool r.1 ∧ H = [(o0, .cells [.str r.2.in_.Rest, .sl (.own n0) 1 (r.2.in_.Args.map AV.str), .int .i64 r.2.in_.Left, .int .i64 r.2.in_.Size, .bool r.2.in_.Body, .int .i64 r.2.in_.Need, .int .i64 r.2.in_.Dead, .str r.2.s, .int .i64 r.2.l.Args, .int .i64 r.2.l.Bulk, .int .i64 r.2.l.Line, .sl (.own n1) 2 (r.2.out.map api.Request.av)]), (n0, .spare), (n1, .spare)]) := by
  unfold parse.parser.line at h
  refine Go.Lift.Spec.of_body (rs := [.tmp 2]) func75 rfl rfl (Nat.le_of_ble_eq_true rfl) rfl ?_
  refine aw_seq ?_
  refine aw_region ?_
  refine ac rfl rfl rfl (op_box (cs := [.ptr o0 0]) (v := .ptr o0 0) rfl (AEv.tmp rfl) rfl rfl ?_)
  intro p35
  refine ap (.bool false) rfl rfl rfl (pu_assign rfl (AEv.bool _)) ?_
  refine aops_nil ?_
  refine aw_seq ?_
  refine aw_region ?_
  refine ac rfl rfl rfl (op_load1 (i := 0) rfl isAgg91 (AEv.tmp rfl) rfl rfl ?_)
  refine ap (.ptr o0 0) rfl rfl rfl (pu_nilCheck rfl (AEv.tmp rfl) rfl) ?_
  refine ap (.ptr o0 7) rfl rfl rfl (pu_fieldAddr rfl underlying93 rfl sizeOf9 (by decide) (AEv.tmp rfl) rfl) ?_
  refine ac rfl rfl rfl (op_load1 (i := 1) rfl isAgg9 (AEv.tmp rfl) rfl rfl ?_)
  obtain ⟨r36, r36e, h⟩ := bind_some h
  refine ac rfl rfl rfl (op_call (vs := [.str p_.s, .int .u8 10]) (H := []) rfl call87 ⟨(AEv.tmp rfl), (AEv.int _ _), trivial⟩ (List.Perm.refl _) (strings.IndexByte.ok r36e) ?_)
  rintro _ _ ⟨rfl, rfl⟩
  refine ap (.int .i64 r36) rfl rfl rfl (pu_assign rfl (AEv.tmp rfl)) ?_
  refine aops_nil ?_
  refine aw_seq ?_
  obtain ⟨s39, s39e, h40⟩ := letO_of h
  refine aw_meet (ν := Unit) (fun v => [(1, .ptr p35 0), (3, .int .i64 r36), (35, .bool s39)]) (fun v => [(p35, .cells [.ptr o0 0]), (o0, .cells (parse.parser.ct (.own q0) (.own q1) p_)), (q0, .spare), (q1, .spare)]) ?_ ?_
  · have h := s39e.symm
    rcases Bool.eq_false_or_eq_true (decide (r36 < 0)) with hb42 | hb42
    · replace h := ite_t (dec_t hb42) h
      rcases Bool.eq_false_or_eq_true (decide (p_.l.Line < (p_.s.length : Int))) with hb43 | hb43
      · replace h := ite_t (dec_t hb43) h
        refine aw_plan (by decide +kernel) [([], some 12, [3]), ([0], some 13, [12]), ([1], some 14, [13]), ([2], some 15, [1, 14]), ([3, 2], some 16, [15, 14]), ([4, 2], some 17, [16, 14]), ([5, 2], some 18, [17, 14]), ([6, 2], some 19, [18, 14]), ([2], some 20, [1, 14]), ([8, 2], some 21, [20, 14]), ([9, 2], some 22, [21, 14]), ([10, 2], some 23, [22, 14]), ([11, 2], some 24, [23, 14]), ([7, 12, 2], some 25, [19, 24, 14]), ([2, 13], some 26, [14, 25]), ([14, 2], some 27, [26]), ([15], some 28, [3, 27]), ([15], some 29, [1, 27]), ([17, 15], some 30, [29, 27]), ([18, 15], some 31, [30, 27]), ([19, 15], some 32, [31, 27]), ([20, 15], some 33, [32, 27]), ([16, 21, 15], some 34, [28, 33, 27]), ([15, 22], some 35, [27, 34])] rfl [[], [0], [0, 1], [0, 1, 2], [0, 1, 2, 3], [0, 1, 2, 3, 4], [0, 1, 2, 3, 4, 5], [0, 1, 2, 3, 4, 5, 6], [0, 1, 2], [0, 1, 2, 8], [0, 1, 2, 8, 9], [0, 1, 2, 8, 9, 10], [0, 1, 2, 8, 9, 10, 11], [0, 1, 2, 3, 4, 5, 6, 7, 8, 9, 10, 11, 12], [0, 1, 2, 3, 4, 5, 6, 7, 8, 9, 10, 11, 12, 13], [0, 1, 2, 3, 4, 5, 6, 7, 8, 9, 10, 11, 12, 13, 14], [0, 1, 2, 3, 4, 5, 6, 7, 8, 9, 10, 11, 12, 13, 14, 15], [0, 1, 2, 3, 4, 5, 6, 7, 8, 9, 10, 11, 12, 13, 14, 15], [0, 1, 2, 3, 4, 5, 6, 7, 8, 9, 10, 11, 12, 13, 14, 15, 17], [0, 1, 2, 3, 4, 5, 6, 7, 8, 9, 10, 11, 12, 13, 14, 15, 17, 18], [0, 1, 2, 3, 4, 5, 6, 7, 8, 9, 10, 11, 12, 13, 14, 15, 17, 18, 19], [0, 1, 2, 3, 4, 5, 6, 7, 8, 9, 10, 11, 12, 13, 14, 15, 17, 18, 19, 20], [0, 1, 2, 3, 4, 5, 6, 7, 8, 9, 10, 11, 12, 13, 14, 15, 16, 17, 18, 19, 20, 21], [0, 1, 2, 3, 4, 5, 6, 7, 8, 9, 10, 11, 12, 13, 14, 15, 16, 17, 18, 19, 20, 21, 22]] [[], [], [], [(0, 0, false)], [], [], [(1, 0, false)], [], [(0, 0, false)], [], [], [], [(1, 0, false)], [], [], [], [], [], [], [], [], [], [], []] [[], [], [], []] [[[(p35, .cells [.ptr o0 0])]], [[(o0, .cells (parse.parser.ct (.own q0) (.own q1) p_))]], [[(q0, .spare)]], [[(q1, .spare)]]] [.int .i64 r36, .bool (decide (r36 < 0)), .bool true, .ptr o0 0, .ptr o0 0, .ptr o0 7, .str p_.s, .int .i64 (p_.s.length : Int), .ptr o0 0, .ptr o0 0, .ptr o0 8, .ptr o0 10, .int .i64 p_.l.Line, .bool (decide (p_.l.Line < (p_.s.length : Int))), .bool (decide (p_.l.Line < (p_.s.length : Int))), .bool true, .lit undef, .lit undef, .lit undef, .lit undef, .lit undef, .lit undef, .lit undef, .bool true] (by decide +kernel) rfl rfl ?_ ?_
        · refine ⟨⟨[3], rfl, stepg_pure rfl (pu_move rfl (AEv.tmp rfl))⟩, ?_⟩
          refine ⟨⟨[12], rfl, stepg_pure rfl (pu_int (v := .bool (decide (r36 < 0))) rfl rfl (AEv.tmp rfl) (AEv.int _ _) rfl)⟩, ?_⟩
          refine ⟨⟨[13], rfl, (stepg_pure rfl (pu_move rfl (AEv.tmp rfl))).cast (congrArg AV.bool hb42)⟩, ?_⟩
          refine ⟨⟨[1, 14], rfl, stepg_guard rfl rfl rfl (by decide) rfl (op_load1 (i := 0) rfl isAgg91 (AEv.tmp rfl) rfl rfl ⟨rfl, rfl⟩)⟩, ?_⟩
          refine ⟨⟨[14, 15], rfl, stepg_guardP rfl rfl rfl (by decide) rfl (pu_nilCheck rfl (AEv.tmp rfl) rfl)⟩, ?_⟩
          refine ⟨⟨[14, 16], rfl, stepg_guardP rfl rfl rfl (by decide) rfl (pu_fieldAddr rfl underlying93 rfl sizeOf9 (by decide) (AEv.tmp rfl) rfl)⟩, ?_⟩
          refine ⟨⟨[14, 17], rfl, stepg_guard rfl rfl rfl (by decide) rfl (op_load1 (i := 0) rfl isAgg9 (AEv.tmp rfl) rfl rfl ⟨rfl, rfl⟩)⟩, ?_⟩
          refine ⟨⟨[14, 18], rfl, stepg_guardP rfl rfl rfl (by decide) rfl (pu_strLen rfl underlying9 (AEv.tmp rfl))⟩, ?_⟩
          refine ⟨⟨[1, 14], rfl, stepg_guard rfl rfl rfl (by decide) rfl (op_load1 (i := 0) rfl isAgg91 (AEv.tmp rfl) rfl rfl ⟨rfl, rfl⟩)⟩, ?_⟩
          refine ⟨⟨[14, 20], rfl, stepg_guardP rfl rfl rfl (by decide) rfl (pu_nilCheck rfl (AEv.tmp rfl) rfl)⟩, ?_⟩
          refine ⟨⟨[14, 21], rfl, stepg_guardP rfl rfl rfl (by decide) rfl (pu_fieldAddr rfl underlying93 rfl sizeOf23 (by decide) (AEv.tmp rfl) rfl)⟩, ?_⟩
          refine ⟨⟨[14, 22], rfl, stepg_guardP rfl rfl rfl (by decide) rfl (pu_fieldAddr rfl underlying23 rfl sizeOf3 (by decide) (AEv.tmp rfl) rfl)⟩, ?_⟩
          refine ⟨⟨[14, 23], rfl, stepg_guard rfl rfl rfl (by decide) rfl (op_load1 (i := 0) rfl isAgg3 (AEv.tmp rfl) rfl rfl ⟨rfl, rfl⟩)⟩, ?_⟩
          refine ⟨⟨[14, 19, 24], rfl, stepg_guardP rfl rfl rfl (by decide) rfl (pu_int (v := .bool (decide (p_.l.Line < (p_.s.length : Int)))) rfl rfl (AEv.tmp rfl) (AEv.tmp rfl) rfl)⟩, ?_⟩
          refine ⟨⟨[14, 25], rfl, stepg_pure rfl (pu_pick (b := true) rfl (AEv.tmp rfl) (fun _ => (AEv.tmp rfl)) (fun h => nomatch h))⟩, ?_⟩
          refine ⟨⟨[26], rfl, (stepg_pure rfl (pu_move rfl (AEv.tmp rfl))).cast (congrArg AV.bool hb43)⟩, ?_⟩
          refine ⟨⟨[3, 27], rfl, stepg_pass rfl rfl rfl (by decide) rfl (by decide)⟩, ?_⟩
          refine ⟨⟨[1, 27], rfl, stepg_pass rfl rfl rfl (by decide) rfl (by decide)⟩, ?_⟩
          refine ⟨⟨[27, 29], rfl, stepg_pass rfl rfl rfl (by decide) rfl (by decide)⟩, ?_⟩
          refine ⟨⟨[27, 30], rfl, stepg_pass rfl rfl rfl (by decide) rfl (by decide)⟩, ?_⟩
          refine ⟨⟨[27, 31], rfl, stepg_pass rfl rfl rfl (by decide) rfl (by decide)⟩, ?_⟩
          refine ⟨⟨[27, 32], rfl, stepg_pass rfl rfl rfl (by decide) rfl (by decide)⟩, ?_⟩
          refine ⟨⟨[27, 28, 33], rfl, stepg_pass rfl rfl rfl (by decide) rfl (by decide)⟩, ?_⟩
          refine ⟨⟨[27, 34], rfl, stepg_pure rfl (pu_pick (b := true) rfl (AEv.tmp rfl) (fun _ => (AEv.bool _)) (fun h => nomatch h))⟩, ?_⟩
          trivial
        subst h
        exact ⟨(), Weak.mkL [0, 1, 2, 3] (by decide) ⟨⟨_, rfl, ⟨(AV.Le.refl _), trivial⟩, rfl⟩, ⟨_, rfl, (CellsLe.refl _), rfl⟩, ⟨_, rfl, rfl⟩, ⟨_, rfl, rfl⟩, trivial⟩ ⟨AEv.tmp rfl, AEv.tmp rfl, AEv.tmp rfl, trivial⟩⟩
      · replace h := ite_f (dec_f hb43) h
        refine aw_plan (by decide +kernel) [([], some 12, [3]), ([0], some 13, [12]), ([1], some 14, [13]), ([2], some 15, [1, 14]), ([3, 2], some 16, [15, 14]), ([4, 2], some 17, [16, 14]), ([5, 2], some 18, [17, 14]), ([6, 2], some 19, [18, 14]), ([2], some 20, [1, 14]), ([8, 2], some 21, [20, 14]), ([9, 2], some 22, [21, 14]), ([10, 2], some 23, [22, 14]), ([11, 2], some 24, [23, 14]), ([7, 12, 2], some 25, [19, 24, 14]), ([2, 13], some 26, [14, 25]), ([14, 2], some 27, [26]), ([15], some 28, [3, 27]), ([15], some 29, [1, 27]), ([17, 15], some 30, [29, 27]), ([18, 15], some 31, [30, 27]), ([19, 15], some 32, [31, 27]), ([20, 15], some 33, [32, 27]), ([16, 21, 15], some 34, [28, 33, 27]), ([15, 22], some 35, [27, 34])] rfl [[], [0], [0, 1], [0, 1, 2], [0, 1, 2, 3], [0, 1, 2, 3, 4], [0, 1, 2, 3, 4, 5], [0, 1, 2, 3, 4, 5, 6], [0, 1, 2], [0, 1, 2, 8], [0, 1, 2, 8, 9], [0, 1, 2, 8, 9, 10], [0, 1, 2, 8, 9, 10, 11], [0, 1, 2, 3, 4, 5, 6, 7, 8, 9, 10, 11, 12], [0, 1, 2, 3, 4, 5, 6, 7, 8, 9, 10, 11, 12, 13], [0, 1, 2, 3, 4, 5, 6, 7, 8, 9, 10, 11, 12, 13, 14], [0, 1, 2, 3, 4, 5, 6, 7, 8, 9, 10, 11, 12, 13, 14, 15], [0, 1, 2, 3, 4, 5, 6, 7, 8, 9, 10, 11, 12, 13, 14, 15], [0, 1, 2, 3, 4, 5, 6, 7, 8, 9, 10, 11, 12, 13, 14, 15, 17], [0, 1, 2, 3, 4, 5, 6, 7, 8, 9, 10, 11, 12, 13, 14, 15, 17, 18], [0, 1, 2, 3, 4, 5, 6, 7, 8, 9, 10, 11, 12, 13, 14, 15, 17, 18, 19], [0, 1, 2, 3, 4, 5, 6, 7, 8, 9, 10, 11, 12, 13, 14, 15, 17, 18, 19, 20], [0, 1, 2, 3, 4, 5, 6, 7, 8, 9, 10, 11, 12, 13, 14, 15, 16, 17, 18, 19, 20, 21], [0, 1, 2, 3, 4, 5, 6, 7, 8, 9, 10, 11, 12, 13, 14, 15, 16, 17, 18, 19, 20, 21, 22]] [[], [], [], [(0, 0, false)], [], [], [(1, 0, false)], [], [(0, 0, false)], [], [], [], [(1, 0, false)], [], [], [], [], [(0, 0, false)], [], [], [], [(1, 0, false)], [], []] [[], [], [], []] [[[(p35, .cells [.ptr o0 0])]], [[(o0, .cells (parse.parser.ct (.own q0) (.own q1) p_))]], [[(q0, .spare)]], [[(q1, .spare)]]] [.int .i64 r36, .bool (decide (r36 < 0)), .bool true, .ptr o0 0, .ptr o0 0, .ptr o0 7, .str p_.s, .int .i64 (p_.s.length : Int), .ptr o0 0, .ptr o0 0, .ptr o0 8, .ptr o0 10, .int .i64 p_.l.Line, .bool (decide (p_.l.Line < (p_.s.length : Int))), .bool (decide (p_.l.Line < (p_.s.length : Int))), .bool false, .int .i64 r36, .ptr o0 0, .ptr o0 0, .ptr o0 8, .ptr o0 10, .int .i64 p_.l.Line, .bool (decide (p_.l.Line < r36)), .bool (decide (p_.l.Line < r36))] (by decide +kernel) rfl rfl ?_ ?_
        · refine ⟨⟨[3], rfl, stepg_pure rfl (pu_move rfl (AEv.tmp rfl))⟩, ?_⟩
          refine ⟨⟨[12], rfl, stepg_pure rfl (pu_int (v := .bool (decide (r36 < 0))) rfl rfl (AEv.tmp rfl) (AEv.int _ _) rfl)⟩, ?_⟩
          refine ⟨⟨[13], rfl, (stepg_pure rfl (pu_move rfl (AEv.tmp rfl))).cast (congrArg AV.bool hb42)⟩, ?_⟩
          refine ⟨⟨[1, 14], rfl, stepg_guard rfl rfl rfl (by decide) rfl (op_load1 (i := 0) rfl isAgg91 (AEv.tmp rfl) rfl rfl ⟨rfl, rfl⟩)⟩, ?_⟩
          refine ⟨⟨[14, 15], rfl, stepg_guardP rfl rfl rfl (by decide) rfl (pu_nilCheck rfl (AEv.tmp rfl) rfl)⟩, ?_⟩
          refine ⟨⟨[14, 16], rfl, stepg_guardP rfl rfl rfl (by decide) rfl (pu_fieldAddr rfl underlying93 rfl sizeOf9 (by decide) (AEv.tmp rfl) rfl)⟩, ?_⟩
          refine ⟨⟨[14, 17], rfl, stepg_guard rfl rfl rfl (by decide) rfl (op_load1 (i := 0) rfl isAgg9 (AEv.tmp rfl) rfl rfl ⟨rfl, rfl⟩)⟩, ?_⟩
          refine ⟨⟨[14, 18], rfl, stepg_guardP rfl rfl rfl (by decide) rfl (pu_strLen rfl underlying9 (AEv.tmp rfl))⟩, ?_⟩
          refine ⟨⟨[1, 14], rfl, stepg_guard rfl rfl rfl (by decide) rfl (op_load1 (i := 0) rfl isAgg91 (AEv.tmp rfl) rfl rfl ⟨rfl, rfl⟩)⟩, ?_⟩
          refine ⟨⟨[14, 20], rfl, stepg_guardP rfl rfl rfl (by decide) rfl (pu_nilCheck rfl (AEv.tmp rfl) rfl)⟩, ?_⟩
          refine ⟨⟨[14, 21], rfl, stepg_guardP rfl rfl rfl (by decide) rfl (pu_fieldAddr rfl underlying93 rfl sizeOf23 (by decide) (AEv.tmp rfl) rfl)⟩, ?_⟩
          refine ⟨⟨[14, 22], rfl, stepg_guardP rfl rfl rfl (by decide) rfl (pu_fieldAddr rfl underlying23 rfl sizeOf3 (by decide) (AEv.tmp rfl) rfl)⟩, ?_⟩
          refine ⟨⟨[14, 23], rfl, stepg_guard rfl rfl rfl (by decide) rfl (op_load1 (i := 0) rfl isAgg3 (AEv.tmp rfl) rfl rfl ⟨rfl, rfl⟩)⟩, ?_⟩
          refine ⟨⟨[14, 19, 24], rfl, stepg_guardP rfl rfl rfl (by decide) rfl (pu_int (v := .bool (decide (p_.l.Line < (p_.s.length : Int)))) rfl rfl (AEv.tmp rfl) (AEv.tmp rfl) rfl)⟩, ?_⟩
          refine ⟨⟨[14, 25], rfl, stepg_pure rfl (pu_pick (b := true) rfl (AEv.tmp rfl) (fun _ => (AEv.tmp rfl)) (fun h => nomatch h))⟩, ?_⟩
          refine ⟨⟨[26], rfl, (stepg_pure rfl (pu_move rfl (AEv.tmp rfl))).cast (congrArg AV.bool hb43)⟩, ?_⟩
          refine ⟨⟨[3, 27], rfl, stepg_guardP rfl rfl rfl (by decide) rfl (pu_move rfl (AEv.tmp rfl))⟩, ?_⟩
          refine ⟨⟨[1, 27], rfl, stepg_guard rfl rfl rfl (by decide) rfl (op_load1 (i := 0) rfl isAgg91 (AEv.tmp rfl) rfl rfl ⟨rfl, rfl⟩)⟩, ?_⟩
          refine ⟨⟨[27, 29], rfl, stepg_guardP rfl rfl rfl (by decide) rfl (pu_nilCheck rfl (AEv.tmp rfl) rfl)⟩, ?_⟩
          refine ⟨⟨[27, 30], rfl, stepg_guardP rfl rfl rfl (by decide) rfl (pu_fieldAddr rfl underlying93 rfl sizeOf23 (by decide) (AEv.tmp rfl) rfl)⟩, ?_⟩
          refine ⟨⟨[27, 31], rfl, stepg_guardP rfl rfl rfl (by decide) rfl (pu_fieldAddr rfl underlying23 rfl sizeOf3 (by decide) (AEv.tmp rfl) rfl)⟩, ?_⟩
          refine ⟨⟨[27, 32], rfl, stepg_guard rfl rfl rfl (by decide) rfl (op_load1 (i := 0) rfl isAgg3 (AEv.tmp rfl) rfl rfl ⟨rfl, rfl⟩)⟩, ?_⟩
          refine ⟨⟨[27, 28, 33], rfl, stepg_guardP rfl rfl rfl (by decide) rfl (pu_int (v := .bool (decide (p_.l.Line < r36))) rfl rfl (AEv.tmp rfl) (AEv.tmp rfl) rfl)⟩, ?_⟩
          refine ⟨⟨[27, 34], rfl, stepg_pure rfl (pu_pick (b := false) rfl (AEv.tmp rfl) (fun h => nomatch h) (fun _ => (AEv.tmp rfl)))⟩, ?_⟩
          trivial
        subst h
        exact ⟨(), Weak.mkL [0, 1, 2, 3] (by decide) ⟨⟨_, rfl, ⟨(AV.Le.refl _), trivial⟩, rfl⟩, ⟨_, rfl, (CellsLe.refl _), rfl⟩, ⟨_, rfl, rfl⟩, ⟨_, rfl, rfl⟩, trivial⟩ ⟨AEv.tmp rfl, AEv.tmp rfl, (AEv.le (AEv.tmp rfl) (AV.Le.refl _)), trivial⟩⟩
    · replace h := ite_f (dec_f hb42) h
      refine aw_plan (by decide +kernel) [([], some 12, [3]), ([0], some 13, [12]), ([1], some 14, [13]), ([2], some 15, [1, 14]), ([3, 2], some 16, [15, 14]), ([4, 2], some 17, [16, 14]), ([5, 2], some 18, [17, 14]), ([6, 2], some 19, [18, 14]), ([2], some 20, [1, 14]), ([8, 2], some 21, [20, 14]), ([9, 2], some 22, [21, 14]), ([10, 2], some 23, [22, 14]), ([11, 2], some 24, [23, 14]), ([7, 12, 2], some 25, [19, 24, 14]), ([2, 13], some 26, [14, 25]), ([14, 2], some 27, [26]), ([15], some 28, [3, 27]), ([15], some 29, [1, 27]), ([17, 15], some 30, [29, 27]), ([18, 15], some 31, [30, 27]), ([19, 15], some 32, [31, 27]), ([20, 15], some 33, [32, 27]), ([16, 21, 15], some 34, [28, 33, 27]), ([15, 22], some 35, [27, 34])] rfl [[], [0], [0, 1], [0, 1, 2], [0, 1, 2, 3], [0, 1, 2, 3, 4], [0, 1, 2, 3, 4, 5], [0, 1, 2, 3, 4, 5, 6], [0, 1, 2], [0, 1, 2, 8], [0, 1, 2, 8, 9], [0, 1, 2, 8, 9, 10], [0, 1, 2, 8, 9, 10, 11], [0, 1, 2, 3, 4, 5, 6, 7, 8, 9, 10, 11, 12], [0, 1, 2, 3, 4, 5, 6, 7, 8, 9, 10, 11, 12, 13], [0, 1, 2, 3, 4, 5, 6, 7, 8, 9, 10, 11, 12, 13, 14], [0, 1, 2, 3, 4, 5, 6, 7, 8, 9, 10, 11, 12, 13, 14, 15], [0, 1, 2, 3, 4, 5, 6, 7, 8, 9, 10, 11, 12, 13, 14, 15], [0, 1, 2, 3, 4, 5, 6, 7, 8, 9, 10, 11, 12, 13, 14, 15, 17], [0, 1, 2, 3, 4, 5, 6, 7, 8, 9, 10, 11, 12, 13, 14, 15, 17, 18], [0, 1, 2, 3, 4, 5, 6, 7, 8, 9, 10, 11, 12, 13, 14, 15, 17, 18, 19], [0, 1, 2, 3, 4, 5, 6, 7, 8, 9, 10, 11, 12, 13, 14, 15, 17, 18, 19, 20], [0, 1, 2, 3, 4, 5, 6, 7, 8, 9, 10, 11, 12, 13, 14, 15, 16, 17, 18, 19, 20, 21], [0, 1, 2, 3, 4, 5, 6, 7, 8, 9, 10, 11, 12, 13, 14, 15, 16, 17, 18, 19, 20, 21, 22]] [[], [], [], [], [], [], [], [], [], [], [], [], [], [], [], [], [], [(0, 0, false)], [], [], [], [(1, 0, false)], [], []] [[], [], [], []] [[[(p35, .cells [.ptr o0 0])]], [[(o0, .cells (parse.parser.ct (.own q0) (.own q1) p_))]], [[(q0, .spare)]], [[(q1, .spare)]]] [.int .i64 r36, .bool (decide (r36 < 0)), .bool false, .lit undef, .lit undef, .lit undef, .lit undef, .lit undef, .lit undef, .lit undef, .lit undef, .lit undef, .lit undef, .lit undef, .bool false, .bool false, .int .i64 r36, .ptr o0 0, .ptr o0 0, .ptr o0 8, .ptr o0 10, .int .i64 p_.l.Line, .bool (decide (p_.l.Line < r36)), .bool (decide (p_.l.Line < r36))] (by decide +kernel) rfl rfl ?_ ?_
      · refine ⟨⟨[3], rfl, stepg_pure rfl (pu_move rfl (AEv.tmp rfl))⟩, ?_⟩
        refine ⟨⟨[12], rfl, stepg_pure rfl (pu_int (v := .bool (decide (r36 < 0))) rfl rfl (AEv.tmp rfl) (AEv.int _ _) rfl)⟩, ?_⟩
        refine ⟨⟨[13], rfl, (stepg_pure rfl (pu_move rfl (AEv.tmp rfl))).cast (congrArg AV.bool hb42)⟩, ?_⟩
        refine ⟨⟨[1, 14], rfl, stepg_pass rfl rfl rfl (by decide) rfl (by decide)⟩, ?_⟩
        refine ⟨⟨[14, 15], rfl, stepg_pass rfl rfl rfl (by decide) rfl (by decide)⟩, ?_⟩
        refine ⟨⟨[14, 16], rfl, stepg_pass rfl rfl rfl (by decide) rfl (by decide)⟩, ?_⟩
        refine ⟨⟨[14, 17], rfl, stepg_pass rfl rfl rfl (by decide) rfl (by decide)⟩, ?_⟩
        refine ⟨⟨[14, 18], rfl, stepg_pass rfl rfl rfl (by decide) rfl (by decide)⟩, ?_⟩
        refine ⟨⟨[1, 14], rfl, stepg_pass rfl rfl rfl (by decide) rfl (by decide)⟩, ?_⟩
        refine ⟨⟨[14, 20], rfl, stepg_pass rfl rfl rfl (by decide) rfl (by decide)⟩, ?_⟩
        refine ⟨⟨[14, 21], rfl, stepg_pass rfl rfl rfl (by decide) rfl (by decide)⟩, ?_⟩
        refine ⟨⟨[14, 22], rfl, stepg_pass rfl rfl rfl (by decide) rfl (by decide)⟩, ?_⟩
        refine ⟨⟨[14, 23], rfl, stepg_pass rfl rfl rfl (by decide) rfl (by decide)⟩, ?_⟩
        refine ⟨⟨[14, 19, 24], rfl, stepg_pass rfl rfl rfl (by decide) rfl (by decide)⟩, ?_⟩
        refine ⟨⟨[14, 25], rfl, stepg_pure rfl (pu_pick (b := false) rfl (AEv.tmp rfl) (fun h => nomatch h) (fun _ => (AEv.bool _)))⟩, ?_⟩
        refine ⟨⟨[26], rfl, stepg_pure rfl (pu_move rfl (AEv.tmp rfl))⟩, ?_⟩
        refine ⟨⟨[3, 27], rfl, stepg_guardP rfl rfl rfl (by decide) rfl (pu_move rfl (AEv.tmp rfl))⟩, ?_⟩
        refine ⟨⟨[1, 27], rfl, stepg_guard rfl rfl rfl (by decide) rfl (op_load1 (i := 0) rfl isAgg91 (AEv.tmp rfl) rfl rfl ⟨rfl, rfl⟩)⟩, ?_⟩
        refine ⟨⟨[27, 29], rfl, stepg_guardP rfl rfl rfl (by decide) rfl (pu_nilCheck rfl (AEv.tmp rfl) rfl)⟩, ?_⟩
        refine ⟨⟨[27, 30], rfl, stepg_guardP rfl rfl rfl (by decide) rfl (pu_fieldAddr rfl underlying93 rfl sizeOf23 (by decide) (AEv.tmp rfl) rfl)⟩, ?_⟩
        refine ⟨⟨[27, 31], rfl, stepg_guardP rfl rfl rfl (by decide) rfl (pu_fieldAddr rfl underlying23 rfl sizeOf3 (by decide) (AEv.tmp rfl) rfl)⟩, ?_⟩
        refine ⟨⟨[27, 32], rfl, stepg_guard rfl rfl rfl (by decide) rfl (op_load1 (i := 0) rfl isAgg3 (AEv.tmp rfl) rfl rfl ⟨rfl, rfl⟩)⟩, ?_⟩
        refine ⟨⟨[27, 28, 33], rfl, stepg_guardP rfl rfl rfl (by decide) rfl (pu_int (v := .bool (decide (p_.l.Line < r36))) rfl rfl (AEv.tmp rfl) (AEv.tmp rfl) rfl)⟩, ?_⟩
        refine ⟨⟨[27, 34], rfl, stepg_pure rfl (pu_pick (b := false) rfl (AEv.tmp rfl) (fun h => nomatch h) (fun _ => (AEv.tmp rfl)))⟩, ?_⟩
        trivial
      subst h
      exact ⟨(), Weak.mkL [0, 1, 2, 3] (by decide) ⟨⟨_, rfl, ⟨(AV.Le.refl _), trivial⟩, rfl⟩, ⟨_, rfl, (CellsLe.refl _), rfl⟩, ⟨_, rfl, rfl⟩, ⟨_, rfl, rfl⟩, trivial⟩ ⟨AEv.tmp rfl, AEv.tmp rfl, (AEv.le (AEv.tmp rfl) (AV.Le.refl _)), trivial⟩⟩
  · intro _
    have h := h40
    refine aw_cond (b := s39) (AEv.tmp rfl) (fun hb73 => ?_) (fun hb73 => ?_)
    · replace h := ite_t hb73 h
      refine aw_seq ?_
      refine aw_region ?_
      refine ac rfl rfl rfl (op_load1 (i := 0) rfl isAgg91 (AEv.tmp rfl) rfl rfl ?_)
      obtain ⟨r44, r44e, h⟩ := bind_some h
      refine aops_weak (weak_pick [1, 2, 3, 0] (by decide) rfl) ?_
      refine ac rfl rfl rfl (op_call (vs := [.ptr o0 0, .int .i64 6]) (H := [(o0, .cells (parse.parser.ct (.own q0) (.own q1) p_)), (q0, .spare), (q1, .spare)]) rfl call85 ⟨(AEv.tmp rfl), (AEv.int _ _), trivial⟩ (List.Perm.refl _) (parse.parser.dies.ok r44e o0 q0 q1) ?_)
      rintro _ _ ⟨t45, rfl, rfl⟩
      refine ap (.bool r44.1) rfl rfl rfl (pu_assign rfl (AEv.tmp rfl)) ?_
      refine aops_nil ?_
      refine aw_claimCell 0 1 rfl rfl fun t46 => ?_
      refine aw_ret ?_
      obtain rfl := some_of h
      exact ⟨[.bool r44.1], _, [(o0, .cells (parse.parser.ct (.own t46) (.own t45) r44.2)), (t46, .spare), (t45, .spare)], ⟨(AEv.tmp rfl), trivial⟩, (AV.Le.refl _), Weak.mkL [1, 0, 2] (by decide) ⟨⟨_, rfl, (CellsLe.refl _), rfl⟩, ⟨_, rfl, rfl⟩, ⟨_, rfl, rfl⟩, trivial⟩ trivial, ⟨t46, t45, rfl, rfl⟩⟩
    · replace h := ite_fb hb73 h
      refine aw_skip ?_
      refine aw_seq ?_
      refine aw_seq ?_
      refine aw_region ?_
      refine ap (.int .i64 r36) rfl rfl rfl (pu_move rfl (AEv.tmp rfl)) ?_
      refine ap (.bool (decide (r36 < 0))) rfl rfl rfl (pu_int (v := .bool (decide (r36 < 0))) rfl rfl (AEv.tmp rfl) (AEv.int _ _) rfl) ?_
      refine aops_nil ?_
      refine aw_cond (b := decide (r36 < 0)) (AEv.tmp rfl) (fun hb72 => ?_) (fun hb72 => ?_)
      · replace h := ite_t (dec_t hb72) h
        refine aw_seq ?_
        refine aw_region ?_
        refine ap (.bool false) rfl rfl rfl (pu_assign rfl (AEv.bool _)) ?_
        refine aops_nil ?_
        refine aw_ret ?_
        obtain rfl := some_of h
        exact ⟨[.bool false], _, [(o0, .cells (parse.parser.ct (.own q0) (.own q1) p_)), (q0, .spare), (q1, .spare)], ⟨(AEv.tmp rfl), trivial⟩, (AV.Le.refl _), Weak.mkL [1, 2, 3] (by decide) ⟨⟨_, rfl, (CellsLe.refl _), rfl⟩, ⟨_, rfl, rfl⟩, ⟨_, rfl, rfl⟩, trivial⟩ trivial, ⟨q0, q1, rfl, rfl⟩⟩
      · replace h := ite_f (dec_f hb72) h
        refine aw_skip ?_
        refine aw_seq ?_
        refine aw_region ?_
        refine ac rfl rfl rfl (op_load1 (i := 0) rfl isAgg91 (AEv.tmp rfl) rfl rfl ?_)
        refine ap (.ptr o0 0) rfl rfl rfl (pu_nilCheck rfl (AEv.tmp rfl) rfl) ?_
        refine ap (.ptr o0 7) rfl rfl rfl (pu_fieldAddr rfl underlying93 rfl sizeOf9 (by decide) (AEv.tmp rfl) rfl) ?_
        refine ac rfl rfl rfl (op_load1 (i := 1) rfl isAgg9 (AEv.tmp rfl) rfl rfl ?_)
        refine ap (.int .i64 r36) rfl rfl rfl (pu_move rfl (AEv.tmp rfl)) ?_
        obtain ⟨c47, h⟩ := need_of h
        refine ap (.str (sub p_.s 0 r36)) rfl rfl rfl (pu_strSliceM rfl underlying9 (AEv.tmp rfl) rfl ⟨_, (AEv.tmp rfl)⟩ c47) ?_
        obtain ⟨r48, r48e, h⟩ := bind_some h
        refine ac rfl rfl rfl (op_call (vs := [.str (sub p_.s 0 r36), .str [13]]) (H := []) rfl call89 ⟨(AEv.tmp rfl), (AEv.const rfl), trivial⟩ (List.Perm.refl _) (strings.TrimSuffix.ok r48e) ?_)
        rintro _ _ ⟨rfl, rfl⟩
        obtain ⟨r49, r49e, h⟩ := bind_some h
        refine ac rfl rfl rfl (op_call (vs := [.str r48]) (H := []) rfl call88 ⟨(AEv.tmp rfl), trivial⟩ (List.Perm.refl _) (line.Split.ok r49e) ?_)
        rintro _ _ ⟨t50, rfl, rfl⟩
        refine ap (.tup [.sl (.own t50) 1 (r49.1.map AV.str), .bool r49.2]) rfl rfl rfl (pu_move rfl (AEv.tmp rfl)) ?_
        refine ap (.sl (.own t50) 1 (r49.1.map AV.str)) rfl rfl rfl (pu_extract rfl (AEv.tmp rfl) (Nat.le_of_ble_eq_true rfl) rfl) ?_
        refine ap (.bool r49.2) rfl rfl rfl (pu_extract rfl (AEv.tmp rfl) (Nat.le_of_ble_eq_true rfl) rfl) ?_
        refine ap (.sl (.own t50) 1 (r49.1.map AV.str)) rfl rfl rfl (pu_assign rfl (AEv.tmp rfl)) ?_
        refine ap (.bool r49.2) rfl rfl rfl (pu_assign rfl (AEv.tmp rfl)) ?_
        refine aops_nil ?_
        refine aw_seq ?_
        refine aw_region ?_
        refine ap (.fn 90 [.ptr p35 0]) rfl rfl rfl (pu_makeFunc rfl ⟨(AEv.tmp rfl), trivial⟩) ?_
        refine ap (.fn 90 [.ptr p35 0]) rfl rfl rfl (pu_assign rfl (AEv.tmp rfl)) ?_
        refine aops_nil ?_
        refine aw_seq ?_
        refine aw_block ?_
        refine aw_seq ?_
        refine aw_region ?_
        refine ap (.bool r49.2) rfl rfl rfl (pu_move rfl (AEv.tmp rfl)) ?_
        refine ap (.bool (!r49.2)) rfl rfl rfl (pu_not rfl (AEv.tmp rfl)) ?_
        refine ap (.bool (!r49.2)) rfl rfl rfl (pu_assign rfl (AEv.tmp rfl)) ?_
        refine aops_nil ?_
        refine aw_cond (b := (!r49.2)) (AEv.tmp rfl) (fun hb71 => ?_) (fun hb71 => ?_)
        · replace h := ite_t hb71 h
          refine aw_seq ?_
          refine aw_region ?_
          refine ac rfl rfl rfl (op_load1 (i := 1) rfl isAgg91 (AEv.tmp rfl) rfl rfl ?_)
          obtain ⟨r51, r51e, h⟩ := bind_some h
          refine aops_weak (weak_pick [2, 3, 4, 0, 1] (by decide) rfl) ?_
          refine ac rfl rfl rfl (op_call (vs := [.ptr o0 0, .int .i64 16]) (H := [(o0, .cells (parse.parser.ct (.own q0) (.own q1) p_)), (q0, .spare), (q1, .spare)]) rfl call85 ⟨(AEv.tmp rfl), (AEv.int _ _), trivial⟩ (List.Perm.refl _) (parse.parser.dies.ok r51e o0 q0 q1) ?_)
          rintro _ _ ⟨t52, rfl, rfl⟩
          refine ap (.bool r51.1) rfl rfl rfl (pu_assign rfl (AEv.tmp rfl)) ?_
          refine aops_nil ?_
          refine aw_claimCell 0 1 rfl rfl fun t53 => ?_
          refine aw_ret ?_
          obtain rfl := some_of h
          exact ⟨[.bool r51.1], _, [(o0, .cells (parse.parser.ct (.own t53) (.own t52) r51.2)), (t53, .spare), (t52, .spare)], ⟨(AEv.tmp rfl), trivial⟩, (AV.Le.refl _), Weak.mkL [1, 0, 2] (by decide) ⟨⟨_, rfl, (CellsLe.refl _), rfl⟩, ⟨_, rfl, rfl⟩, ⟨_, rfl, rfl⟩, trivial⟩ trivial, ⟨t53, t52, rfl, rfl⟩⟩
        · replace h := ite_fb hb71 h
          refine aw_seq ?_
          refine aw_region ?_
          refine ap (.sl (.own t50) 1 (r49.1.map AV.str)) rfl rfl rfl (pu_move rfl (AEv.tmp rfl)) ?_
          refine ap (.int .i64 (r49.1.length : Int)) rfl rfl rfl (pu_lenM rfl underlying26 (AEv.tmp rfl)) ?_
          refine ac rfl rfl rfl (op_load1 (i := 1) rfl isAgg91 (AEv.tmp rfl) rfl rfl ?_)
          refine ap (.ptr o0 0) rfl rfl rfl (pu_nilCheck rfl (AEv.tmp rfl) rfl) ?_
          refine ap (.ptr o0 8) rfl rfl rfl (pu_fieldAddr rfl underlying93 rfl sizeOf23 (by decide) (AEv.tmp rfl) rfl) ?_
          refine ap (.ptr o0 8) rfl rfl rfl (pu_fieldAddr rfl underlying23 rfl sizeOf3 (by decide) (AEv.tmp rfl) rfl) ?_
          refine ac rfl rfl rfl (op_load1 (i := 2) rfl isAgg3 (AEv.tmp rfl) rfl rfl ?_)
          refine ap (.bool (decide (p_.l.Args < (r49.1.length : Int)))) rfl rfl rfl (pu_int (v := .bool (decide (p_.l.Args < (r49.1.length : Int)))) rfl rfl (AEv.tmp rfl) (AEv.tmp rfl) rfl) ?_
          refine ap (.bool (decide (p_.l.Args < (r49.1.length : Int)))) rfl rfl rfl (pu_assign rfl (AEv.tmp rfl)) ?_
          refine aops_nil ?_
          refine aw_cond (b := decide (p_.l.Args < (r49.1.length : Int))) (AEv.tmp rfl) (fun hb70 => ?_) (fun hb70 => ?_)
          · replace h := ite_t (dec_t hb70) h
            refine aw_seq ?_
            refine aw_region ?_
            refine ac rfl rfl rfl (op_load1 (i := 1) rfl isAgg91 (AEv.tmp rfl) rfl rfl ?_)
            obtain ⟨r54, r54e, h⟩ := bind_some h
            refine aops_weak (weak_pick [2, 3, 4, 0, 1] (by decide) rfl) ?_
            refine ac rfl rfl rfl (op_call (vs := [.ptr o0 0, .int .i64 7]) (H := [(o0, .cells (parse.parser.ct (.own q0) (.own q1) p_)), (q0, .spare), (q1, .spare)]) rfl call85 ⟨(AEv.tmp rfl), (AEv.int _ _), trivial⟩ (List.Perm.refl _) (parse.parser.dies.ok r54e o0 q0 q1) ?_)
            rintro _ _ ⟨t55, rfl, rfl⟩
            refine ap (.bool r54.1) rfl rfl rfl (pu_assign rfl (AEv.tmp rfl)) ?_
            refine aops_nil ?_
            refine aw_claimCell 0 1 rfl rfl fun t56 => ?_
            refine aw_ret ?_
            obtain rfl := some_of h
            exact ⟨[.bool r54.1], _, [(o0, .cells (parse.parser.ct (.own t56) (.own t55) r54.2)), (t56, .spare), (t55, .spare)], ⟨(AEv.tmp rfl), trivial⟩, (AV.Le.refl _), Weak.mkL [1, 0, 2] (by decide) ⟨⟨_, rfl, (CellsLe.refl _), rfl⟩, ⟨_, rfl, rfl⟩, ⟨_, rfl, rfl⟩, trivial⟩ trivial, ⟨t56, t55, rfl, rfl⟩⟩
          · replace h := ite_f (dec_f hb70) h
            refine aw_seq ?_
            refine aw_region ?_
            refine ap (.sl (.own t50) 1 (r49.1.map AV.str)) rfl rfl rfl (pu_move rfl (AEv.tmp rfl)) ?_
            refine ap (.fn 90 [.ptr p35 0]) rfl rfl rfl (pu_move rfl (AEv.tmp rfl)) ?_
            obtain ⟨r57, r57e, h⟩ := bind_some h
            refine aops_weak (weak_pick [1, 2, 3, 4, 0] (by decide) rfl) ?_
            refine ac rfl rfl rfl (op_call (vs := [.sl .no 1 (r49.1.map AV.str), .fn 90 [.ptr p35 0]]) (H := [(p35, .cells [.ptr o0 0]), (o0, .cells (parse.parser.ct (.own q0) (.own q1) p_)), (q0, .spare), (q1, .spare)]) rfl call91 ⟨(AEv.le (AEv.tmp rfl) (AV.Le.forget _ _ _)), (AEv.tmp rfl), trivial⟩ (List.Perm.refl _) (slices.ContainsFunc_string_parse_parser_line_1.ok r57e p35 o0 q0 q1) ?_)
            rintro _ _ ⟨t58, t59, rfl, rfl⟩
            refine ap (.bool r57) rfl rfl rfl (pu_assign rfl (AEv.tmp rfl)) ?_
            refine aops_nil ?_
            refine aw_cond (b := r57) (AEv.tmp rfl) (fun hb69 => ?_) (fun hb69 => ?_)
            · replace h := ite_t hb69 h
              refine aw_seq ?_
              refine aw_region ?_
              refine ac rfl rfl rfl (op_load1 (i := 0) rfl isAgg91 (AEv.tmp rfl) rfl rfl ?_)
              obtain ⟨r60, r60e, h⟩ := bind_some h
              refine aops_weak (weak_pick [1, 2, 3, 0, 4] (by decide) rfl) ?_
              refine ac rfl rfl rfl (op_call (vs := [.ptr o0 0, .int .i64 6]) (H := [(o0, .cells (parse.parser.ct (.own t58) (.own t59) p_)), (t58, .spare), (t59, .spare)]) rfl call85 ⟨(AEv.tmp rfl), (AEv.int _ _), trivial⟩ (List.Perm.refl _) (parse.parser.dies.ok r60e o0 t58 t59) ?_)
              rintro _ _ ⟨t61, rfl, rfl⟩
              refine ap (.bool r60.1) rfl rfl rfl (pu_assign rfl (AEv.tmp rfl)) ?_
              refine aops_nil ?_
              refine aw_claimCell 0 1 rfl rfl fun t62 => ?_
              refine aw_ret ?_
              obtain rfl := some_of h
              exact ⟨[.bool r60.1], _, [(o0, .cells (parse.parser.ct (.own t62) (.own t61) r60.2)), (t62, .spare), (t61, .spare)], ⟨(AEv.tmp rfl), trivial⟩, (AV.Le.refl _), Weak.mkL [1, 0, 2] (by decide) ⟨⟨_, rfl, (CellsLe.refl _), rfl⟩, ⟨_, rfl, rfl⟩, ⟨_, rfl, rfl⟩, trivial⟩ trivial, ⟨t62, t61, rfl, rfl⟩⟩
            · replace h := ite_fb hb69 h
              refine aw_skip ?_
              refine aw_seq ?_
              refine aw_region ?_
              refine ac rfl rfl rfl (op_load1 (i := 0) rfl isAgg91 (AEv.tmp rfl) rfl rfl ?_)
              refine ap (.int .i64 r36) rfl rfl rfl (pu_move rfl (AEv.tmp rfl)) ?_
              refine ap (.int .i64 (IntKind.wrap .i64 (r36 + 1))) rfl rfl rfl (pu_int (v := .int .i64 (IntKind.wrap .i64 (r36 + 1))) rfl rfl (AEv.tmp rfl) (AEv.int _ _) rfl) ?_
              obtain ⟨r63, r63e, h⟩ := bind_some h
              refine aops_weak (weak_pick [1, 2, 3, 0, 4] (by decide) rfl) ?_
              refine ac rfl rfl rfl (op_call (vs := [.ptr o0 0, .int .i64 (IntKind.wrap .i64 (r36 + 1))]) (H := [(o0, .cells (parse.parser.ct (.own t58) (.own t59) p_)), (t58, .spare), (t59, .spare)]) rfl call86 ⟨(AEv.tmp rfl), (AEv.tmp rfl), trivial⟩ (List.Perm.refl _) (parse.parser.past.ok r63e o0 t58 t59) ?_)
              rintro _ _ ⟨t64, t65, rfl, rfl⟩
              refine aops_nil ?_
              refine aw_seq ?_
              refine aw_region ?_
              refine ac rfl rfl rfl (op_load1 (i := 3) rfl isAgg91 (AEv.tmp rfl) rfl rfl ?_)
              refine ap (.sl (.own t50) 1 (r49.1.map AV.str)) rfl rfl rfl (pu_move rfl (AEv.tmp rfl)) ?_
              obtain ⟨r66, r66e, h⟩ := bind_some h
              refine ac rfl rfl rfl (op_call (vs := [.ptr o0 0, .sl .no 1 (r49.1.map AV.str)]) (H := [(o0, .cells (parse.parser.ct (.own t64) (.own t65) r63)), (t64, .spare), (t65, .spare)]) rfl call76 ⟨(AEv.tmp rfl), (AEv.le (AEv.tmp rfl) (AV.Le.forget _ _ _)), trivial⟩ (List.Perm.refl _) (parse.parser.whole.ok r66e o0 t64 t65) ?_)
              rintro _ _ ⟨t67, rfl, rfl⟩
              refine aops_nil ?_
              refine aw_seq ?_
              refine aw_region ?_
              refine ap (.bool true) rfl rfl rfl (pu_assign rfl (AEv.bool _)) ?_
              refine aops_nil ?_
              refine aw_claimCell 0 1 rfl rfl fun t68 => ?_
              refine aw_ret ?_
              obtain rfl := some_of h
              exact ⟨[.bool true], _, [(o0, .cells (parse.parser.ct (.own t68) (.own t67) r66)), (t68, .spare), (t67, .spare)], ⟨(AEv.tmp rfl), trivial⟩, (AV.Le.refl _), Weak.mkL [1, 0, 2] (by decide) ⟨⟨_, rfl, (CellsLe.refl _), rfl⟩, ⟨_, rfl, rfl⟩, ⟨_, rfl, rfl⟩, trivial⟩ trivial, ⟨t68, t67, rfl, rfl⟩⟩

theorem parse.parser.step.ok {p_ : parse.parser} {r : Bool × parse.parser} (h : parse.parser.step p_ = some r) (o0 q0 q1 : Nat) : Go.Lift.Spec prog 51 [.ptr o0 0] [(o0, .cells (parse.parser.ct (.own q0) (.own q1) p_)), (q0, .spare), (q1, .spare)] (fun v H => ∃ n0 n1, v = .bool r.1 ∧ H = [(o0, .cells [.str r.2.in_.Rest, .sl (.own n0) 1 (r.2.in_.Args.map AV.str), .int .i64 r.2.in_.Left, .int .i64 r.2.in_.Size, .bool r.2.in_.Body, .int .i64 r.2.in_.Need, .int .i64 r.2.in_.Dead, .str r.2.s, .int .i64 r.2.l.Args, .int .i64 r.2.l.Bulk, .int .i64 r.2.l.Line, .sl (.own n1) 2 (r.2.out.map api.Request.av)]), (n0, .spare), (n1, .spare)]) := by
  unfold parse.parser.step at h
  refine Go.Lift.Spec.of_body (rs := [.tmp 2]) func51 rfl rfl (Nat.le_of_ble_eq_true rfl) rfl ?_
  refine aw_seq ?_
  refine aw_region ?_
  refine ap (.bool false) rfl rfl rfl (pu_assign rfl (AEv.bool _)) ?_
  refine aops_nil ?_
  refine aw_seq ?_
  refine aw_block ?_
  refine aw_seq ?_
  refine aw_region ?_
  refine ap (.ptr o0 0) rfl rfl rfl (pu_move rfl (AEv.tmp rfl)) ?_
  refine ap (.ptr o0 0) rfl rfl rfl (pu_nilCheck rfl (AEv.tmp rfl) rfl) ?_
  refine ap (.ptr o0 0) rfl rfl rfl (pu_fieldAddr rfl underlying93 rfl sizeOf29 (by decide) (AEv.tmp rfl) rfl) ?_
  refine ap (.ptr o0 4) rfl rfl rfl (pu_fieldAddr rfl underlying29 rfl sizeOf4 (by decide) (AEv.tmp rfl) rfl) ?_
  refine ac rfl rfl rfl (op_load1 (i := 0) rfl isAgg4 (AEv.tmp rfl) rfl rfl ?_)
  refine ap (.bool p_.in_.Body) rfl rfl rfl (pu_assign rfl (AEv.tmp rfl)) ?_
  refine aops_nil ?_
  refine aw_cond (b := p_.in_.Body) (AEv.tmp rfl) (fun hb98 => ?_) (fun hb98 => ?_)
  · replace h := ite_t hb98 h
    refine aw_seq ?_
    refine aw_region ?_
    refine ap (.ptr o0 0) rfl rfl rfl (pu_move rfl (AEv.tmp rfl)) ?_
    obtain ⟨r50, r50e, h⟩ := bind_some h
    refine ac rfl rfl rfl (op_call (vs := [.ptr o0 0]) (H := [(o0, .cells (parse.parser.ct (.own q0) (.own q1) p_)), (q0, .spare), (q1, .spare)]) rfl call73 ⟨(AEv.tmp rfl), trivial⟩ (List.Perm.refl _) (parse.parser.body.ok r50e o0 q0 q1) ?_)
    rintro _ _ ⟨t51, t52, rfl, rfl⟩
    refine ap (.bool r50.1) rfl rfl rfl (pu_assign rfl (AEv.tmp rfl)) ?_
    refine aops_nil ?_
    refine aw_ret ?_
    obtain rfl := some_of h
    exact ⟨[.bool r50.1], _, [(o0, .cells (parse.parser.ct (.own t51) (.own t52) r50.2)), (t51, .spare), (t52, .spare)], ⟨(AEv.tmp rfl), trivial⟩, (AV.Le.refl _), Weak.mkL [0, 1, 2] (by decide) ⟨⟨_, rfl, (CellsLe.refl _), rfl⟩, ⟨_, rfl, rfl⟩, ⟨_, rfl, rfl⟩, trivial⟩ trivial, ⟨t51, t52, rfl, rfl⟩⟩
  · replace h := ite_fb hb98 h
    refine aw_seq ?_
    refine aw_region ?_
    refine ap (.ptr o0 0) rfl rfl rfl (pu_move rfl (AEv.tmp rfl)) ?_
    refine ap (.ptr o0 0) rfl rfl rfl (pu_nilCheck rfl (AEv.tmp rfl) rfl) ?_
    refine ap (.ptr o0 0) rfl rfl rfl (pu_fieldAddr rfl underlying93 rfl sizeOf29 (by decide) (AEv.tmp rfl) rfl) ?_
    refine ap (.ptr o0 2) rfl rfl rfl (pu_fieldAddr rfl underlying29 rfl sizeOf3 (by decide) (AEv.tmp rfl) rfl) ?_
    refine ac rfl rfl rfl (op_load1 (i := 0) rfl isAgg3 (AEv.tmp rfl) rfl rfl ?_)
    refine ap (.bool (decide (0 < p_.in_.Left))) rfl rfl rfl (pu_int (v := .bool (decide (0 < p_.in_.Left))) rfl rfl (AEv.tmp rfl) (AEv.int _ _) rfl) ?_
    refine ap (.bool (decide (0 < p_.in_.Left))) rfl rfl rfl (pu_assign rfl (AEv.tmp rfl)) ?_
    refine aops_nil ?_
    refine aw_cond (b := decide (0 < p_.in_.Left)) (AEv.tmp rfl) (fun hb97 => ?_) (fun hb97 => ?_)
    · replace h := ite_t (dec_t hb97) h
      refine aw_seq ?_
      refine aw_region ?_
      refine ap (.ptr o0 0) rfl rfl rfl (pu_move rfl (AEv.tmp rfl)) ?_
      refine ap (.ptr o0 0) rfl rfl rfl (pu_move rfl (AEv.tmp rfl)) ?_
      refine ap (.ptr o0 0) rfl rfl rfl (pu_nilCheck rfl (AEv.tmp rfl) rfl) ?_
      refine ap (.ptr o0 8) rfl rfl rfl (pu_fieldAddr rfl underlying93 rfl sizeOf23 (by decide) (AEv.tmp rfl) rfl) ?_
      refine ap (.ptr o0 9) rfl rfl rfl (pu_fieldAddr rfl underlying23 rfl sizeOf3 (by decide) (AEv.tmp rfl) rfl) ?_
      refine ac rfl rfl rfl (op_load1 (i := 0) rfl isAgg3 (AEv.tmp rfl) rfl rfl ?_)
      obtain ⟨r53, r53e, h⟩ := bind_some h
      refine ac rfl rfl rfl (op_call (vs := [.ptr o0 0, .int .u8 36, .int .i64 p_.l.Bulk, .int .i64 6]) (H := [(o0, .cells (parse.parser.ct (.own q0) (.own q1) p_)), (q0, .spare), (q1, .spare)]) rfl call74 ⟨(AEv.tmp rfl), (AEv.int _ _), (AEv.tmp rfl), (AEv.int _ _), trivial⟩ (List.Perm.refl _) (parse.parser.header.ok r53e o0 q0 q1) ?_)
      rintro _ _ ⟨t54, t55, rfl, rfl⟩
      refine ap (.tup [.int .i64 r53.1, .bool r53.2.1]) rfl rfl rfl (pu_move rfl (AEv.tmp rfl)) ?_
      refine ap (.int .i64 r53.1) rfl rfl rfl (pu_extract rfl (AEv.tmp rfl) (Nat.le_of_ble_eq_true rfl) rfl) ?_
      refine ap (.bool r53.2.1) rfl rfl rfl (pu_extract rfl (AEv.tmp rfl) (Nat.le_of_ble_eq_true rfl) rfl) ?_
      refine ap (.int .i64 r53.1) rfl rfl rfl (pu_assign rfl (AEv.tmp rfl)) ?_
      refine ap (.bool r53.2.1) rfl rfl rfl (pu_assign rfl (AEv.tmp rfl)) ?_
      refine aops_nil ?_
      obtain ⟨s57, s57e, h58⟩ := letO_of h
      refine aw_meet (ν := Unit) (fun v => [(4, .bool r53.2.1)]) (fun v => [(o0, .cells (parse.parser.ct (.own t54) (.own t55) { r53.2.2 with in_ := { r53.2.2.in_ with Body := s57.1, Need := s57.2 } })), (t54, .spare), (t55, .spare)]) ?_ ?_
      · have h := s57e.symm
        refine aw_seq ?_
        refine aw_region ?_
        refine ap (.bool r53.2.1) rfl rfl rfl (pu_move rfl (AEv.tmp rfl)) ?_
        refine aops_nil ?_
        refine aw_cond (b := r53.2.1) (AEv.tmp rfl) (fun hb60 => ?_) (fun hb60 => ?_)
        · replace h := ite_t hb60 h
          refine aw_region ?_
          refine ap (.ptr o0 0) rfl rfl rfl (pu_move rfl (AEv.tmp rfl)) ?_
          refine ap (.ptr o0 0) rfl rfl rfl (pu_move rfl (AEv.tmp rfl)) ?_
          refine ap (.int .i64 r53.1) rfl rfl rfl (pu_move rfl (AEv.tmp rfl)) ?_
          refine ap (.ptr o0 0) rfl rfl rfl (pu_nilCheck rfl (AEv.tmp rfl) rfl) ?_
          refine ap (.ptr o0 0) rfl rfl rfl (pu_fieldAddr rfl underlying93 rfl sizeOf29 (by decide) (AEv.tmp rfl) rfl) ?_
          refine ap (.ptr o0 4) rfl rfl rfl (pu_fieldAddr rfl underlying29 rfl sizeOf4 (by decide) (AEv.tmp rfl) rfl) ?_
          refine ac0 rfl rfl (op_store (i := 0) (cs' := (parse.parser.ct (.own t54) (.own t55) { r53.2.2 with in_ := { r53.2.2.in_ with Body := true } })) rfl sizeOf4 (AEv.tmp rfl) (v := .bool true) (AEv.bool _) rfl rfl rfl (Nat.le_of_ble_eq_true rfl) rfl ?_)
          refine ap (.ptr o0 0) rfl rfl rfl (pu_nilCheck rfl (AEv.tmp rfl) rfl) ?_
          refine ap (.ptr o0 0) rfl rfl rfl (pu_fieldAddr rfl underlying93 rfl sizeOf29 (by decide) (AEv.tmp rfl) rfl) ?_
          refine ap (.ptr o0 5) rfl rfl rfl (pu_fieldAddr rfl underlying29 rfl sizeOf3 (by decide) (AEv.tmp rfl) rfl) ?_
          refine ac0 rfl rfl (op_store (i := 0) (cs' := (parse.parser.ct (.own t54) (.own t55) { r53.2.2 with in_ := { r53.2.2.in_ with Body := true, Need := r53.1 } })) rfl sizeOf3 (AEv.tmp rfl) (v := .int .i64 r53.1) (AEv.tmp rfl) rfl rfl rfl (Nat.le_of_ble_eq_true rfl) rfl ?_)
          refine aops_nil ?_
          subst h
          exact ⟨(), Weak.mkL [0, 1, 2] (by decide) ⟨⟨_, rfl, (CellsLe.refl _), rfl⟩, ⟨_, rfl, rfl⟩, ⟨_, rfl, rfl⟩, trivial⟩ ⟨AEv.tmp rfl, trivial⟩⟩
        · replace h := ite_fb hb60 h
          refine aw_skip ?_
          subst h
          exact ⟨(), Weak.mkL [0, 1, 2] (by decide) ⟨⟨_, rfl, (CellsLe.refl _), rfl⟩, ⟨_, rfl, rfl⟩, ⟨_, rfl, rfl⟩, trivial⟩ ⟨AEv.tmp rfl, trivial⟩⟩
      · intro _
        have h := h58
        refine aw_seq ?_
        refine aw_region ?_
        refine ap (.bool r53.2.1) rfl rfl rfl (pu_move rfl (AEv.tmp rfl)) ?_
        refine ap (.bool r53.2.1) rfl rfl rfl (pu_assign rfl (AEv.tmp rfl)) ?_
        refine aops_nil ?_
        refine aw_ret ?_
        obtain rfl := some_of h
        exact ⟨[.bool r53.2.1], _, [(o0, .cells (parse.parser.ct (.own t54) (.own t55) { r53.2.2 with in_ := { r53.2.2.in_ with Body := s57.1, Need := s57.2 } })), (t54, .spare), (t55, .spare)], ⟨(AEv.tmp rfl), trivial⟩, (AV.Le.refl _), Weak.mkL [0, 1, 2] (by decide) ⟨⟨_, rfl, (CellsLe.refl _), rfl⟩, ⟨_, rfl, rfl⟩, ⟨_, rfl, rfl⟩, trivial⟩ trivial, ⟨t54, t55, rfl, rfl⟩⟩
    · replace h := ite_f (dec_f hb97) h
      refine aw_seq ?_
      refine aw_region ?_
      refine ap (.ptr o0 0) rfl rfl rfl (pu_move rfl (AEv.tmp rfl)) ?_
      refine ap (.ptr o0 0) rfl rfl rfl (pu_nilCheck rfl (AEv.tmp rfl) rfl) ?_
      refine ap (.ptr o0 7) rfl rfl rfl (pu_fieldAddr rfl underlying93 rfl sizeOf9 (by decide) (AEv.tmp rfl) rfl) ?_
      refine ac rfl rfl rfl (op_load1 (i := 0) rfl isAgg9 (AEv.tmp rfl) rfl rfl ?_)
      refine ap (.bool (decide (p_.s = ([] : List UInt8)))) rfl rfl rfl (pu_str (v := .bool (decide (p_.s = ([] : List UInt8)))) rfl rfl (AEv.tmp rfl) (AEv.const rfl) rfl) ?_
      refine ap (.bool (decide (p_.s = ([] : List UInt8)))) rfl rfl rfl (pu_assign rfl (AEv.tmp rfl)) ?_
      refine aops_nil ?_
      refine aw_cond (b := decide (p_.s = ([] : List UInt8))) (AEv.tmp rfl) (fun hb96 => ?_) (fun hb96 => ?_)
      · replace h := ite_t (dec_t hb96) h
        refine aw_seq ?_
        refine aw_region ?_
        refine ap (.bool false) rfl rfl rfl (pu_assign rfl (AEv.bool _)) ?_
        refine aops_nil ?_
        refine aw_ret ?_
        obtain rfl := some_of h
        exact ⟨[.bool false], _, [(o0, .cells (parse.parser.ct (.own q0) (.own q1) p_)), (q0, .spare), (q1, .spare)], ⟨(AEv.tmp rfl), trivial⟩, (AV.Le.refl _), Weak.mkL [0, 1, 2] (by decide) ⟨⟨_, rfl, (CellsLe.refl _), rfl⟩, ⟨_, rfl, rfl⟩, ⟨_, rfl, rfl⟩, trivial⟩ trivial, ⟨q0, q1, rfl, rfl⟩⟩
      · replace h := ite_f (dec_f hb96) h
        refine aw_seq ?_
        refine aw_region ?_
        refine ap (.ptr o0 0) rfl rfl rfl (pu_move rfl (AEv.tmp rfl)) ?_
        refine ap (.ptr o0 0) rfl rfl rfl (pu_nilCheck rfl (AEv.tmp rfl) rfl) ?_
        refine ap (.ptr o0 7) rfl rfl rfl (pu_fieldAddr rfl underlying93 rfl sizeOf9 (by decide) (AEv.tmp rfl) rfl) ?_
        refine ac rfl rfl rfl (op_load1 (i := 0) rfl isAgg9 (AEv.tmp rfl) rfl rfl ?_)
        obtain ⟨c61, h⟩ := need_of h
        refine ap (.int .u8 (bix p_.s 0)) rfl rfl rfl (pu_strIdxM rfl underlying9 (AEv.tmp rfl) (AEv.int _ _) c61) ?_
        refine ap (.bool (!decide ((bix p_.s 0) = 42))) rfl rfl rfl (pu_int (v := .bool (!decide ((bix p_.s 0) = 42))) rfl rfl (AEv.tmp rfl) (AEv.int _ _) rfl) ?_
        refine ap (.bool (!decide ((bix p_.s 0) = 42))) rfl rfl rfl (pu_assign rfl (AEv.tmp rfl)) ?_
        refine aops_nil ?_
        refine aw_cond (b := (!decide ((bix p_.s 0) = 42))) (AEv.tmp rfl) (fun hb95 => ?_) (fun hb95 => ?_)
        · replace h := ite_f (ndec_t hb95) h
          refine aw_seq ?_
          refine aw_region ?_
          refine ap (.ptr o0 0) rfl rfl rfl (pu_move rfl (AEv.tmp rfl)) ?_
          obtain ⟨r62, r62e, h⟩ := bind_some h
          refine ac rfl rfl rfl (op_call (vs := [.ptr o0 0]) (H := [(o0, .cells (parse.parser.ct (.own q0) (.own q1) p_)), (q0, .spare), (q1, .spare)]) rfl call75 ⟨(AEv.tmp rfl), trivial⟩ (List.Perm.refl _) (parse.parser.line.ok r62e o0 q0 q1) ?_)
          rintro _ _ ⟨t63, t64, rfl, rfl⟩
          refine ap (.bool r62.1) rfl rfl rfl (pu_assign rfl (AEv.tmp rfl)) ?_
          refine aops_nil ?_
          refine aw_ret ?_
          obtain rfl := some_of h
          exact ⟨[.bool r62.1], _, [(o0, .cells (parse.parser.ct (.own t63) (.own t64) r62.2)), (t63, .spare), (t64, .spare)], ⟨(AEv.tmp rfl), trivial⟩, (AV.Le.refl _), Weak.mkL [0, 1, 2] (by decide) ⟨⟨_, rfl, (CellsLe.refl _), rfl⟩, ⟨_, rfl, rfl⟩, ⟨_, rfl, rfl⟩, trivial⟩ trivial, ⟨t63, t64, rfl, rfl⟩⟩
        · replace h := ite_t (ndec_f hb95) h
          refine aw_skip ?_
          refine aw_seq ?_
          refine aw_region ?_
          refine ap (.ptr o0 0) rfl rfl rfl (pu_move rfl (AEv.tmp rfl)) ?_
          refine ap (.ptr o0 0) rfl rfl rfl (pu_move rfl (AEv.tmp rfl)) ?_
          refine ap (.ptr o0 0) rfl rfl rfl (pu_nilCheck rfl (AEv.tmp rfl) rfl) ?_
          refine ap (.ptr o0 8) rfl rfl rfl (pu_fieldAddr rfl underlying93 rfl sizeOf23 (by decide) (AEv.tmp rfl) rfl) ?_
          refine ap (.ptr o0 8) rfl rfl rfl (pu_fieldAddr rfl underlying23 rfl sizeOf3 (by decide) (AEv.tmp rfl) rfl) ?_
          refine ac rfl rfl rfl (op_load1 (i := 0) rfl isAgg3 (AEv.tmp rfl) rfl rfl ?_)
          obtain ⟨r65, r65e, h⟩ := bind_some h
          refine ac rfl rfl rfl (op_call (vs := [.ptr o0 0, .int .u8 42, .int .i64 p_.l.Args, .int .i64 7]) (H := [(o0, .cells (parse.parser.ct (.own q0) (.own q1) p_)), (q0, .spare), (q1, .spare)]) rfl call74 ⟨(AEv.tmp rfl), (AEv.int _ _), (AEv.tmp rfl), (AEv.int _ _), trivial⟩ (List.Perm.refl _) (parse.parser.header.ok r65e o0 q0 q1) ?_)
          rintro _ _ ⟨t66, t67, rfl, rfl⟩
          refine ap (.tup [.int .i64 r65.1, .bool r65.2.1]) rfl rfl rfl (pu_move rfl (AEv.tmp rfl)) ?_
          refine ap (.int .i64 r65.1) rfl rfl rfl (pu_extract rfl (AEv.tmp rfl) (Nat.le_of_ble_eq_true rfl) rfl) ?_
          refine ap (.bool r65.2.1) rfl rfl rfl (pu_extract rfl (AEv.tmp rfl) (Nat.le_of_ble_eq_true rfl) rfl) ?_
          refine ap (.int .i64 r65.1) rfl rfl rfl (pu_assign rfl (AEv.tmp rfl)) ?_
          refine ap (.bool r65.2.1) rfl rfl rfl (pu_assign rfl (AEv.tmp rfl)) ?_
          refine aops_nil ?_
          obtain ⟨s69, s69e, h70⟩ := letO_of h
          refine aw_meet (ν := Unit) (fun v => [(0, .ptr o0 0), (5, .int .i64 r65.1), (6, .bool r65.2.1)]) (fun v => [(o0, .cells (parse.parser.ct (.own t66) (.own t67) { r65.2.2 with in_ := { r65.2.2.in_ with Left := s69 } })), (t66, .spare), (t67, .spare)]) ?_ ?_
          · have h := s69e.symm
            refine aw_seq ?_
            refine aw_region ?_
            refine ap (.bool r65.2.1) rfl rfl rfl (pu_move rfl (AEv.tmp rfl)) ?_
            refine aops_nil ?_
            refine aw_cond (b := r65.2.1) (AEv.tmp rfl) (fun hb72 => ?_) (fun hb72 => ?_)
            · replace h := ite_t hb72 h
              refine aw_region ?_
              refine ap (.ptr o0 0) rfl rfl rfl (pu_move rfl (AEv.tmp rfl)) ?_
              refine ap (.int .i64 r65.1) rfl rfl rfl (pu_move rfl (AEv.tmp rfl)) ?_
              refine ap (.ptr o0 0) rfl rfl rfl (pu_nilCheck rfl (AEv.tmp rfl) rfl) ?_
              refine ap (.ptr o0 0) rfl rfl rfl (pu_fieldAddr rfl underlying93 rfl sizeOf29 (by decide) (AEv.tmp rfl) rfl) ?_
              refine ap (.ptr o0 2) rfl rfl rfl (pu_fieldAddr rfl underlying29 rfl sizeOf3 (by decide) (AEv.tmp rfl) rfl) ?_
              refine ac0 rfl rfl (op_store (i := 0) (cs' := (parse.parser.ct (.own t66) (.own t67) { r65.2.2 with in_ := { r65.2.2.in_ with Left := r65.1 } })) rfl sizeOf3 (AEv.tmp rfl) (v := .int .i64 r65.1) (AEv.tmp rfl) rfl rfl rfl (Nat.le_of_ble_eq_true rfl) rfl ?_)
              refine aops_nil ?_
              subst h
              exact ⟨(), Weak.mkL [0, 1, 2] (by decide) ⟨⟨_, rfl, (CellsLe.refl _), rfl⟩, ⟨_, rfl, rfl⟩, ⟨_, rfl, rfl⟩, trivial⟩ ⟨AEv.tmp rfl, AEv.tmp rfl, AEv.tmp rfl, trivial⟩⟩
            · replace h := ite_fb hb72 h
              refine aw_skip ?_
              subst h
              exact ⟨(), Weak.mkL [0, 1, 2] (by decide) ⟨⟨_, rfl, (CellsLe.refl _), rfl⟩, ⟨_, rfl, rfl⟩, ⟨_, rfl, rfl⟩, trivial⟩ ⟨AEv.tmp rfl, AEv.tmp rfl, AEv.tmp rfl, trivial⟩⟩
          · intro _
            have h := h70
            obtain ⟨s81, s81e, h84⟩ := bind_some h
            refine aw_meet (ν := Nat × Nat) (fun v => [(6, .bool r65.2.1)]) (fun v => [(o0, .cells [.str s81.1, .sl (.own v.1) 1 (s81.2.1.map AV.str), .int .i64 s81.2.2.1, .int .i64 s81.2.2.2.1, .bool s81.2.2.2.2.1, .int .i64 s81.2.2.2.2.2.1, .int .i64 s81.2.2.2.2.2.2.1, .str s81.2.2.2.2.2.2.2.1, .int .i64 s81.2.2.2.2.2.2.2.2.1, .int .i64 s81.2.2.2.2.2.2.2.2.2.1, .int .i64 s81.2.2.2.2.2.2.2.2.2.2.1, .sl (.own v.2) 2 (s81.2.2.2.2.2.2.2.2.2.2.2.map api.Request.av)]), (v.1, .spare), (v.2, .spare)]) ?_ ?_
            · have h := s81e
              refine aw_upd ?_
              obtain ⟨s87, s87e, h88⟩ := letO_of h
              refine aw_meet (ν := Unit) (fun v => [(0, .ptr o0 0), (6, .bool r65.2.1), (78, .bool s87)]) (fun v => [(o0, .cells (parse.parser.ct (.own t66) (.own t67) { r65.2.2 with in_ := { r65.2.2.in_ with Left := s69 } })), (t66, .spare), (t67, .spare)]) ?_ ?_
              · have h := s87e.symm
                refine aw_region ?_
                refine ap (.bool r65.2.1) rfl rfl rfl (pu_move rfl (AEv.tmp rfl)) ?_
                refine ap (.bool r65.2.1) rfl rfl rfl (pu_move rfl (AEv.tmp rfl)) ?_
                rcases Bool.eq_false_or_eq_true r65.2.1 with hb90 | hb90
                · replace h := ite_t hb90 h
                  refine aops_known 75 rfl hb90 ?_
                  refine agp (.int .i64 r65.1) rfl rfl rfl rfl rfl rfl rfl (pu_move rfl (AEv.tmp rfl)) ?_
                  refine agp (.bool (decide (r65.1 = 0))) rfl rfl rfl rfl rfl rfl rfl (pu_int (v := .bool (decide (r65.1 = 0))) rfl rfl (AEv.tmp rfl) (AEv.int _ _) rfl) ?_
                  refine ap (.bool (decide (r65.1 = 0))) rfl rfl rfl (pu_pick (b := true) rfl (AEv.tmp rfl) (fun _ => (AEv.tmp rfl)) (fun h => nomatch h)) ?_
                  refine aops_nil ?_
                  subst h
                  exact ⟨(), Weak.mkL [0, 1, 2] (by decide) ⟨⟨_, rfl, (CellsLe.refl _), rfl⟩, ⟨_, rfl, rfl⟩, ⟨_, rfl, rfl⟩, trivial⟩ ⟨AEv.tmp rfl, AEv.tmp rfl, (AEv.le (AEv.tmp rfl) (AV.Le.refl _)), trivial⟩⟩
                · replace h := ite_fb hb90 h
                  refine aops_known 75 rfl hb90 ?_
                  refine an rfl rfl rfl rfl rfl rfl rfl rfl ?_
                  refine an rfl rfl rfl rfl rfl rfl rfl rfl ?_
                  refine ap (.bool false) rfl rfl rfl (pu_pick (b := false) rfl (AEv.tmp rfl) (fun h => nomatch h) (fun _ => (AEv.bool _))) ?_
                  refine aops_nil ?_
                  subst h
                  exact ⟨(), Weak.mkL [0, 1, 2] (by decide) ⟨⟨_, rfl, (CellsLe.refl _), rfl⟩, ⟨_, rfl, rfl⟩, ⟨_, rfl, rfl⟩, trivial⟩ ⟨AEv.tmp rfl, AEv.tmp rfl, AEv.tmp rfl, trivial⟩⟩
              · intro _
                have h := h88
                refine aw_cond (b := s87) (AEv.tmp rfl) (fun hb94 => ?_) (fun hb94 => ?_)
                · replace h := ite_t hb94 h
                  refine aw_region ?_
                  refine ap (.ptr o0 0) rfl rfl rfl (pu_move rfl (AEv.tmp rfl)) ?_
                  obtain ⟨r91, r91e, h⟩ := bind_some h
                  refine ac rfl rfl rfl (op_call (vs := [.ptr o0 0, .sl .no 1 (([] : List (List UInt8)).map AV.str)]) (H := [(o0, .cells (parse.parser.ct (.own t66) (.own t67) { r65.2.2 with in_ := { r65.2.2.in_ with Left := s69 } })), (t66, .spare), (t67, .spare)]) rfl call76 ⟨(AEv.tmp rfl), (AEv.le (AEv.nil 1 (by decide)) (AV.Le.forget _ _ _)), trivial⟩ (List.Perm.refl _) (parse.parser.whole.ok r91e o0 t66 t67) ?_)
                  rintro _ _ ⟨t92, rfl, rfl⟩
                  refine aops_nil ?_
                  refine upd_claimCell 0 1 rfl rfl fun t93 => ?_
                  refine upd_done ?_
                  obtain rfl := some_of h
                  exact ⟨(t93, t92), Weak.mkL [1, 0, 2] (by decide) ⟨⟨_, rfl, (CellsLe.refl _), rfl⟩, ⟨_, rfl, rfl⟩, ⟨_, rfl, rfl⟩, trivial⟩ ⟨AEv.tmp rfl, trivial⟩⟩
                · replace h := ite_fb hb94 h
                  refine aw_skip ?_
                  refine upd_done ?_
                  obtain rfl := some_of h
                  exact ⟨(t66, t67), Weak.mkL [0, 1, 2] (by decide) ⟨⟨_, rfl, (CellsLe.refl _), rfl⟩, ⟨_, rfl, rfl⟩, ⟨_, rfl, rfl⟩, trivial⟩ ⟨AEv.tmp rfl, trivial⟩⟩
            · rintro ⟨n82, n83⟩
              have h := h84
              refine aw_seq ?_
              refine aw_region ?_
              refine ap (.bool r65.2.1) rfl rfl rfl (pu_move rfl (AEv.tmp rfl)) ?_
              refine ap (.bool r65.2.1) rfl rfl rfl (pu_assign rfl (AEv.tmp rfl)) ?_
              refine aops_nil ?_
              refine aw_ret ?_
              obtain rfl := some_of h
              exact ⟨[.bool r65.2.1], _, [(o0, .cells [.str s81.1, .sl (.own n82) 1 (s81.2.1.map AV.str), .int .i64 s81.2.2.1, .int .i64 s81.2.2.2.1, .bool s81.2.2.2.2.1, .int .i64 s81.2.2.2.2.2.1, .int .i64 s81.2.2.2.2.2.2.1, .str s81.2.2.2.2.2.2.2.1, .int .i64 s81.2.2.2.2.2.2.2.2.1, .int .i64 s81.2.2.2.2.2.2.2.2.2.1, .int .i64 s81.2.2.2.2.2.2.2.2.2.2.1, .sl (.own n83) 2 (s81.2.2.2.2.2.2.2.2.2.2.2.map api.Request.av)]), (n82, .spare), (n83, .spare)], ⟨(AEv.tmp rfl), trivial⟩, (AV.Le.refl _), Weak.mkL [0, 1, 2] (by decide) ⟨⟨_, rfl, (CellsLe.refl _), rfl⟩, ⟨_, rfl, rfl⟩, ⟨_, rfl, rfl⟩, trivial⟩ trivial, ⟨n82, n83, rfl, rfl⟩⟩

theorem parse.Feed.ok {in_ : api.Input} {b : List UInt8} {l : api.Limits} {r : api.Input × (List api.Request) × Int} (h : parse.Feed in_ b l = some r) : Go.Lift.Spec prog 15 [.agg (api.Input.ct .no in_), .str b, .agg [.int .i64 l.Args, .int .i64 l.Bulk, .int .i64 l.Line]] [] (fun v H => ∃ n0, v = .tup [.agg [.str r.1.Rest, .sl .no 1 (r.1.Args.map AV.str), .int .i64 r.1.Left, .int .i64 r.1.Size, .bool r.1.Body, .int .i64 r.1.Need, .int .i64 r.1.Dead], .sl (.own n0) 2 (r.2.1.map api.Request.av), .int .i64 r.2.2] ∧ H = [(n0, .spare)]) := by
  unfold parse.Feed at h
  refine Go.Lift.Spec.of_body (rs := [.cell 6 29, .tmp 7, .tmp 8]) func15 rfl rfl (Nat.le_of_ble_eq_true rfl) rfl ?_
  refine aw_seq ?_
  refine aw_region ?_
  refine ac rfl rfl rfl (op_box (cs := (api.Input.ct .no in_)) (v := .agg (api.Input.ct .no in_)) rfl (AEv.tmp rfl) rfl rfl ?_)
  intro p64
  refine ac rfl rfl rfl (op_box (cs := [.int .i64 l.Args, .int .i64 l.Bulk, .int .i64 l.Line]) (v := .agg [.int .i64 l.Args, .int .i64 l.Bulk, .int .i64 l.Line]) rfl (AEv.tmp rfl) rfl rfl ?_)
  intro p65
  refine ac rfl rfl rfl (op_alloc (cs := [.str ([] : List UInt8), .sl .full 1 (([] : List (List UInt8)).map AV.str), .int .i64 0, .int .i64 0, .bool false, .int .i64 0, .int .i64 0]) (v := .agg [.str ([] : List UInt8), .sl .full 1 (([] : List (List UInt8)).map AV.str), .int .i64 0, .int .i64 0, .bool false, .int .i64 0, .int .i64 0]) rfl zeroValue29 rfl rfl rfl ?_)
  intro p66
  refine ap (.sl .full 2 (([] : List api.Request).map api.Request.av)) rfl rfl rfl (pu_assign rfl (AEv.nil 2 (by decide))) ?_
  refine ap (.int .i64 0) rfl rfl rfl (pu_assign rfl (AEv.int _ _)) ?_
  refine aops_nil ?_
  refine aw_seq ?_
  refine aw_seq ?_
  refine aw_region ?_
  refine ap (.ptr p64 6) rfl rfl rfl (pu_fieldAddr rfl underlying29 rfl sizeOf27 (by decide) (AEv.tmp rfl) rfl) ?_
  refine ac rfl rfl rfl (op_load1 (i := 2) rfl isAgg27 (AEv.tmp rfl) rfl rfl ?_)
  refine ap (.bool (!decide (in_.Dead = 0))) rfl rfl rfl (pu_int (v := .bool (!decide (in_.Dead = 0))) rfl rfl (AEv.tmp rfl) (AEv.int _ _) rfl) ?_
  refine aops_nil ?_
  refine aw_cond (b := (!decide (in_.Dead = 0))) (AEv.tmp rfl) (fun hb127 => ?_) (fun hb127 => ?_)
  · replace h := ite_f (ndec_t hb127) h
    refine aw_seq ?_
    refine aw_plan (by decide +kernel) [([], some 13, [3]), ([0], some 14, [13]), ([1], some 15, [14]), ([], some 16, [3]), ([3], some 17, [16]), ([2, 0, 1, 2], none, [6, 15]), ([5, 0, 1, 2, 5], some 7, []), ([4, 6, 0, 1, 2, 3, 4, 5, 6], some 8, [17])] rfl [[], [0], [0, 1], [], [3], [0, 1, 2], [0, 1, 2, 5], [0, 1, 2, 3, 4, 5, 6]] [[], [(2, 0, false)], [], [], [(2, 0, false)], [(0, 0, true)], [], []] [[5], [], []] [[[(p66, .cells [.str ([] : List UInt8), .sl .full 1 (([] : List (List UInt8)).map AV.str), .int .i64 0, .int .i64 0, .bool false, .int .i64 0, .int .i64 0])], [(p66, .cells [.str ([] : List UInt8), .sl .full 1 (([] : List (List UInt8)).map AV.str), .int .i64 0, .int .i64 0, .bool false, .int .i64 0, .int .i64 in_.Dead])]], [[(p65, .cells [.int .i64 l.Args, .int .i64 l.Bulk, .int .i64 l.Line])]], [[(p64, .cells (api.Input.ct .no in_))]]] [.ptr p64 6, .int .i64 in_.Dead, .agg [.str ([] : List UInt8), .sl .full 1 (([] : List (List UInt8)).map AV.str), .int .i64 0, .int .i64 0, .bool false, .int .i64 0, .int .i64 in_.Dead], .ptr p64 6, .int .i64 in_.Dead, .un, .sl .full 2 (([] : List api.Request).map api.Request.av), .int .i64 in_.Dead] (by decide +kernel) rfl rfl ?_ ?_
    · refine ⟨⟨[3], rfl, stepg_pure rfl (pu_fieldAddr rfl underlying29 rfl sizeOf27 (by decide) (AEv.tmp rfl) rfl)⟩, ?_⟩
      refine ⟨⟨[13], rfl, stepg_plain rfl (op_load1 (i := 0) rfl isAgg27 (AEv.tmp rfl) rfl rfl ⟨rfl, rfl⟩)⟩, ?_⟩
      refine ⟨⟨[14], rfl, stepg_pure rfl (pu_build (zs := [.str ([] : List UInt8), .sl .full 1 (([] : List (List UInt8)).map AV.str), .int .i64 0, .int .i64 0, .bool false, .int .i64 0, .int .i64 0]) (szs := [1, 1, 1, 1, 1, 1, 1]) (aparts := [(6, .int .i64 in_.Dead)]) (cs := [.str ([] : List UInt8), .sl .full 1 (([] : List (List UInt8)).map AV.str), .int .i64 0, .int .i64 0, .bool false, .int .i64 0, .int .i64 in_.Dead]) rfl underlying29 zeroValue29 rfl ⟨sizeOf9, sizeOf26, sizeOf3, sizeOf3, sizeOf4, sizeOf3, sizeOf27, trivial⟩ ⟨rfl, (AEv.tmp rfl), trivial⟩ rfl)⟩, ?_⟩
      refine ⟨⟨[3], rfl, stepg_pure rfl (pu_fieldAddr rfl underlying29 rfl sizeOf27 (by decide) (AEv.tmp rfl) rfl)⟩, ?_⟩
      refine ⟨⟨[16], rfl, stepg_plain rfl (op_load1 (i := 0) rfl isAgg27 (AEv.tmp rfl) rfl rfl ⟨rfl, rfl⟩)⟩, ?_⟩
      refine ⟨⟨[6, 15], rfl, stepg_plain rfl (op_store (i := 0) (cs' := [.str ([] : List UInt8), .sl .full 1 (([] : List (List UInt8)).map AV.str), .int .i64 0, .int .i64 0, .bool false, .int .i64 0, .int .i64 in_.Dead]) rfl sizeOf29 (AEv.tmp rfl) (v := .agg [.str ([] : List UInt8), .sl .full 1 (([] : List (List UInt8)).map AV.str), .int .i64 0, .int .i64 0, .bool false, .int .i64 0, .int .i64 in_.Dead]) (AEv.tmp rfl) rfl rfl rfl (Nat.le_of_ble_eq_true rfl) rfl ⟨rfl, rfl⟩)⟩, ?_⟩
      refine ⟨⟨[], rfl, stepg_pure rfl (pu_assign rfl (AEv.nil 2 (by decide)))⟩, ?_⟩
      refine ⟨⟨[17], rfl, stepg_pure rfl (pu_assign rfl (AEv.tmp rfl))⟩, ?_⟩
      trivial
    refine aw_claim 7 (AEv.tmp rfl) fun t67 => ?_
    refine aw_ret ?_
    obtain rfl := some_of h
    exact ⟨[.agg [.str ([] : List UInt8), .sl .full 1 (([] : List (List UInt8)).map AV.str), .int .i64 0, .int .i64 0, .bool false, .int .i64 0, .int .i64 in_.Dead], .sl (.own t67) 2 (([] : List api.Request).map api.Request.av), .int .i64 in_.Dead], .tup [.agg [.str ([] : List UInt8), .sl .no 1 (([] : List (List UInt8)).map AV.str), .int .i64 0, .int .i64 0, .bool false, .int .i64 0, .int .i64 in_.Dead], .sl (.own t67) 2 (([] : List api.Request).map api.Request.av), .int .i64 in_.Dead], [(t67, .spare)], ⟨(CellOk.agg 1 (AEv.tmp rfl) rfl isAgg29 sizeOf29 (Nat.le_of_ble_eq_true rfl) rfl), (AEv.tmp rfl), (AEv.tmp rfl), trivial⟩, (AV.Le.tup ⟨(AV.Le.agg ⟨(AV.Le.refl _), (AV.Le.forget _ _ _), (AV.Le.refl _), (AV.Le.refl _), (AV.Le.refl _), (AV.Le.refl _), (AV.Le.refl _), trivial⟩), (AV.Le.refl _), (AV.Le.refl _), trivial⟩), Weak.mkL [0] (by decide) ⟨⟨_, rfl, rfl⟩, trivial⟩ trivial, ⟨t67, rfl, rfl⟩⟩
  · replace h := ite_t (ndec_f hb127) h
    refine aw_skip ?_
    refine aw_seq ?_
    obtain ⟨c68, h⟩ := need_of h
    obtain ⟨r69, r69e, h⟩ := bind_some h
    refine aw_reserve fun p70 => ?_
    refine aw_plan (by decide +kernel) [([], some 18, [3]), ([], some 19, [3]), ([1], some 20, [19]), ([], some 21, [1]), ([2, 3], some 22, [20, 21]), ([], some 23, [5]), ([5], some 24, [23]), ([0, 4, 6], some 25, [18, 22, 24]), ([7], some 26, [25]), ([8, 6, 0, 1, 2, 3, 4, 5, 6, 7, 8], some 9, [26])] rfl [[], [], [1], [], [1, 2, 3], [], [5], [0, 1, 2, 3, 4, 5, 6], [0, 1, 2, 3, 4, 5, 6, 7], [0, 1, 2, 3, 4, 5, 6, 7, 8]] [[(3, 0, false)], [], [(3, 0, false)], [], [], [(2, 0, false)], [], [], [(0, 0, true)], []] [[8], [], [], []] [[[(p70, .resv)], [(p70, .cells (parse.parser.ct .no .full ({ in_ := in_, s := in_.Rest ++ b, l := r69, out := ([] : List api.Request) } : parse.parser)))]], [[(p66, .cells [.str ([] : List UInt8), .sl .full 1 (([] : List (List UInt8)).map AV.str), .int .i64 0, .int .i64 0, .bool false, .int .i64 0, .int .i64 0])]], [[(p65, .cells [.int .i64 l.Args, .int .i64 l.Bulk, .int .i64 l.Line])]], [[(p64, .cells (api.Input.ct .no in_))]]] [.agg (api.Input.ct .no in_), .ptr p64 0, .str in_.Rest, .str b, .str (in_.Rest ++ b), .agg [.int .i64 l.Args, .int .i64 l.Bulk, .int .i64 l.Line], .agg [.int .i64 r69.Args, .int .i64 r69.Bulk, .int .i64 r69.Line], .agg (parse.parser.ct .no .full ({ in_ := in_, s := in_.Rest ++ b, l := r69, out := ([] : List api.Request) } : parse.parser)), .ptr p70 0, .ptr p70 0] (by decide +kernel) rfl rfl ?_ ?_
    · refine ⟨⟨[3], rfl, stepg_plain rfl (op_loadN (i := 0) rfl isAgg29 sizeOf29 (AEv.tmp rfl) rfl (Nat.le_of_ble_eq_true rfl) rfl ⟨rfl, rfl⟩)⟩, ?_⟩
      refine ⟨⟨[3], rfl, stepg_pure rfl (pu_fieldAddr rfl underlying29 rfl sizeOf9 (by decide) (AEv.tmp rfl) rfl)⟩, ?_⟩
      refine ⟨⟨[19], rfl, stepg_plain rfl (op_load1 (i := 0) rfl isAgg9 (AEv.tmp rfl) rfl rfl ⟨rfl, rfl⟩)⟩, ?_⟩
      refine ⟨⟨[1], rfl, stepg_pure rfl (pu_move rfl (AEv.tmp rfl))⟩, ?_⟩
      refine ⟨⟨[20, 21], rfl, stepg_pure rfl (pu_strAdd rfl (AEv.tmp rfl) (AEv.tmp rfl) c68)⟩, ?_⟩
      refine ⟨⟨[5], rfl, stepg_plain rfl (op_loadN (i := 0) rfl isAgg23 sizeOf23 (AEv.tmp rfl) rfl (Nat.le_of_ble_eq_true rfl) rfl ⟨rfl, rfl⟩)⟩, ?_⟩
      refine ⟨⟨[23], rfl, stepg_plain rfl (op_call (vs := [.agg [.int .i64 l.Args, .int .i64 l.Bulk, .int .i64 l.Line]]) (H := []) rfl call19 ⟨(AEv.tmp rfl), trivial⟩ (R := []) (List.Perm.refl _) (parse.Limits.ok r69e) (by rintro _ _ ⟨rfl, rfl⟩; exact ⟨rfl, rfl⟩))⟩, ?_⟩
      refine ⟨⟨[18, 22, 24], rfl, stepg_pure rfl (pu_build (zs := [.str ([] : List UInt8), .sl .full 1 (([] : List (List UInt8)).map AV.str), .int .i64 0, .int .i64 0, .bool false, .int .i64 0, .int .i64 0, .str ([] : List UInt8), .int .i64 0, .int .i64 0, .int .i64 0, .sl .full 2 (([] : List api.Request).map api.Request.av)]) (szs := [7, 1, 3, 1]) (aparts := [(0, .agg (api.Input.ct .no in_)), (1, .str (in_.Rest ++ b)), (2, .agg [.int .i64 r69.Args, .int .i64 r69.Bulk, .int .i64 r69.Line])]) (cs := [.str in_.Rest, .sl .no 1 (in_.Args.map AV.str), .int .i64 in_.Left, .int .i64 in_.Size, .bool in_.Body, .int .i64 in_.Need, .int .i64 in_.Dead, .str (in_.Rest ++ b), .int .i64 r69.Args, .int .i64 r69.Bulk, .int .i64 r69.Line, .sl .full 2 (([] : List api.Request).map api.Request.av)]) rfl underlying93 zeroValue93 rfl ⟨sizeOf29, sizeOf9, sizeOf23, sizeOf30, trivial⟩ ⟨rfl, (AEv.tmp rfl), ⟨rfl, (AEv.tmp rfl), ⟨rfl, (AEv.tmp rfl), trivial⟩⟩⟩ rfl)⟩, ?_⟩
      refine ⟨⟨[25], rfl, stepg_plain rfl (aop_settleP (op_box (cs := (parse.parser.ct .no .full ({ in_ := in_, s := in_.Rest ++ b, l := r69, out := ([] : List api.Request) } : parse.parser))) (v := .agg (parse.parser.ct .no .full ({ in_ := in_, s := in_.Rest ++ b, l := r69, out := ([] : List api.Request) } : parse.parser))) rfl (AEv.tmp rfl) rfl rfl fun t => ⟨t, rfl, rfl⟩) ⟨rfl, rfl⟩)⟩, ?_⟩
      refine ⟨⟨[26], rfl, stepg_pure rfl (pu_assign rfl (AEv.tmp rfl))⟩, ?_⟩
      trivial
    refine aw_seq ?_
    refine aw_region ?_
    refine ap (.ptr p70 0) rfl rfl rfl (pu_move rfl (AEv.tmp rfl)) ?_
    refine ap (.ptr p70 0) rfl rfl rfl (pu_move rfl (AEv.tmp rfl)) ?_
    refine ap (.ptr p64 1) rfl rfl rfl (pu_fieldAddr rfl underlying29 rfl sizeOf26 (by decide) (AEv.tmp rfl) rfl) ?_
    refine ac rfl rfl rfl (op_load1 (i := 3) rfl isAgg26 (AEv.tmp rfl) rfl rfl ?_)
    obtain ⟨r71, r71e, h⟩ := bind_some h
    refine ac rfl rfl rfl (op_call (vs := [.sl .no 1 (in_.Args.map AV.str)]) (H := []) rfl call50 ⟨(AEv.tmp rfl), trivial⟩ (List.Perm.refl _) (slices.Clone_string.ok r71e) ?_)
    rintro _ _ ⟨t72, rfl, rfl⟩
    refine ap (.ptr p70 0) rfl rfl rfl (pu_nilCheck rfl (AEv.tmp rfl) rfl) ?_
    refine ap (.ptr p70 0) rfl rfl rfl (pu_fieldAddr rfl underlying93 rfl sizeOf29 (by decide) (AEv.tmp rfl) rfl) ?_
    refine ap (.ptr p70 1) rfl rfl rfl (pu_fieldAddr rfl underlying29 rfl sizeOf26 (by decide) (AEv.tmp rfl) rfl) ?_
    refine ac0 rfl rfl (op_store (i := 1) (cs' := (parse.parser.ct (.own t72) .full ({ in_ := { in_ with Args := r71 }, s := in_.Rest ++ b, l := r69, out := ([] : List api.Request) } : parse.parser))) rfl sizeOf26 (AEv.tmp rfl) (v := .sl (.own t72) 1 (r71.map AV.str)) (AEv.tmp rfl) rfl rfl rfl (Nat.le_of_ble_eq_true rfl) rfl ?_)
    refine ap (.ptr p70 0) rfl rfl rfl (pu_nilCheck rfl (AEv.tmp rfl) rfl) ?_
    refine ap (.ptr p70 0) rfl rfl rfl (pu_fieldAddr rfl underlying93 rfl sizeOf29 (by decide) (AEv.tmp rfl) rfl) ?_
    refine ap (.ptr p70 0) rfl rfl rfl (pu_fieldAddr rfl underlying29 rfl sizeOf9 (by decide) (AEv.tmp rfl) rfl) ?_
    refine ac0 rfl rfl (op_store (i := 1) (cs' := (parse.parser.ct (.own t72) .full ({ in_ := { in_ with Rest := ([] : List UInt8), Args := r71 }, s := in_.Rest ++ b, l := r69, out := ([] : List api.Request) } : parse.parser))) rfl sizeOf9 (AEv.tmp rfl) (v := .str ([] : List UInt8)) (AEv.const rfl) rfl rfl rfl (Nat.le_of_ble_eq_true rfl) rfl ?_)
    refine aops_nil ?_
    obtain ⟨s97, s97e, h100⟩ := bind_some h
    refine aw_meet (ν := Nat × Nat) (fun v => [(6, .ptr p66 0), (9, .ptr p70 0)]) (fun v => [(p66, .cells [.str ([] : List UInt8), .sl .full 1 (([] : List (List UInt8)).map AV.str), .int .i64 0, .int .i64 0, .bool false, .int .i64 0, .int .i64 0]), (p70, .cells [.str s97.1, .sl (.own v.1) 1 (s97.2.1.map AV.str), .int .i64 s97.2.2.1, .int .i64 s97.2.2.2.1, .bool s97.2.2.2.2.1, .int .i64 s97.2.2.2.2.2.1, .int .i64 s97.2.2.2.2.2.2.1, .str s97.2.2.2.2.2.2.2.1, .int .i64 s97.2.2.2.2.2.2.2.2.1, .int .i64 s97.2.2.2.2.2.2.2.2.2.1, .int .i64 s97.2.2.2.2.2.2.2.2.2.2.1, .sl (.own v.2) 2 (s97.2.2.2.2.2.2.2.2.2.2.2.map api.Request.av)]), (v.1, .spare), (v.2, .spare)]) ?_ ?_
    · have h := s97e
      refine aw_block ?_
      refine aw_claimCell 1 11 rfl rfl fun t125 => ?_
      refine aw_while (σ := parse.Feed.S0) (ν := Nat × Nat) (parse.Feed.body0 in_ l) (fun s115 v => [(6, .ptr p66 0), (9, .ptr p70 0)]) (fun s115 v => [(p66, .cells [.str ([] : List UInt8), .sl .full 1 (([] : List (List UInt8)).map AV.str), .int .i64 0, .int .i64 0, .bool false, .int .i64 0, .int .i64 0]), (p70, .cells [.str s115.c, .sl (.own v.1) 1 (s115.c2.map AV.str), .int .i64 s115.c3, .int .i64 s115.c4, .bool s115.c5, .int .i64 s115.c6, .int .i64 s115.c7, .str s115.c8, .int .i64 s115.c9, .int .i64 s115.c10, .int .i64 s115.c11, .sl (.own v.2) 2 (s115.c12.map api.Request.av)]), (v.1, .spare), (v.2, .spare)]) ⟨([] : List UInt8), r71, in_.Left, in_.Size, in_.Body, in_.Need, in_.Dead, in_.Rest ++ b, r69.Args, r69.Bulk, r69.Line, ([] : List api.Request)⟩ (t72, t125) _ h (Weak.mkL [3, 2, 1, 0] (by decide) ⟨⟨_, rfl, (CellsLe.refl _), rfl⟩, ⟨_, rfl, ⟨(AV.Le.refl _), (AV.Le.refl _), (AV.Le.refl _), (AV.Le.refl _), (AV.Le.refl _), (AV.Le.refl _), (AV.Le.refl _), (AV.Le.refl _), (AV.Le.refl _), (AV.Le.refl _), (AV.Le.refl _), (AV.Le.refl _), trivial⟩, rfl⟩, ⟨_, rfl, rfl⟩, ⟨_, rfl, rfl⟩, trivial⟩ ⟨AEv.tmp rfl, AEv.tmp rfl, trivial⟩) ?_
      rintro s115 ⟨n116, n117⟩ x119 h hx118
      unfold parse.Feed.body0 at h
      refine aw_seq ?_
      refine aw_seq ?_
      refine aw_region ?_
      refine ap (.ptr p70 0) rfl rfl rfl (pu_move rfl (AEv.tmp rfl)) ?_
      obtain ⟨r121, r121e, h⟩ := bind_some h
      refine aops_weak (weak_pick [1, 2, 3, 0] (by decide) rfl) ?_
      refine ac rfl rfl rfl (op_call (vs := [.ptr p70 0]) (H := [(p70, .cells [.str s115.c, .sl (.own n116) 1 (s115.c2.map AV.str), .int .i64 s115.c3, .int .i64 s115.c4, .bool s115.c5, .int .i64 s115.c6, .int .i64 s115.c7, .str s115.c8, .int .i64 s115.c9, .int .i64 s115.c10, .int .i64 s115.c11, .sl (.own n117) 2 (s115.c12.map api.Request.av)]), (n116, .spare), (n117, .spare)]) rfl call51 ⟨(AEv.tmp rfl), trivial⟩ (List.Perm.refl _) (parse.parser.step.ok r121e p70 n116 n117) ?_)
      rintro _ _ ⟨t122, t123, rfl, rfl⟩
      refine aops_nil ?_
      refine aw_cond (b := r121.1) (AEv.tmp rfl) (fun hb124 => ?_) (fun hb124 => ?_)
      · replace h := ite_t hb124 h
        refine aw_skip ?_
        refine aw_block ?_
        refine aw_skip ?_
        obtain rfl := some_of h
        exact ⟨_, (t122, t123), rfl, Weak.mkL [3, 0, 1, 2] (by decide) ⟨⟨_, rfl, (CellsLe.refl _), rfl⟩, ⟨_, rfl, (CellsLe.refl _), rfl⟩, ⟨_, rfl, rfl⟩, ⟨_, rfl, rfl⟩, trivial⟩ ⟨AEv.tmp rfl, AEv.tmp rfl, trivial⟩⟩
      · replace h := ite_fb hb124 h
        refine aw_exit ?_
        obtain rfl := some_of h
        have h := congrArg some (hx118 _ rfl)
        obtain rfl := some_of h
        exact ⟨(t122, t123), Weak.mkL [3, 0, 1, 2] (by decide) ⟨⟨_, rfl, (CellsLe.refl _), rfl⟩, ⟨_, rfl, (CellsLe.refl _), rfl⟩, ⟨_, rfl, rfl⟩, ⟨_, rfl, rfl⟩, trivial⟩ ⟨AEv.tmp rfl, AEv.tmp rfl, trivial⟩⟩
    · rintro ⟨n98, n99⟩
      have h := h100
      refine aw_seq ?_
      refine aw_region ?_
      refine ap (.ptr p70 0) rfl rfl rfl (pu_move rfl (AEv.tmp rfl)) ?_
      refine ap (.ptr p70 0) rfl rfl rfl (pu_move rfl (AEv.tmp rfl)) ?_
      refine ap (.ptr p70 0) rfl rfl rfl (pu_nilCheck rfl (AEv.tmp rfl) rfl) ?_
      refine ap (.ptr p70 7) rfl rfl rfl (pu_fieldAddr rfl underlying93 rfl sizeOf9 (by decide) (AEv.tmp rfl) rfl) ?_
      refine ac rfl rfl rfl (op_load1 (i := 1) rfl isAgg9 (AEv.tmp rfl) rfl rfl ?_)
      obtain ⟨r126, r126e, h⟩ := bind_some h
      refine ac rfl rfl rfl (op_call (vs := [.str s97.2.2.2.2.2.2.2.1]) (H := []) rfl call52 ⟨(AEv.tmp rfl), trivial⟩ (List.Perm.refl _) (strings.Clone.ok r126e) ?_)
      rintro _ _ ⟨rfl, rfl⟩
      refine ap (.ptr p70 0) rfl rfl rfl (pu_nilCheck rfl (AEv.tmp rfl) rfl) ?_
      refine ap (.ptr p70 0) rfl rfl rfl (pu_fieldAddr rfl underlying93 rfl sizeOf29 (by decide) (AEv.tmp rfl) rfl) ?_
      refine ap (.ptr p70 0) rfl rfl rfl (pu_fieldAddr rfl underlying29 rfl sizeOf9 (by decide) (AEv.tmp rfl) rfl) ?_
      refine ac0 rfl rfl (op_store (i := 1) (cs' := [.str r126, .sl (.own n98) 1 (s97.2.1.map AV.str), .int .i64 s97.2.2.1, .int .i64 s97.2.2.2.1, .bool s97.2.2.2.2.1, .int .i64 s97.2.2.2.2.2.1, .int .i64 s97.2.2.2.2.2.2.1, .str s97.2.2.2.2.2.2.2.1, .int .i64 s97.2.2.2.2.2.2.2.2.1, .int .i64 s97.2.2.2.2.2.2.2.2.2.1, .int .i64 s97.2.2.2.2.2.2.2.2.2.2.1, .sl (.own n99) 2 (s97.2.2.2.2.2.2.2.2.2.2.2.map api.Request.av)]) rfl sizeOf9 (AEv.tmp rfl) (v := .str r126) (AEv.tmp rfl) rfl rfl rfl (Nat.le_of_ble_eq_true rfl) rfl ?_)
      refine aops_nil ?_
      refine aw_seq ?_
      refine aw_plan (by decide +kernel) [([], some 49, [9]), ([0], some 50, [49]), ([1], some 51, [50]), ([2], some 52, [51]), ([], some 53, [9]), ([4], some 54, [53]), ([5], some 55, [54]), ([6], some 56, [55]), ([], some 57, [9]), ([8], some 58, [57]), ([9], some 59, [58]), ([10], some 60, [59]), ([11], some 61, [60]), ([3, 0, 1, 2, 3], none, [6, 52]), ([7, 13, 0, 1, 2, 3, 4, 5, 6, 7, 13], some 7, [56]), ([12, 14, 0, 1, 2, 3, 4, 5, 6, 7, 8, 9, 10, 11, 12, 13, 14], some 8, [61])] rfl [[], [0], [0, 1], [0, 1, 2], [], [4], [4, 5], [4, 5, 6], [], [8], [8, 9], [8, 9, 10], [8, 9, 10, 11], [0, 1, 2, 3], [0, 1, 2, 3, 4, 5, 6, 7, 13], [0, 1, 2, 3, 4, 5, 6, 7, 8, 9, 10, 11, 12, 13, 14]] [[], [], [], [(1, 0, false)], [], [], [], [(1, 0, false)], [], [], [], [], [(1, 0, false)], [(0, 0, true)], [], []] [[13], [], [], []] [[[(p66, .cells [.str ([] : List UInt8), .sl .full 1 (([] : List (List UInt8)).map AV.str), .int .i64 0, .int .i64 0, .bool false, .int .i64 0, .int .i64 0])], [(p66, .cells [.str r126, .sl (.own n98) 1 (s97.2.1.map AV.str), .int .i64 s97.2.2.1, .int .i64 s97.2.2.2.1, .bool s97.2.2.2.2.1, .int .i64 s97.2.2.2.2.2.1, .int .i64 s97.2.2.2.2.2.2.1])]], [[(p70, .cells [.str r126, .sl (.own n98) 1 (s97.2.1.map AV.str), .int .i64 s97.2.2.1, .int .i64 s97.2.2.2.1, .bool s97.2.2.2.2.1, .int .i64 s97.2.2.2.2.2.1, .int .i64 s97.2.2.2.2.2.2.1, .str s97.2.2.2.2.2.2.2.1, .int .i64 s97.2.2.2.2.2.2.2.2.1, .int .i64 s97.2.2.2.2.2.2.2.2.2.1, .int .i64 s97.2.2.2.2.2.2.2.2.2.2.1, .sl (.own n99) 2 (s97.2.2.2.2.2.2.2.2.2.2.2.map api.Request.av)])]], [[(n98, .spare)]], [[(n99, .spare)]]] [.ptr p70 0, .ptr p70 0, .ptr p70 0, .agg [.str r126, .sl (.own n98) 1 (s97.2.1.map AV.str), .int .i64 s97.2.2.1, .int .i64 s97.2.2.2.1, .bool s97.2.2.2.2.1, .int .i64 s97.2.2.2.2.2.1, .int .i64 s97.2.2.2.2.2.2.1], .ptr p70 0, .ptr p70 0, .ptr p70 11, .sl (.own n99) 2 (s97.2.2.2.2.2.2.2.2.2.2.2.map api.Request.av), .ptr p70 0, .ptr p70 0, .ptr p70 0, .ptr p70 6, .int .i64 s97.2.2.2.2.2.2.1, .un, .sl (.own n99) 2 (s97.2.2.2.2.2.2.2.2.2.2.2.map api.Request.av), .int .i64 s97.2.2.2.2.2.2.1] (by decide +kernel) rfl rfl ?_ ?_
      · refine ⟨⟨[9], rfl, stepg_pure rfl (pu_move rfl (AEv.tmp rfl))⟩, ?_⟩
        refine ⟨⟨[49], rfl, stepg_pure rfl (pu_nilCheck rfl (AEv.tmp rfl) rfl)⟩, ?_⟩
        refine ⟨⟨[50], rfl, stepg_pure rfl (pu_fieldAddr rfl underlying93 rfl sizeOf29 (by decide) (AEv.tmp rfl) rfl)⟩, ?_⟩
        refine ⟨⟨[51], rfl, stepg_plain rfl (op_loadN (i := 0) rfl isAgg29 sizeOf29 (AEv.tmp rfl) rfl (Nat.le_of_ble_eq_true rfl) rfl ⟨rfl, rfl⟩)⟩, ?_⟩
        refine ⟨⟨[9], rfl, stepg_pure rfl (pu_move rfl (AEv.tmp rfl))⟩, ?_⟩
        refine ⟨⟨[53], rfl, stepg_pure rfl (pu_nilCheck rfl (AEv.tmp rfl) rfl)⟩, ?_⟩
        refine ⟨⟨[54], rfl, stepg_pure rfl (pu_fieldAddr rfl underlying93 rfl sizeOf30 (by decide) (AEv.tmp rfl) rfl)⟩, ?_⟩
        refine ⟨⟨[55], rfl, stepg_plain rfl (op_load1 (i := 0) rfl isAgg30 (AEv.tmp rfl) rfl rfl ⟨rfl, rfl⟩)⟩, ?_⟩
        refine ⟨⟨[9], rfl, stepg_pure rfl (pu_move rfl (AEv.tmp rfl))⟩, ?_⟩
        refine ⟨⟨[57], rfl, stepg_pure rfl (pu_nilCheck rfl (AEv.tmp rfl) rfl)⟩, ?_⟩
        refine ⟨⟨[58], rfl, stepg_pure rfl (pu_fieldAddr rfl underlying93 rfl sizeOf29 (by decide) (AEv.tmp rfl) rfl)⟩, ?_⟩
        refine ⟨⟨[59], rfl, stepg_pure rfl (pu_fieldAddr rfl underlying29 rfl sizeOf27 (by decide) (AEv.tmp rfl) rfl)⟩, ?_⟩
        refine ⟨⟨[60], rfl, stepg_plain rfl (op_load1 (i := 0) rfl isAgg27 (AEv.tmp rfl) rfl rfl ⟨rfl, rfl⟩)⟩, ?_⟩
        refine ⟨⟨[6, 52], rfl, stepg_plain rfl (op_store (i := 0) (cs' := [.str r126, .sl (.own n98) 1 (s97.2.1.map AV.str), .int .i64 s97.2.2.1, .int .i64 s97.2.2.2.1, .bool s97.2.2.2.2.1, .int .i64 s97.2.2.2.2.2.1, .int .i64 s97.2.2.2.2.2.2.1]) rfl sizeOf29 (AEv.tmp rfl) (v := .agg [.str r126, .sl (.own n98) 1 (s97.2.1.map AV.str), .int .i64 s97.2.2.1, .int .i64 s97.2.2.2.1, .bool s97.2.2.2.2.1, .int .i64 s97.2.2.2.2.2.1, .int .i64 s97.2.2.2.2.2.2.1]) (AEv.tmp rfl) rfl rfl rfl (Nat.le_of_ble_eq_true rfl) rfl ⟨rfl, rfl⟩)⟩, ?_⟩
        refine ⟨⟨[56], rfl, stepg_pure rfl (pu_assign rfl (AEv.tmp rfl))⟩, ?_⟩
        refine ⟨⟨[61], rfl, stepg_pure rfl (pu_assign rfl (AEv.tmp rfl))⟩, ?_⟩
        trivial
      refine aw_ret ?_
      obtain rfl := some_of h
      exact ⟨[.agg [.str r126, .sl (.own n98) 1 (s97.2.1.map AV.str), .int .i64 s97.2.2.1, .int .i64 s97.2.2.2.1, .bool s97.2.2.2.2.1, .int .i64 s97.2.2.2.2.2.1, .int .i64 s97.2.2.2.2.2.2.1], .sl (.own n99) 2 (s97.2.2.2.2.2.2.2.2.2.2.2.map api.Request.av), .int .i64 s97.2.2.2.2.2.2.1], .tup [.agg [.str r126, .sl .no 1 (s97.2.1.map AV.str), .int .i64 s97.2.2.1, .int .i64 s97.2.2.2.1, .bool s97.2.2.2.2.1, .int .i64 s97.2.2.2.2.2.1, .int .i64 s97.2.2.2.2.2.2.1], .sl (.own n99) 2 (s97.2.2.2.2.2.2.2.2.2.2.2.map api.Request.av), .int .i64 s97.2.2.2.2.2.2.1], [(n99, .spare)], ⟨(CellOk.agg 0 (AEv.tmp rfl) rfl isAgg29 sizeOf29 (Nat.le_of_ble_eq_true rfl) rfl), (AEv.tmp rfl), (AEv.tmp rfl), trivial⟩, (AV.Le.tup ⟨(AV.Le.agg ⟨(AV.Le.refl _), (AV.Le.forget _ _ _), (AV.Le.refl _), (AV.Le.refl _), (AV.Le.refl _), (AV.Le.refl _), (AV.Le.refl _), trivial⟩), (AV.Le.refl _), (AV.Le.refl _), trivial⟩), Weak.mkL [3] (by decide) ⟨⟨_, rfl, rfl⟩, trivial⟩ trivial, ⟨n99, rfl, rfl⟩⟩

theorem mewslaw43.far.ok {l : List mewslaw43.Op} {r : Bool} (h : mewslaw43.far l = some r) : Go.Lift.Spec prog 24 [.sl .no 4 (l.map mewslaw43.Op.av)] [] (fun v H => v = .bool r ∧ H = []) := by
  unfold mewslaw43.far at h
  refine Go.Lift.Spec.of_body (rs := [.tmp 2]) func24 rfl rfl (Nat.le_of_ble_eq_true rfl) rfl ?_
  refine aw_seq ?_
  refine aw_region ?_
  refine ap (.bool false) rfl rfl rfl (pu_assign rfl (AEv.bool _)) ?_
  refine aops_nil ?_
  refine aw_seq ?_
  refine aw_region ?_
  refine ap (.int .i64 0) rfl rfl rfl (pu_assign rfl (AEv.int _ _)) ?_
  refine aops_nil ?_
  obtain ⟨s80, s80e, h60⟩ := bind_some h
  refine aw_join (σ := Unit) (ν := Unit) (fun u v => []) (fun u v => []) (fun u => s80 = .inl u) ?_ ?_
  · intro s59
    intro _
    rintro rfl
    have h := onSum_inl h60
    refine aw_seq ?_
    refine aw_region ?_
    refine ap (.bool false) rfl rfl rfl (pu_assign rfl (AEv.bool _)) ?_
    refine aops_nil ?_
    refine aw_ret ?_
    obtain rfl := some_of h
    exact ⟨[.bool false], _, [], ⟨(AEv.tmp rfl), trivial⟩, (AV.Le.refl _), Weak.mkL [] (by decide) trivial trivial, ⟨rfl, rfl⟩⟩
  · have h := s80e
    refine aw_seq ?_
    refine aw_region ?_
    refine ap (.sl .no 4 (l.map mewslaw43.Op.av)) rfl rfl rfl (pu_move rfl (AEv.tmp rfl)) ?_
    refine ap (.int .i64 (l.length : Int)) rfl rfl rfl (pu_lenM rfl underlying50 (AEv.tmp rfl)) ?_
    refine ap (.int .i64 0) rfl rfl rfl (pu_move rfl (AEv.int _ _)) ?_
    refine aops_nil ?_
    refine aw_block ?_
    refine aw_while (σ := mewslaw43.far.S0) (ν := Unit) (mewslaw43.far.body0 l) (fun s72 v => [(3, .int .i64 s72.n), (6, .sl .no 4 (l.map mewslaw43.Op.av)), (7, .int .i64 (l.length : Int)), (8, .int .i64 s72.t8)]) (fun s72 v => []) ⟨0, 0⟩ () _ h (Weak.mkL [] (by decide) trivial ⟨AEv.tmp rfl, AEv.tmp rfl, AEv.tmp rfl, AEv.tmp rfl, trivial⟩) ?_
    rintro s72 _ x74 h hx73
    unfold mewslaw43.far.body0 at h
    refine aw_seq ?_
    refine aw_region ?_
    refine ap (.bool (decide (s72.t8 < (l.length : Int)))) rfl rfl rfl (pu_int (v := .bool (decide (s72.t8 < (l.length : Int)))) rfl rfl (AEv.tmp rfl) (AEv.tmp rfl) rfl) ?_
    refine aops_nil ?_
    refine aw_seq ?_
    refine aw_cond (b := decide (s72.t8 < (l.length : Int))) (AEv.tmp rfl) (fun hb79 => ?_) (fun hb79 => ?_)
    · replace h := ite_t (dec_t hb79) h
      refine aw_skip ?_
      refine aw_seq ?_
      refine aw_block ?_
      refine aw_seq ?_
      refine aw_region ?_
      obtain ⟨c76, h⟩ := need_of h
      refine ap (.vptr [.int .i64 (ix l s72.t8).Kind, .str (ix l s72.t8).S, .int .i64 (ix l s72.t8).N, .int .i64 (ix l s72.t8).M]) rfl rfl rfl (pu_indexAddrM rfl underlying50 sizeOf59 (AEv.tmp rfl) (AEv.tmp rfl) c76 rfl) ?_
      refine ac rfl rfl rfl (op_loadVN rfl isAgg59 sizeOf59 (AEv.tmp rfl) (Nat.le_of_ble_eq_true rfl) rfl ?_)
      refine ac rfl rfl rfl (op_alloc (cs := [.int .i64 0, .str ([] : List UInt8), .int .i64 0, .int .i64 0]) (v := .agg [.int .i64 0, .str ([] : List UInt8), .int .i64 0, .int .i64 0]) rfl zeroValue59 rfl rfl rfl ?_)
      intro p77
      refine ac0 rfl rfl (op_store (i := 0) (cs' := (mewslaw43.Op.ct (ix l s72.t8))) rfl sizeOf59 (AEv.tmp rfl) (v := .agg (mewslaw43.Op.ct (ix l s72.t8))) (AEv.tmp rfl) rfl rfl rfl (Nat.le_of_ble_eq_true rfl) rfl ?_)
      refine aops_nil ?_
      refine aw_seq ?_
      refine aw_region ?_
      refine ap (.int .i64 s72.n) rfl rfl rfl (pu_move rfl (AEv.tmp rfl)) ?_
      refine ap (.ptr p77 1) rfl rfl rfl (pu_fieldAddr rfl underlying59 rfl sizeOf9 (by decide) (AEv.tmp rfl) rfl) ?_
      refine ac rfl rfl rfl (op_load1 (i := 0) rfl isAgg9 (AEv.tmp rfl) rfl rfl ?_)
      refine ap (.int .i64 ((ix l s72.t8).S.length : Int)) rfl rfl rfl (pu_strLen rfl underlying9 (AEv.tmp rfl)) ?_
      refine ap (.int .i64 (if 10000 < ((ix l s72.t8).S.length : Int) then 10000 else ((ix l s72.t8).S.length : Int))) rfl rfl rfl (pu_min2 rfl (AEv.tmp rfl) (AEv.int _ _)) ?_
      refine ap (.int .i64 (IntKind.wrap .i64 (1 + (if 10000 < ((ix l s72.t8).S.length : Int) then 10000 else ((ix l s72.t8).S.length : Int))))) rfl rfl rfl (pu_int (v := .int .i64 (IntKind.wrap .i64 (1 + (if 10000 < ((ix l s72.t8).S.length : Int) then 10000 else ((ix l s72.t8).S.length : Int))))) rfl rfl (AEv.int _ _) (AEv.tmp rfl) rfl) ?_
      refine ap (.int .i64 (IntKind.wrap .i64 (s72.n + (IntKind.wrap .i64 (1 + (if 10000 < ((ix l s72.t8).S.length : Int) then 10000 else ((ix l s72.t8).S.length : Int))))))) rfl rfl rfl (pu_int (v := .int .i64 (IntKind.wrap .i64 (s72.n + (IntKind.wrap .i64 (1 + (if 10000 < ((ix l s72.t8).S.length : Int) then 10000 else ((ix l s72.t8).S.length : Int))))))) rfl rfl (AEv.tmp rfl) (AEv.tmp rfl) rfl) ?_
      refine ap (.int .i64 (IntKind.wrap .i64 (s72.n + (IntKind.wrap .i64 (1 + (if 10000 < ((ix l s72.t8).S.length : Int) then 10000 else ((ix l s72.t8).S.length : Int))))))) rfl rfl rfl (pu_assign rfl (AEv.tmp rfl)) ?_
      refine aops_nil ?_
      refine aw_seq ?_
      refine aw_region ?_
      refine ap (.int .i64 (IntKind.wrap .i64 (s72.n + (IntKind.wrap .i64 (1 + (if 10000 < ((ix l s72.t8).S.length : Int) then 10000 else ((ix l s72.t8).S.length : Int))))))) rfl rfl rfl (pu_move rfl (AEv.tmp rfl)) ?_
      refine ap (.bool (decide (3000 < (IntKind.wrap .i64 (s72.n + (IntKind.wrap .i64 (1 + (if 10000 < ((ix l s72.t8).S.length : Int) then 10000 else ((ix l s72.t8).S.length : Int))))))))) rfl rfl rfl (pu_int (v := .bool (decide (3000 < (IntKind.wrap .i64 (s72.n + (IntKind.wrap .i64 (1 + (if 10000 < ((ix l s72.t8).S.length : Int) then 10000 else ((ix l s72.t8).S.length : Int))))))))) rfl rfl (AEv.tmp rfl) (AEv.int _ _) rfl) ?_
      refine aops_nil ?_
      refine aw_cond (b := decide (3000 < (IntKind.wrap .i64 (s72.n + (IntKind.wrap .i64 (1 + (if 10000 < ((ix l s72.t8).S.length : Int) then 10000 else ((ix l s72.t8).S.length : Int)))))))) (AEv.tmp rfl) (fun hb78 => ?_) (fun hb78 => ?_)
      · replace h := ite_t (dec_t hb78) h
        refine aw_seq ?_
        refine aw_region ?_
        refine ap (.bool true) rfl rfl rfl (pu_assign rfl (AEv.bool _)) ?_
        refine aops_nil ?_
        refine aw_ret ?_
        obtain rfl := some_of h
        have h := congrArg some (hx73 _ rfl)
        obtain rfl := some_of h
        have h := onSum_inr h60
        obtain rfl := some_of h
        exact ⟨[.bool true], _, [], ⟨(AEv.tmp rfl), trivial⟩, (AV.Le.refl _), Weak.mkL [] (by decide) trivial trivial, ⟨rfl, rfl⟩⟩
      · replace h := ite_f (dec_f hb78) h
        refine aw_skip ?_
        refine aw_region ?_
        refine ap (.int .i64 (IntKind.wrap .i64 (s72.t8 + 1))) rfl rfl rfl (pu_int (v := .int .i64 (IntKind.wrap .i64 (s72.t8 + 1))) rfl rfl (AEv.tmp rfl) (AEv.int _ _) rfl) ?_
        refine ap (.int .i64 (IntKind.wrap .i64 (s72.t8 + 1))) rfl rfl rfl (pu_move rfl (AEv.tmp rfl)) ?_
        refine aops_nil ?_
        obtain rfl := some_of h
        exact ⟨_, (), rfl, Weak.mkL [] (by decide) trivial ⟨(AEv.le (AEv.tmp rfl) (AV.Le.refl _)), AEv.tmp rfl, AEv.tmp rfl, (AEv.le (AEv.tmp rfl) (AV.Le.refl _)), trivial⟩⟩
    · replace h := ite_f (dec_f hb79) h
      refine aw_exit ?_
      obtain rfl := some_of h
      have h := congrArg some (hx73 _ rfl)
      exact ⟨(), (), (some_of h).symm, Weak.mkL [] (by decide) trivial trivial⟩

theorem conn.Open.ok {now : Int} {r : api.Conn} (h : conn.Open now = some r) : Go.Lift.Spec prog 26 [.int .i64 now] [] (fun v H => v = .agg [.int .i64 r.Born, .int .i64 r.Tenant, .str r.In.Rest, .sl .full 1 (r.In.Args.map AV.str), .int .i64 r.In.Left, .int .i64 r.In.Size, .bool r.In.Body, .int .i64 r.In.Need, .int .i64 r.In.Dead, .int .i64 r.Asked, .sl .full 2 (r.Held.map api.Held.av), .str r.Out, .int .i64 r.Taken, .bool r.Shut, .bool r.Closed] ∧ H = []) := by
  unfold conn.Open at h
  refine Go.Lift.Spec.of_body (rs := [.cell 2 56]) func26 rfl rfl (Nat.le_of_ble_eq_true rfl) rfl ?_
  refine aw_seq ?_
  refine aw_region ?_
  refine ac rfl rfl rfl (op_alloc (cs := [.int .i64 0, .int .i64 0, .str ([] : List UInt8), .sl .full 1 (([] : List (List UInt8)).map AV.str), .int .i64 0, .int .i64 0, .bool false, .int .i64 0, .int .i64 0, .int .i64 0, .sl .full 2 (([] : List api.Held).map api.Held.av), .str ([] : List UInt8), .int .i64 0, .bool false, .bool false]) (v := .agg [.int .i64 0, .int .i64 0, .str ([] : List UInt8), .sl .full 1 (([] : List (List UInt8)).map AV.str), .int .i64 0, .int .i64 0, .bool false, .int .i64 0, .int .i64 0, .int .i64 0, .sl .full 2 (([] : List api.Held).map api.Held.av), .str ([] : List UInt8), .int .i64 0, .bool false, .bool false]) rfl zeroValue56 rfl rfl rfl ?_)
  intro p2
  refine aops_nil ?_
  refine aw_seq ?_
  refine aw_region ?_
  refine ap (.int .i64 now) rfl rfl rfl (pu_move rfl (AEv.tmp rfl)) ?_
  refine ap (.agg [.int .i64 now, .int .i64 (-1), .str ([] : List UInt8), .sl .full 1 (([] : List (List UInt8)).map AV.str), .int .i64 0, .int .i64 0, .bool false, .int .i64 0, .int .i64 0, .int .i64 0, .sl .full 2 (([] : List api.Held).map api.Held.av), .str ([] : List UInt8), .int .i64 0, .bool false, .bool false]) rfl rfl rfl (pu_build (zs := [.int .i64 0, .int .i64 0, .str ([] : List UInt8), .sl .full 1 (([] : List (List UInt8)).map AV.str), .int .i64 0, .int .i64 0, .bool false, .int .i64 0, .int .i64 0, .int .i64 0, .sl .full 2 (([] : List api.Held).map api.Held.av), .str ([] : List UInt8), .int .i64 0, .bool false, .bool false]) (szs := [1, 1, 7, 1, 1, 1, 1, 1, 1]) (aparts := [(0, .int .i64 now), (1, .int .i64 (-1))]) (cs := [.int .i64 now, .int .i64 (-1), .str ([] : List UInt8), .sl .full 1 (([] : List (List UInt8)).map AV.str), .int .i64 0, .int .i64 0, .bool false, .int .i64 0, .int .i64 0, .int .i64 0, .sl .full 2 (([] : List api.Held).map api.Held.av), .str ([] : List UInt8), .int .i64 0, .bool false, .bool false]) rfl underlying56 zeroValue56 rfl ⟨sizeOf2, sizeOf3, sizeOf29, sizeOf3, sizeOf54, sizeOf9, sizeOf3, sizeOf4, sizeOf4, trivial⟩ ⟨rfl, (AEv.tmp rfl), ⟨rfl, (AEv.int _ _), trivial⟩⟩ rfl) ?_
  refine ac0 rfl rfl (op_store (i := 0) (cs' := [.int .i64 now, .int .i64 (-1), .str ([] : List UInt8), .sl .full 1 (([] : List (List UInt8)).map AV.str), .int .i64 0, .int .i64 0, .bool false, .int .i64 0, .int .i64 0, .int .i64 0, .sl .full 2 (([] : List api.Held).map api.Held.av), .str ([] : List UInt8), .int .i64 0, .bool false, .bool false]) rfl sizeOf56 (AEv.tmp rfl) (v := .agg [.int .i64 now, .int .i64 (-1), .str ([] : List UInt8), .sl .full 1 (([] : List (List UInt8)).map AV.str), .int .i64 0, .int .i64 0, .bool false, .int .i64 0, .int .i64 0, .int .i64 0, .sl .full 2 (([] : List api.Held).map api.Held.av), .str ([] : List UInt8), .int .i64 0, .bool false, .bool false]) (AEv.tmp rfl) rfl rfl rfl (Nat.le_of_ble_eq_true rfl) rfl ?_)
  refine aops_nil ?_
  refine aw_ret ?_
  obtain rfl := some_of h
  exact ⟨[.agg [.int .i64 now, .int .i64 (-1), .str ([] : List UInt8), .sl .full 1 (([] : List (List UInt8)).map AV.str), .int .i64 0, .int .i64 0, .bool false, .int .i64 0, .int .i64 0, .int .i64 0, .sl .full 2 (([] : List api.Held).map api.Held.av), .str ([] : List UInt8), .int .i64 0, .bool false, .bool false]], _, [], ⟨(CellOk.agg 0 (AEv.tmp rfl) rfl isAgg56 sizeOf56 (Nat.le_of_ble_eq_true rfl) rfl), trivial⟩, (AV.Le.refl _), Weak.mkL [] (by decide) trivial trivial, ⟨rfl, rfl⟩⟩

theorem slices.Clone_api_Held.ok {s : List api.Held} {r : List api.Held} (h : slices.Clone_api_Held s = some r) : Go.Lift.Spec prog 61 [.sl .no 2 (s.map api.Held.av)] [] (fun v H => ∃ n0, v = .sl (.own n0) 2 (r.map api.Held.av) ∧ H = [(n0, .spare)]) := by
  unfold slices.Clone_api_Held at h
  obtain ⟨c, h⟩ := need_of h
  obtain rfl := some_of h
  refine Go.Lift.Spec.of_body (rs := [.tmp 2]) func61 rfl rfl (Nat.le_of_ble_eq_true rfl) rfl ?_
  refine aw_seq ?_
  refine aw_region ?_
  refine ap (.sl .full 2 (([] : List api.Held).map api.Held.av)) rfl rfl rfl (pu_assign rfl (AEv.nil 2 (by decide))) ?_
  refine aops_nil ?_
  refine aw_seq ?_
  refine aw_seq ?_
  refine aw_region ?_
  refine ap (.sl .no 2 (s.map api.Held.av)) rfl rfl rfl (pu_move rfl (AEv.tmp rfl)) ?_
  refine ac rfl rfl rfl (op_nilSlice rfl underlying54 (AEv.tmp rfl) fun b hb => ?_)
  refine aops_nil ?_
  refine aw_cond (b := b) (AEv.tmp rfl) (fun hb2 => ?_) (fun hb2 => ?_)
  · have hs : s = [] := List.map_eq_nil_iff.1 (hb hb2)
    subst hs
    refine aw_seq ?_
    refine aw_region ?_
    refine ap (.sl .full 2 (([] : List api.Held).map api.Held.av)) rfl rfl rfl (pu_assign rfl (AEv.nil 2 (by decide))) ?_
    refine aops_nil ?_
    refine aw_claim 2 (AEv.tmp rfl) fun t => ?_
    refine aw_ret ?_
    exact ⟨[.sl (.own t) 2 (([] : List api.Held).map api.Held.av)], _, [(t, .spare)], ⟨AEv.tmp rfl, trivial⟩, AV.Le.refl _, Weak.mkL [0] (by decide) ⟨⟨_, rfl, rfl⟩, trivial⟩ trivial, ⟨t, rfl, rfl⟩⟩
  · refine aw_skip ?_
    refine aw_seq ?_
    refine aw_region ?_
    refine ac rfl rfl rfl (op_buildSlice (xs := ([] : List api.Held).map api.Held.av) (aparts := []) rfl underlying54 sizeOf61 zeroValue61 (by decide) (by decide) trivial rfl rfl rfl ?_)
    refine ap (.sl .no 2 (s.map api.Held.av)) rfl rfl rfl (pu_move rfl (AEv.tmp rfl)) ?_
    refine ac rfl rfl rfl (op_appendFM rfl underlying54 underlying54 (.inl rfl) typeInfo61 rfl rfl rfl (by decide) (AEv.tmp rfl) (given_sl (AEv.tmp rfl)) c ?_)
    intro t
    refine ap (.sl (.own t) 2 (([] ++ s).map api.Held.av)) rfl rfl rfl (pu_assign rfl (AEv.tmp rfl)) ?_
    refine aops_nil ?_
    refine aw_ret ?_
    exact ⟨[.sl (.own t) 2 (([] ++ s).map api.Held.av)], _, [(t, .spare)], ⟨AEv.tmp rfl, trivial⟩, AV.Le.refl _, Weak.mkL [0] (by decide) ⟨⟨_, rfl, rfl⟩, trivial⟩ trivial, ⟨t, rfl, rfl⟩⟩

theorem conn.Free.ok {c_ : api.Conn} {durable : Int} {r : api.Conn} (h : conn.Free c_ durable = some r) : Go.Lift.Spec prog 28 [.agg (api.Conn.ct .no .no c_), .int .i64 durable] [] (fun v H => ∃ n0, v = .agg [.int .i64 r.Born, .int .i64 r.Tenant, .str r.In.Rest, .sl .no 1 (r.In.Args.map AV.str), .int .i64 r.In.Left, .int .i64 r.In.Size, .bool r.In.Body, .int .i64 r.In.Need, .int .i64 r.In.Dead, .int .i64 r.Asked, .sl (.own n0) 2 (r.Held.map api.Held.av), .str r.Out, .int .i64 r.Taken, .bool r.Shut, .bool r.Closed] ∧ H = [(n0, .spare)]) := by
  unfold conn.Free at h
  refine Go.Lift.Spec.of_body (rs := [.cell 4 56]) func28 rfl rfl (Nat.le_of_ble_eq_true rfl) rfl ?_
  refine aw_seq ?_
  refine aw_region ?_
  refine ac rfl rfl rfl (op_box (cs := (api.Conn.ct .no .no c_)) (v := .agg (api.Conn.ct .no .no c_)) rfl (AEv.tmp rfl) rfl rfl ?_)
  intro p60
  refine ac rfl rfl rfl (op_alloc (cs := [.int .i64 0, .int .i64 0, .str ([] : List UInt8), .sl .full 1 (([] : List (List UInt8)).map AV.str), .int .i64 0, .int .i64 0, .bool false, .int .i64 0, .int .i64 0, .int .i64 0, .sl .full 2 (([] : List api.Held).map api.Held.av), .str ([] : List UInt8), .int .i64 0, .bool false, .bool false]) (v := .agg [.int .i64 0, .int .i64 0, .str ([] : List UInt8), .sl .full 1 (([] : List (List UInt8)).map AV.str), .int .i64 0, .int .i64 0, .bool false, .int .i64 0, .int .i64 0, .int .i64 0, .sl .full 2 (([] : List api.Held).map api.Held.av), .str ([] : List UInt8), .int .i64 0, .bool false, .bool false]) rfl zeroValue56 rfl rfl rfl ?_)
  intro p61
  refine aops_nil ?_
  refine aw_scope ?_
  refine aw_seq ?_
  refine aw_region ?_
  refine ap (.int .i64 0) rfl rfl rfl (pu_assign rfl (AEv.int _ _)) ?_
  refine aops_nil ?_
  refine aw_seq ?_
  refine aw_label ?_
  obtain ⟨s83, s83e, h84⟩ := bind_some h
  refine aw_meet (ν := Unit) (fun v => [(2, .ptr p60 0), (4, .ptr p61 0), (5, .int .i64 s83.1)]) (fun v => [(p60, .cells (api.Conn.ct .no .no { c_ with Out := s83.2 })), (p61, .cells [.int .i64 0, .int .i64 0, .str ([] : List UInt8), .sl .full 1 (([] : List (List UInt8)).map AV.str), .int .i64 0, .int .i64 0, .bool false, .int .i64 0, .int .i64 0, .int .i64 0, .sl .full 2 (([] : List api.Held).map api.Held.av), .str ([] : List UInt8), .int .i64 0, .bool false, .bool false])]) ?_ ?_
  · have h := s83e
    refine aw_seq ?_
    refine aw_region ?_
    refine ap (.ptr p60 10) rfl rfl rfl (pu_fieldAddr rfl underlying56 rfl sizeOf54 (by decide) (AEv.tmp rfl) rfl) ?_
    refine ac rfl rfl rfl (op_load1 (i := 1) rfl isAgg54 (AEv.tmp rfl) rfl rfl ?_)
    refine ap (.int .i64 (c_.Held.length : Int)) rfl rfl rfl (pu_lenM rfl underlying54 (AEv.tmp rfl)) ?_
    refine ap (.int .i64 0) rfl rfl rfl (pu_move rfl (AEv.int _ _)) ?_
    refine aops_nil ?_
    refine aw_block ?_
    refine aw_while (σ := conn.Free.S0) (ν := Unit) (conn.Free.body0 c_ durable) (fun s98 v => [(1, .int .i64 durable), (2, .ptr p60 0), (4, .ptr p61 0), (5, .int .i64 s98.n), (9, .sl .no 2 (c_.Held.map api.Held.av)), (10, .int .i64 (c_.Held.length : Int)), (11, .int .i64 s98.n)]) (fun s98 v => [(p60, .cells (api.Conn.ct .no .no { c_ with Out := s98.c })), (p61, .cells [.int .i64 0, .int .i64 0, .str ([] : List UInt8), .sl .full 1 (([] : List (List UInt8)).map AV.str), .int .i64 0, .int .i64 0, .bool false, .int .i64 0, .int .i64 0, .int .i64 0, .sl .full 2 (([] : List api.Held).map api.Held.av), .str ([] : List UInt8), .int .i64 0, .bool false, .bool false])]) ⟨0, c_.Out⟩ () _ h (Weak.mkL [1, 0] (by decide) ⟨⟨_, rfl, (CellsLe.refl _), rfl⟩, ⟨_, rfl, (CellsLe.refl _), rfl⟩, trivial⟩ ⟨AEv.tmp rfl, AEv.tmp rfl, AEv.tmp rfl, AEv.tmp rfl, AEv.tmp rfl, AEv.tmp rfl, AEv.tmp rfl, trivial⟩) ?_
    rintro s98 _ x100 h hx99
    unfold conn.Free.body0 at h
    refine aw_seq ?_
    refine aw_region ?_
    refine ap (.bool (decide (s98.n < (c_.Held.length : Int)))) rfl rfl rfl (pu_int (v := .bool (decide (s98.n < (c_.Held.length : Int)))) rfl rfl (AEv.tmp rfl) (AEv.tmp rfl) rfl) ?_
    refine aops_nil ?_
    refine aw_seq ?_
    refine aw_cond (b := decide (s98.n < (c_.Held.length : Int))) (AEv.tmp rfl) (fun hb106 => ?_) (fun hb106 => ?_)
    · replace h := ite_t (dec_t hb106) h
      refine aw_skip ?_
      refine aw_seq ?_
      refine aw_block ?_
      refine aw_seq ?_
      refine aw_region ?_
      obtain ⟨c102, h⟩ := need_of h
      refine ap (.vptr [.int .i64 (ix c_.Held s98.n).Need, .str (ix c_.Held s98.n).S]) rfl rfl rfl (pu_indexAddrM rfl underlying54 sizeOf61 (AEv.tmp rfl) (AEv.tmp rfl) c102 rfl) ?_
      refine ac rfl rfl rfl (op_loadVN rfl isAgg61 sizeOf61 (AEv.tmp rfl) (Nat.le_of_ble_eq_true rfl) rfl ?_)
      refine ac rfl rfl rfl (op_alloc (cs := [.int .i64 0, .str ([] : List UInt8)]) (v := .agg [.int .i64 0, .str ([] : List UInt8)]) rfl zeroValue61 rfl rfl rfl ?_)
      intro p103
      refine ac0 rfl rfl (op_store (i := 0) (cs' := [.int .i64 (ix c_.Held s98.n).Need, .str (ix c_.Held s98.n).S]) rfl sizeOf61 (AEv.tmp rfl) (v := .agg [.int .i64 (ix c_.Held s98.n).Need, .str (ix c_.Held s98.n).S]) (AEv.tmp rfl) rfl rfl rfl (Nat.le_of_ble_eq_true rfl) rfl ?_)
      refine aops_nil ?_
      refine aw_block ?_
      refine aw_seq ?_
      refine aw_region ?_
      refine ap (.ptr p103 0) rfl rfl rfl (pu_fieldAddr rfl underlying61 rfl sizeOf3 (by decide) (AEv.tmp rfl) rfl) ?_
      refine ac rfl rfl rfl (op_load1 (i := 0) rfl isAgg3 (AEv.tmp rfl) rfl rfl ?_)
      refine ap (.int .i64 durable) rfl rfl rfl (pu_move rfl (AEv.tmp rfl)) ?_
      refine ap (.bool (decide (durable < (ix c_.Held s98.n).Need))) rfl rfl rfl (pu_int (v := .bool (decide (durable < (ix c_.Held s98.n).Need))) rfl rfl (AEv.tmp rfl) (AEv.tmp rfl) rfl) ?_
      refine ap (.bool (decide (durable < (ix c_.Held s98.n).Need))) rfl rfl rfl (pu_assign rfl (AEv.tmp rfl)) ?_
      refine aops_nil ?_
      refine aw_cond (b := decide (durable < (ix c_.Held s98.n).Need)) (AEv.tmp rfl) (fun hb105 => ?_) (fun hb105 => ?_)
      · replace h := ite_t (dec_t hb105) h
        refine aw_exit ?_
        obtain rfl := some_of h
        have h := congrArg some (hx99 _ rfl)
        obtain rfl := some_of h
        exact ⟨(), Weak.mkL [1, 2] (by decide) ⟨⟨_, rfl, (CellsLe.refl _), rfl⟩, ⟨_, rfl, (CellsLe.refl _), rfl⟩, trivial⟩ ⟨AEv.tmp rfl, AEv.tmp rfl, AEv.tmp rfl, trivial⟩⟩
      · replace h := ite_f (dec_f hb105) h
        refine aw_seq ?_
        refine aw_region ?_
        refine ap (.ptr p60 11) rfl rfl rfl (pu_fieldAddr rfl underlying56 rfl sizeOf9 (by decide) (AEv.tmp rfl) rfl) ?_
        refine ac rfl rfl rfl (op_load1 (i := 1) rfl isAgg9 (AEv.tmp rfl) rfl rfl ?_)
        refine ap (.ptr p103 1) rfl rfl rfl (pu_fieldAddr rfl underlying61 rfl sizeOf9 (by decide) (AEv.tmp rfl) rfl) ?_
        refine ac rfl rfl rfl (op_load1 (i := 0) rfl isAgg9 (AEv.tmp rfl) rfl rfl ?_)
        obtain ⟨c104, h⟩ := need_of h
        refine ap (.str (s98.c ++ (ix c_.Held s98.n).S)) rfl rfl rfl (pu_strAdd rfl (AEv.tmp rfl) (AEv.tmp rfl) c104) ?_
        refine ap (.ptr p60 11) rfl rfl rfl (pu_fieldAddr rfl underlying56 rfl sizeOf9 (by decide) (AEv.tmp rfl) rfl) ?_
        refine ac0 rfl rfl (op_store (i := 1) (cs' := (api.Conn.ct .no .no { c_ with Out := s98.c ++ (ix c_.Held s98.n).S })) rfl sizeOf9 (AEv.tmp rfl) (v := .str (s98.c ++ (ix c_.Held s98.n).S)) (AEv.tmp rfl) rfl rfl rfl (Nat.le_of_ble_eq_true rfl) rfl ?_)
        refine aops_nil ?_
        refine aw_region ?_
        refine ap (.int .i64 s98.n) rfl rfl rfl (pu_move rfl (AEv.tmp rfl)) ?_
        refine ap (.int .i64 (IntKind.wrap .i64 (s98.n + 1))) rfl rfl rfl (pu_int (v := .int .i64 (IntKind.wrap .i64 (s98.n + 1))) rfl rfl (AEv.tmp rfl) (AEv.int _ _) rfl) ?_
        refine ap (.int .i64 (IntKind.wrap .i64 (s98.n + 1))) rfl rfl rfl (pu_assign rfl (AEv.tmp rfl)) ?_
        refine aops_nil ?_
        refine aw_region ?_
        refine ap (.int .i64 (IntKind.wrap .i64 (s98.n + 1))) rfl rfl rfl (pu_int (v := .int .i64 (IntKind.wrap .i64 (s98.n + 1))) rfl rfl (AEv.tmp rfl) (AEv.int _ _) rfl) ?_
        refine ap (.int .i64 (IntKind.wrap .i64 (s98.n + 1))) rfl rfl rfl (pu_move rfl (AEv.tmp rfl)) ?_
        refine aops_nil ?_
        obtain rfl := some_of h
        exact ⟨_, (), rfl, Weak.mkL [1, 2] (by decide) ⟨⟨_, rfl, ⟨(AV.Le.refl _), (AV.Le.refl _), (AV.Le.refl _), (AV.Le.refl _), (AV.Le.refl _), (AV.Le.refl _), (AV.Le.refl _), (AV.Le.refl _), (AV.Le.refl _), (AV.Le.refl _), (AV.Le.refl _), (AV.Le.refl _), (AV.Le.refl _), (AV.Le.refl _), (AV.Le.refl _), trivial⟩, rfl⟩, ⟨_, rfl, (CellsLe.refl _), rfl⟩, trivial⟩ ⟨AEv.tmp rfl, AEv.tmp rfl, AEv.tmp rfl, (AEv.le (AEv.tmp rfl) (AV.Le.refl _)), AEv.tmp rfl, AEv.tmp rfl, (AEv.le (AEv.tmp rfl) (AV.Le.refl _)), trivial⟩⟩
    · replace h := ite_f (dec_f hb106) h
      refine aw_exit ?_
      obtain rfl := some_of h
      have h := congrArg some (hx99 _ rfl)
      obtain rfl := some_of h
      exact ⟨(), Weak.mkL [0, 1] (by decide) ⟨⟨_, rfl, (CellsLe.refl _), rfl⟩, ⟨_, rfl, (CellsLe.refl _), rfl⟩, trivial⟩ ⟨AEv.tmp rfl, AEv.tmp rfl, AEv.tmp rfl, trivial⟩⟩
  · intro _
    have h := h84
    refine aw_seq ?_
    refine aw_region ?_
    refine ap (.ptr p60 10) rfl rfl rfl (pu_fieldAddr rfl underlying56 rfl sizeOf54 (by decide) (AEv.tmp rfl) rfl) ?_
    refine ac rfl rfl rfl (op_load1 (i := 0) rfl isAgg54 (AEv.tmp rfl) rfl rfl ?_)
    refine ap (.int .i64 s83.1) rfl rfl rfl (pu_move rfl (AEv.tmp rfl)) ?_
    obtain ⟨c107, h⟩ := need_of h
    refine ap (.sl .no 2 ((sub c_.Held s83.1 (c_.Held.length : Int)).map api.Held.av)) rfl rfl rfl (pu_sliceM rfl underlying54 sizeOf61 (AEv.tmp rfl) ⟨_, (AEv.tmp rfl)⟩ rfl c107) ?_
    obtain ⟨r108, r108e, h⟩ := bind_some h
    refine ac rfl rfl rfl (op_call (vs := [.sl .no 2 ((sub c_.Held s83.1 (c_.Held.length : Int)).map api.Held.av)]) (H := []) rfl call61 ⟨(AEv.tmp rfl), trivial⟩ (List.Perm.refl _) (slices.Clone_api_Held.ok r108e) ?_)
    rintro _ _ ⟨t109, rfl, rfl⟩
    refine ap (.ptr p60 10) rfl rfl rfl (pu_fieldAddr rfl underlying56 rfl sizeOf54 (by decide) (AEv.tmp rfl) rfl) ?_
    refine ac0 rfl rfl (op_store (i := 1) (cs' := (api.Conn.ct .no (.own t109) { c_ with Held := r108, Out := s83.2 })) rfl sizeOf54 (AEv.tmp rfl) (v := .sl (.own t109) 2 (r108.map api.Held.av)) (AEv.tmp rfl) rfl rfl rfl (Nat.le_of_ble_eq_true rfl) rfl ?_)
    refine aops_nil ?_
    obtain ⟨s113, s113e, h114⟩ := letO_of h
    refine aw_meet (ν := Unit) (fun v => [(2, .ptr p60 0), (4, .ptr p61 0)]) (fun v => [(p60, .cells (api.Conn.ct .no (.own t109) { c_ with Held := r108, Out := s83.2, Closed := s113 })), (p61, .cells [.int .i64 0, .int .i64 0, .str ([] : List UInt8), .sl .full 1 (([] : List (List UInt8)).map AV.str), .int .i64 0, .int .i64 0, .bool false, .int .i64 0, .int .i64 0, .int .i64 0, .sl .full 2 (([] : List api.Held).map api.Held.av), .str ([] : List UInt8), .int .i64 0, .bool false, .bool false]), (t109, .spare)]) ?_ ?_
    · have h := s113e.symm
      refine aw_region ?_
      refine ap (.ptr p60 14) rfl rfl rfl (pu_fieldAddr rfl underlying56 rfl sizeOf4 (by decide) (AEv.tmp rfl) rfl) ?_
      refine ac rfl rfl rfl (op_load1 (i := 1) rfl isAgg4 (AEv.tmp rfl) rfl rfl ?_)
      refine ap (.bool c_.Closed) rfl rfl rfl (pu_move rfl (AEv.tmp rfl)) ?_
      rcases Bool.eq_false_or_eq_true c_.Closed with hb116 | hb116
      · replace h := ite_t hb116 h
        refine aops_known 37 rfl hb116 ?_
        refine an rfl rfl rfl rfl rfl rfl rfl rfl ?_
        refine an rfl rfl rfl rfl rfl rfl rfl rfl ?_
        refine an rfl rfl rfl rfl rfl rfl rfl rfl ?_
        refine an2 rfl rfl rfl rfl rfl rfl rfl ?_
        refine an2 rfl rfl rfl rfl rfl rfl rfl ?_
        refine an2 rfl rfl rfl rfl rfl rfl rfl ?_
        refine an rfl rfl rfl rfl rfl rfl rfl rfl ?_
        refine an rfl rfl rfl rfl rfl rfl rfl rfl ?_
        refine an2 rfl rfl rfl rfl rfl rfl rfl ?_
        refine an2 rfl rfl rfl rfl rfl rfl rfl ?_
        refine an2 rfl rfl rfl rfl rfl rfl rfl ?_
        refine an2 rfl rfl rfl rfl rfl rfl rfl ?_
        refine an rfl rfl rfl rfl rfl rfl rfl rfl ?_
        refine ap (.bool true) rfl rfl rfl (pu_pick (b := true) rfl (AEv.tmp rfl) (fun _ => (AEv.bool _)) (fun h => nomatch h)) ?_
        refine ap (.ptr p60 14) rfl rfl rfl (pu_fieldAddr rfl underlying56 rfl sizeOf4 (by decide) (AEv.tmp rfl) rfl) ?_
        refine ac0 rfl rfl (op_store (i := 1) (cs' := (api.Conn.ct .no (.own t109) { c_ with Held := r108, Out := s83.2, Closed := true })) rfl sizeOf4 (AEv.tmp rfl) (v := .bool true) (AEv.tmp rfl) rfl rfl rfl (Nat.le_of_ble_eq_true rfl) rfl ?_)
        refine aops_nil ?_
        subst h
        exact ⟨(), Weak.mkL [1, 2, 0] (by decide) ⟨⟨_, rfl, (CellsLe.refl _), rfl⟩, ⟨_, rfl, (CellsLe.refl _), rfl⟩, ⟨_, rfl, rfl⟩, trivial⟩ ⟨AEv.tmp rfl, AEv.tmp rfl, trivial⟩⟩
      · replace h := ite_fb hb116 h
        refine aops_known 37 rfl hb116 ?_
        refine agp (.ptr p60 13) rfl rfl rfl rfl rfl rfl rfl (pu_fieldAddr rfl underlying56 rfl sizeOf4 (by decide) (AEv.tmp rfl) rfl) ?_
        refine ag rfl rfl rfl rfl rfl rfl rfl (op_load1 (i := 1) rfl isAgg4 (AEv.tmp rfl) rfl rfl ?_)
        refine agp (.bool c_.Shut) rfl rfl rfl rfl rfl rfl rfl (pu_move rfl (AEv.tmp rfl)) ?_
        rcases Bool.eq_false_or_eq_true c_.Shut with hb117 | hb117
        · replace h := ite_t hb117 h
          refine aops_known 40 rfl hb117 ?_
          refine agp (.ptr p60 9) rfl rfl rfl rfl rfl rfl rfl (pu_fieldAddr rfl underlying56 rfl sizeOf3 (by decide) (AEv.tmp rfl) rfl) ?_
          refine ag rfl rfl rfl rfl rfl rfl rfl (op_load1 (i := 1) rfl isAgg3 (AEv.tmp rfl) rfl rfl ?_)
          refine agp (.bool (decide (c_.Asked = 0))) rfl rfl rfl rfl rfl rfl rfl (pu_int (v := .bool (decide (c_.Asked = 0))) rfl rfl (AEv.tmp rfl) (AEv.int _ _) rfl) ?_
          refine agp (.bool (decide (c_.Asked = 0))) rfl rfl rfl rfl rfl rfl rfl (pu_pick (b := true) rfl (AEv.tmp rfl) (fun _ => (AEv.tmp rfl)) (fun h => nomatch h)) ?_
          refine agp (.bool (decide (c_.Asked = 0))) rfl rfl rfl rfl rfl rfl rfl (pu_move rfl (AEv.tmp rfl)) ?_
          rcases Bool.eq_false_or_eq_true (decide (c_.Asked = 0)) with hb118 | hb118
          · replace h := ite_t (dec_t hb118) h
            refine aops_known 45 rfl hb118 ?_
            refine agp (.ptr p60 10) rfl rfl rfl rfl rfl rfl rfl (pu_fieldAddr rfl underlying56 rfl sizeOf54 (by decide) (AEv.tmp rfl) rfl) ?_
            refine ag rfl rfl rfl rfl rfl rfl rfl (op_load1 (i := 1) rfl isAgg54 (AEv.tmp rfl) rfl rfl ?_)
            refine agp (.int .i64 (r108.length : Int)) rfl rfl rfl rfl rfl rfl rfl (pu_lenM rfl underlying54 (AEv.tmp rfl)) ?_
            refine agp (.bool (decide ((r108.length : Int) = 0))) rfl rfl rfl rfl rfl rfl rfl (pu_int (v := .bool (decide ((r108.length : Int) = 0))) rfl rfl (AEv.tmp rfl) (AEv.int _ _) rfl) ?_
            refine agp (.bool (decide ((r108.length : Int) = 0))) rfl rfl rfl rfl rfl rfl rfl (pu_pick (b := true) rfl (AEv.tmp rfl) (fun _ => (AEv.tmp rfl)) (fun h => nomatch h)) ?_
            refine ap (.bool (decide ((r108.length : Int) = 0))) rfl rfl rfl (pu_pick (b := false) rfl (AEv.tmp rfl) (fun h => nomatch h) (fun _ => (AEv.tmp rfl))) ?_
            refine ap (.ptr p60 14) rfl rfl rfl (pu_fieldAddr rfl underlying56 rfl sizeOf4 (by decide) (AEv.tmp rfl) rfl) ?_
            refine ac0 rfl rfl (op_store (i := 1) (cs' := (api.Conn.ct .no (.own t109) { c_ with Held := r108, Out := s83.2, Closed := decide ((r108.length : Int) = 0) })) rfl sizeOf4 (AEv.tmp rfl) (v := .bool (decide ((r108.length : Int) = 0))) (AEv.tmp rfl) rfl rfl rfl (Nat.le_of_ble_eq_true rfl) rfl ?_)
            refine aops_nil ?_
            subst h
            exact ⟨(), Weak.mkL [1, 2, 0] (by decide) ⟨⟨_, rfl, ⟨(AV.Le.refl _), (AV.Le.refl _), (AV.Le.refl _), (AV.Le.refl _), (AV.Le.refl _), (AV.Le.refl _), (AV.Le.refl _), (AV.Le.refl _), (AV.Le.refl _), (AV.Le.refl _), (AV.Le.refl _), (AV.Le.refl _), (AV.Le.refl _), (AV.Le.refl _), (AV.Le.refl _), trivial⟩, rfl⟩, ⟨_, rfl, (CellsLe.refl _), rfl⟩, ⟨_, rfl, rfl⟩, trivial⟩ ⟨AEv.tmp rfl, AEv.tmp rfl, trivial⟩⟩
          · replace h := ite_f (dec_f hb118) h
            refine aops_known 45 rfl hb118 ?_
            refine an rfl rfl rfl rfl rfl rfl rfl rfl ?_
            refine an rfl rfl rfl rfl rfl rfl rfl rfl ?_
            refine an rfl rfl rfl rfl rfl rfl rfl rfl ?_
            refine an rfl rfl rfl rfl rfl rfl rfl rfl ?_
            refine agp (.bool false) rfl rfl rfl rfl rfl rfl rfl (pu_pick (b := false) rfl (AEv.tmp rfl) (fun h => nomatch h) (fun _ => (AEv.bool _))) ?_
            refine ap (.bool false) rfl rfl rfl (pu_pick (b := false) rfl (AEv.tmp rfl) (fun h => nomatch h) (fun _ => (AEv.tmp rfl))) ?_
            refine ap (.ptr p60 14) rfl rfl rfl (pu_fieldAddr rfl underlying56 rfl sizeOf4 (by decide) (AEv.tmp rfl) rfl) ?_
            refine ac0 rfl rfl (op_store (i := 1) (cs' := (api.Conn.ct .no (.own t109) { c_ with Held := r108, Out := s83.2, Closed := false })) rfl sizeOf4 (AEv.tmp rfl) (v := .bool false) (AEv.tmp rfl) rfl rfl rfl (Nat.le_of_ble_eq_true rfl) rfl ?_)
            refine aops_nil ?_
            subst h
            exact ⟨(), Weak.mkL [1, 2, 0] (by decide) ⟨⟨_, rfl, (CellsLe.refl _), rfl⟩, ⟨_, rfl, (CellsLe.refl _), rfl⟩, ⟨_, rfl, rfl⟩, trivial⟩ ⟨AEv.tmp rfl, AEv.tmp rfl, trivial⟩⟩
        · replace h := ite_fb hb117 h
          refine aops_known 40 rfl hb117 ?_
          refine an rfl rfl rfl rfl rfl rfl rfl rfl ?_
          refine an rfl rfl rfl rfl rfl rfl rfl rfl ?_
          refine an rfl rfl rfl rfl rfl rfl rfl rfl ?_
          refine agp (.bool false) rfl rfl rfl rfl rfl rfl rfl (pu_pick (b := false) rfl (AEv.tmp rfl) (fun h => nomatch h) (fun _ => (AEv.bool _))) ?_
          refine agp (.bool false) rfl rfl rfl rfl rfl rfl rfl (pu_move rfl (AEv.tmp rfl)) ?_
          refine an rfl rfl rfl rfl rfl rfl rfl rfl ?_
          refine an rfl rfl rfl rfl rfl rfl rfl rfl ?_
          refine an rfl rfl rfl rfl rfl rfl rfl rfl ?_
          refine an rfl rfl rfl rfl rfl rfl rfl rfl ?_
          refine agp (.bool false) rfl rfl rfl rfl rfl rfl rfl (pu_pick (b := false) rfl (AEv.tmp rfl) (fun h => nomatch h) (fun _ => (AEv.bool _))) ?_
          refine ap (.bool false) rfl rfl rfl (pu_pick (b := false) rfl (AEv.tmp rfl) (fun h => nomatch h) (fun _ => (AEv.tmp rfl))) ?_
          refine ap (.ptr p60 14) rfl rfl rfl (pu_fieldAddr rfl underlying56 rfl sizeOf4 (by decide) (AEv.tmp rfl) rfl) ?_
          refine ac0 rfl rfl (op_store (i := 1) (cs' := (api.Conn.ct .no (.own t109) { c_ with Held := r108, Out := s83.2, Closed := false })) rfl sizeOf4 (AEv.tmp rfl) (v := .bool false) (AEv.tmp rfl) rfl rfl rfl (Nat.le_of_ble_eq_true rfl) rfl ?_)
          refine aops_nil ?_
          subst h
          exact ⟨(), Weak.mkL [1, 2, 0] (by decide) ⟨⟨_, rfl, (CellsLe.refl _), rfl⟩, ⟨_, rfl, (CellsLe.refl _), rfl⟩, ⟨_, rfl, rfl⟩, trivial⟩ ⟨AEv.tmp rfl, AEv.tmp rfl, trivial⟩⟩
    · intro _
      have h := h114
      refine aw_seq ?_
      refine aw_region ?_
      refine ac rfl rfl rfl (op_loadN (i := 0) rfl isAgg56 sizeOf56 (AEv.tmp rfl) rfl (Nat.le_of_ble_eq_true rfl) rfl ?_)
      refine ac0 rfl rfl (op_store (i := 1) (cs' := (api.Conn.ct .no (.own t109) { c_ with Held := r108, Out := s83.2, Closed := s113 })) rfl sizeOf56 (AEv.tmp rfl) (v := .agg (api.Conn.ct .no (.own t109) { c_ with Held := r108, Out := s83.2, Closed := s113 })) (AEv.tmp rfl) rfl rfl rfl (Nat.le_of_ble_eq_true rfl) rfl ?_)
      refine aops_nil ?_
      refine aw_ret ?_
      obtain rfl := some_of h
      exact ⟨[.agg (api.Conn.ct .no (.own t109) { c_ with Held := r108, Out := s83.2, Closed := s113 })], _, [(t109, .spare)], ⟨(CellOk.agg 1 (AEv.tmp rfl) rfl isAgg56 sizeOf56 (Nat.le_of_ble_eq_true rfl) rfl), trivial⟩, (AV.Le.refl _), Weak.mkL [2] (by decide) ⟨⟨_, rfl, rfl⟩, trivial⟩ trivial, ⟨t109, rfl, rfl⟩⟩

theorem conn.Pending.ok {c_ : api.Conn} {r : Int} (h : conn.Pending c_ = some r) : Go.Lift.Spec prog 30 [.agg (api.Conn.ct .no .no c_)] [] (fun v H => v = .int .i64 r ∧ H = []) := by
  unfold conn.Pending at h
  refine Go.Lift.Spec.of_body (rs := [.tmp 2]) func30 rfl rfl (Nat.le_of_ble_eq_true rfl) rfl ?_
  refine aw_seq ?_
  refine aw_region ?_
  refine ac rfl rfl rfl (op_box (cs := (api.Conn.ct .no .no c_)) (v := .agg (api.Conn.ct .no .no c_)) rfl (AEv.tmp rfl) rfl rfl ?_)
  intro p35
  refine ap (.int .i64 0) rfl rfl rfl (pu_assign rfl (AEv.int _ _)) ?_
  refine aops_nil ?_
  refine aw_seq ?_
  refine aw_region ?_
  refine ap (.ptr p35 11) rfl rfl rfl (pu_fieldAddr rfl underlying56 rfl sizeOf9 (by decide) (AEv.tmp rfl) rfl) ?_
  refine ac rfl rfl rfl (op_load1 (i := 0) rfl isAgg9 (AEv.tmp rfl) rfl rfl ?_)
  refine ap (.int .i64 (c_.Out.length : Int)) rfl rfl rfl (pu_strLen rfl underlying9 (AEv.tmp rfl)) ?_
  refine ap (.int .i64 (c_.Out.length : Int)) rfl rfl rfl (pu_assign rfl (AEv.tmp rfl)) ?_
  refine aops_nil ?_
  obtain ⟨s51, s51e, h52⟩ := bind_some h
  refine aw_meet (ν := Unit) (fun v => [(3, .int .i64 s51)]) (fun v => []) ?_ ?_
  · have h := s51e
    refine aw_seq ?_
    refine aw_region ?_
    refine ap (.ptr p35 10) rfl rfl rfl (pu_fieldAddr rfl underlying56 rfl sizeOf54 (by decide) (AEv.tmp rfl) rfl) ?_
    refine ac rfl rfl rfl (op_load1 (i := 0) rfl isAgg54 (AEv.tmp rfl) rfl rfl ?_)
    refine ap (.int .i64 (c_.Held.length : Int)) rfl rfl rfl (pu_lenM rfl underlying54 (AEv.tmp rfl)) ?_
    refine ap (.int .i64 0) rfl rfl rfl (pu_move rfl (AEv.int _ _)) ?_
    refine aops_nil ?_
    refine aw_block ?_
    refine aw_while (σ := conn.Pending.S0) (ν := Unit) (conn.Pending.body0 c_) (fun s62 v => [(3, .int .i64 s62.n), (10, .sl .no 2 (c_.Held.map api.Held.av)), (11, .int .i64 (c_.Held.length : Int)), (12, .int .i64 s62.t12)]) (fun s62 v => []) ⟨(c_.Out.length : Int), 0⟩ () _ h (Weak.mkL [] (by decide) trivial ⟨AEv.tmp rfl, AEv.tmp rfl, AEv.tmp rfl, AEv.tmp rfl, trivial⟩) ?_
    rintro s62 _ x64 h hx63
    unfold conn.Pending.body0 at h
    refine aw_seq ?_
    refine aw_region ?_
    refine ap (.bool (decide (s62.t12 < (c_.Held.length : Int)))) rfl rfl rfl (pu_int (v := .bool (decide (s62.t12 < (c_.Held.length : Int)))) rfl rfl (AEv.tmp rfl) (AEv.tmp rfl) rfl) ?_
    refine aops_nil ?_
    refine aw_seq ?_
    refine aw_cond (b := decide (s62.t12 < (c_.Held.length : Int))) (AEv.tmp rfl) (fun hb68 => ?_) (fun hb68 => ?_)
    · replace h := ite_t (dec_t hb68) h
      refine aw_skip ?_
      refine aw_seq ?_
      refine aw_block ?_
      refine aw_seq ?_
      refine aw_region ?_
      obtain ⟨c66, h⟩ := need_of h
      refine ap (.vptr [.int .i64 (ix c_.Held s62.t12).Need, .str (ix c_.Held s62.t12).S]) rfl rfl rfl (pu_indexAddrM rfl underlying54 sizeOf61 (AEv.tmp rfl) (AEv.tmp rfl) c66 rfl) ?_
      refine ac rfl rfl rfl (op_loadVN rfl isAgg61 sizeOf61 (AEv.tmp rfl) (Nat.le_of_ble_eq_true rfl) rfl ?_)
      refine ac rfl rfl rfl (op_alloc (cs := [.int .i64 0, .str ([] : List UInt8)]) (v := .agg [.int .i64 0, .str ([] : List UInt8)]) rfl zeroValue61 rfl rfl rfl ?_)
      intro p67
      refine ac0 rfl rfl (op_store (i := 0) (cs' := [.int .i64 (ix c_.Held s62.t12).Need, .str (ix c_.Held s62.t12).S]) rfl sizeOf61 (AEv.tmp rfl) (v := .agg [.int .i64 (ix c_.Held s62.t12).Need, .str (ix c_.Held s62.t12).S]) (AEv.tmp rfl) rfl rfl rfl (Nat.le_of_ble_eq_true rfl) rfl ?_)
      refine aops_nil ?_
      refine aw_region ?_
      refine ap (.int .i64 s62.n) rfl rfl rfl (pu_move rfl (AEv.tmp rfl)) ?_
      refine ap (.ptr p67 1) rfl rfl rfl (pu_fieldAddr rfl underlying61 rfl sizeOf9 (by decide) (AEv.tmp rfl) rfl) ?_
      refine ac rfl rfl rfl (op_load1 (i := 0) rfl isAgg9 (AEv.tmp rfl) rfl rfl ?_)
      refine ap (.int .i64 ((ix c_.Held s62.t12).S.length : Int)) rfl rfl rfl (pu_strLen rfl underlying9 (AEv.tmp rfl)) ?_
      refine ap (.int .i64 (IntKind.wrap .i64 (s62.n + ((ix c_.Held s62.t12).S.length : Int)))) rfl rfl rfl (pu_int (v := .int .i64 (IntKind.wrap .i64 (s62.n + ((ix c_.Held s62.t12).S.length : Int)))) rfl rfl (AEv.tmp rfl) (AEv.tmp rfl) rfl) ?_
      refine ap (.int .i64 (IntKind.wrap .i64 (s62.n + ((ix c_.Held s62.t12).S.length : Int)))) rfl rfl rfl (pu_assign rfl (AEv.tmp rfl)) ?_
      refine aops_nil ?_
      refine aw_region ?_
      refine ap (.int .i64 (IntKind.wrap .i64 (s62.t12 + 1))) rfl rfl rfl (pu_int (v := .int .i64 (IntKind.wrap .i64 (s62.t12 + 1))) rfl rfl (AEv.tmp rfl) (AEv.int _ _) rfl) ?_
      refine ap (.int .i64 (IntKind.wrap .i64 (s62.t12 + 1))) rfl rfl rfl (pu_move rfl (AEv.tmp rfl)) ?_
      refine aops_nil ?_
      obtain rfl := some_of h
      exact ⟨_, (), rfl, Weak.mkL [] (by decide) trivial ⟨(AEv.le (AEv.tmp rfl) (AV.Le.refl _)), AEv.tmp rfl, AEv.tmp rfl, (AEv.le (AEv.tmp rfl) (AV.Le.refl _)), trivial⟩⟩
    · replace h := ite_f (dec_f hb68) h
      refine aw_exit ?_
      obtain rfl := some_of h
      have h := congrArg some (hx63 _ rfl)
      obtain rfl := some_of h
      exact ⟨(), Weak.mkL [] (by decide) trivial ⟨AEv.tmp rfl, trivial⟩⟩
  · intro _
    have h := h52
    refine aw_seq ?_
    refine aw_region ?_
    refine ap (.int .i64 s51) rfl rfl rfl (pu_move rfl (AEv.tmp rfl)) ?_
    refine ap (.int .i64 s51) rfl rfl rfl (pu_assign rfl (AEv.tmp rfl)) ?_
    refine aops_nil ?_
    refine aw_ret ?_
    obtain rfl := some_of h
    exact ⟨[.int .i64 s51], _, [], ⟨(AEv.tmp rfl), trivial⟩, (AV.Le.refl _), Weak.mkL [] (by decide) trivial trivial, ⟨rfl, rfl⟩⟩

theorem conn.Say.ok {c_ : api.Conn} {s_ : List UInt8} {need_ : Int} {durable : Int} {t_ : api.Tenant} {r : api.Conn} (h : conn.Say c_ s_ need_ durable t_ = some r) : Go.Lift.Spec prog 27 [.agg (api.Conn.ct .no .no c_), .str s_, .int .i64 need_, .int .i64 durable, .agg (api.Tenant.ct t_)] [] (fun v H => v = .agg [.int .i64 r.Born, .int .i64 r.Tenant, .str r.In.Rest, .sl .no 1 (r.In.Args.map AV.str), .int .i64 r.In.Left, .int .i64 r.In.Size, .bool r.In.Body, .int .i64 r.In.Need, .int .i64 r.In.Dead, .int .i64 r.Asked, .sl .no 2 (r.Held.map api.Held.av), .str r.Out, .int .i64 r.Taken, .bool r.Shut, .bool r.Closed] ∧ H = []) := by
  unfold conn.Say at h
  refine Go.Lift.Spec.of_body (rs := [.cell 10 56]) func27 rfl rfl (Nat.le_of_ble_eq_true rfl) rfl ?_
  refine aw_seq ?_
  refine aw_region ?_
  refine ac rfl rfl rfl (op_box (cs := (api.Conn.ct .no .no c_)) (v := .agg (api.Conn.ct .no .no c_)) rfl (AEv.tmp rfl) rfl rfl ?_)
  intro p20
  refine ac rfl rfl rfl (op_box (cs := (api.Tenant.ct t_)) (v := .agg (api.Tenant.ct t_)) rfl (AEv.tmp rfl) rfl rfl ?_)
  intro p21
  refine ac rfl rfl rfl (op_alloc (cs := [.int .i64 0, .int .i64 0, .str ([] : List UInt8), .sl .full 1 (([] : List (List UInt8)).map AV.str), .int .i64 0, .int .i64 0, .bool false, .int .i64 0, .int .i64 0, .int .i64 0, .sl .full 2 (([] : List api.Held).map api.Held.av), .str ([] : List UInt8), .int .i64 0, .bool false, .bool false]) (v := .agg [.int .i64 0, .int .i64 0, .str ([] : List UInt8), .sl .full 1 (([] : List (List UInt8)).map AV.str), .int .i64 0, .int .i64 0, .bool false, .int .i64 0, .int .i64 0, .int .i64 0, .sl .full 2 (([] : List api.Held).map api.Held.av), .str ([] : List UInt8), .int .i64 0, .bool false, .bool false]) rfl zeroValue56 rfl rfl rfl ?_)
  intro p22
  refine aops_nil ?_
  refine aw_seq ?_
  refine aw_seq ?_
  refine aw_region ?_
  refine ap (.ptr p20 14) rfl rfl rfl (pu_fieldAddr rfl underlying56 rfl sizeOf4 (by decide) (AEv.tmp rfl) rfl) ?_
  refine ac rfl rfl rfl (op_load1 (i := 2) rfl isAgg4 (AEv.tmp rfl) rfl rfl ?_)
  refine aops_nil ?_
  refine aw_cond (b := c_.Closed) (AEv.tmp rfl) (fun hb38 => ?_) (fun hb38 => ?_)
  · replace h := ite_t hb38 h
    refine aw_seq ?_
    refine aw_region ?_
    refine ac rfl rfl rfl (op_loadN (i := 2) rfl isAgg56 sizeOf56 (AEv.tmp rfl) rfl (Nat.le_of_ble_eq_true rfl) rfl ?_)
    refine ac0 rfl rfl (op_store (i := 0) (cs' := (api.Conn.ct .no .no c_)) rfl sizeOf56 (AEv.tmp rfl) (v := .agg (api.Conn.ct .no .no c_)) (AEv.tmp rfl) rfl rfl rfl (Nat.le_of_ble_eq_true rfl) rfl ?_)
    refine aops_nil ?_
    refine aw_ret ?_
    obtain rfl := some_of h
    exact ⟨[.agg (api.Conn.ct .no .no c_)], _, [], ⟨(CellOk.agg 0 (AEv.tmp rfl) rfl isAgg56 sizeOf56 (Nat.le_of_ble_eq_true rfl) rfl), trivial⟩, (AV.Le.refl _), Weak.mkL [] (by decide) trivial trivial, ⟨rfl, rfl⟩⟩
  · replace h := ite_fb hb38 h
    refine aw_skip ?_
    refine aw_seq ?_
    refine aw_region ?_
    refine ap (.ptr p20 10) rfl rfl rfl (pu_fieldAddr rfl underlying56 rfl sizeOf54 (by decide) (AEv.tmp rfl) rfl) ?_
    refine ac rfl rfl rfl (op_load1 (i := 2) rfl isAgg54 (AEv.tmp rfl) rfl rfl ?_)
    obtain ⟨r23, r23e, h⟩ := bind_some h
    refine ac rfl rfl rfl (op_call (vs := [.sl .no 2 (c_.Held.map api.Held.av)]) (H := []) rfl call61 ⟨(AEv.tmp rfl), trivial⟩ (List.Perm.refl _) (slices.Clone_api_Held.ok r23e) ?_)
    rintro _ _ ⟨t24, rfl, rfl⟩
    refine ap (.int .i64 need_) rfl rfl rfl (pu_move rfl (AEv.tmp rfl)) ?_
    refine ap (.str s_) rfl rfl rfl (pu_move rfl (AEv.tmp rfl)) ?_
    refine ap (.agg [.int .i64 need_, .str s_]) rfl rfl rfl (pu_build (zs := [.int .i64 0, .str ([] : List UInt8)]) (szs := [1, 1]) (aparts := [(0, .int .i64 need_), (1, .str s_)]) (cs := [.int .i64 need_, .str s_]) rfl underlying61 zeroValue61 rfl ⟨sizeOf3, sizeOf9, trivial⟩ ⟨rfl, (AEv.tmp rfl), ⟨rfl, (AEv.tmp rfl), trivial⟩⟩ rfl) ?_
    refine ac rfl rfl rfl (op_buildSlice (xs := ([({ Need := need_, S := s_ } : api.Held)] : List api.Held).map api.Held.av) (aparts := [(0, .agg [.int .i64 need_, .str s_])]) rfl underlying54 sizeOf61 zeroValue61 (by decide) (by decide) ⟨rfl, (AEv.tmp rfl), trivial⟩ rfl rfl rfl ?_)
    obtain ⟨c25, h⟩ := need_of h
    refine ac rfl rfl rfl (op_appendOM (q := 0) rfl underlying54 underlying54 (.inl rfl) typeInfo61 rfl rfl rfl (by decide) (AEv.tmp rfl) rfl (given_sl (AEv.tmp rfl)) c25 ?_)
    intro t26
    refine ap (.ptr p20 10) rfl rfl rfl (pu_fieldAddr rfl underlying56 rfl sizeOf54 (by decide) (AEv.tmp rfl) rfl) ?_
    refine ac0 rfl rfl (op_store (i := 3) (cs' := (api.Conn.ct .no (.own t26) { c_ with Held := r23 ++ [({ Need := need_, S := s_ } : api.Held)] })) rfl sizeOf54 (AEv.tmp rfl) (v := .sl (.own t26) 2 ((r23 ++ [({ Need := need_, S := s_ } : api.Held)]).map api.Held.av)) (AEv.tmp rfl) rfl rfl rfl (Nat.le_of_ble_eq_true rfl) rfl ?_)
    refine aops_nil ?_
    refine aw_seq ?_
    refine aw_region ?_
    refine ac rfl rfl rfl (op_loadN (i := 3) rfl isAgg56 sizeOf56 (AEv.tmp rfl) rfl (Nat.le_of_ble_eq_true rfl) rfl ?_)
    refine ap (.int .i64 durable) rfl rfl rfl (pu_move rfl (AEv.tmp rfl)) ?_
    obtain ⟨r27, r27e, h⟩ := bind_some h
    refine ac rfl rfl rfl (op_call (vs := [.agg (api.Conn.ct .no .no { c_ with Held := r23 ++ [({ Need := need_, S := s_ } : api.Held)] }), .int .i64 durable]) (H := []) rfl call28 ⟨(AEv.le (AEv.tmp rfl) (AV.Le.agg ⟨(AV.Le.refl _), (AV.Le.refl _), (AV.Le.refl _), (AV.Le.refl _), (AV.Le.refl _), (AV.Le.refl _), (AV.Le.refl _), (AV.Le.refl _), (AV.Le.refl _), (AV.Le.refl _), (AV.Le.forget _ _ _), (AV.Le.refl _), (AV.Le.refl _), (AV.Le.refl _), (AV.Le.refl _), trivial⟩)), (AEv.tmp rfl), trivial⟩ (List.Perm.refl _) (conn.Free.ok r27e) ?_)
    rintro _ _ ⟨t28, rfl, rfl⟩
    refine ac0 rfl rfl (op_store (i := 4) (cs' := (api.Conn.ct .no (.own t28) r27)) rfl sizeOf56 (AEv.tmp rfl) (v := .agg (api.Conn.ct .no (.own t28) r27)) (AEv.tmp rfl) rfl rfl rfl (Nat.le_of_ble_eq_true rfl) rfl ?_)
    refine aops_nil ?_
    obtain ⟨s31, s31e, h33⟩ := bind_some h
    refine aw_meet (ν := Nat) (fun v => [(5, .ptr p20 0), (10, .ptr p22 0)]) (fun v => [(p20, .cells (api.Conn.ct .no (.own v) { r27 with Held := s31.1, Out := s31.2.1, Closed := s31.2.2 })), (p22, .cells [.int .i64 0, .int .i64 0, .str ([] : List UInt8), .sl .full 1 (([] : List (List UInt8)).map AV.str), .int .i64 0, .int .i64 0, .bool false, .int .i64 0, .int .i64 0, .int .i64 0, .sl .full 2 (([] : List api.Held).map api.Held.av), .str ([] : List UInt8), .int .i64 0, .bool false, .bool false]), (v, .spare)]) ?_ ?_
    · have h := s31e
      refine aw_upd ?_
      refine aw_seq ?_
      obtain ⟨r35, r35e, h⟩ := bind_some h
      refine aw_plan (by decide +kernel) [([], some 26, [5]), ([0], some 27, [26]), ([], some 28, [9]), ([2], some 29, [28]), ([1, 3], some 30, [27, 29])] rfl [[], [0], [], [2], [0, 1, 2, 3]] [[(4, 0, false)], [], [], [(3, 0, false)], []] [[], [], [], [], []] [[[(t28, .spare)]], [[(t26, .spare)]], [[(p22, .cells [.int .i64 0, .int .i64 0, .str ([] : List UInt8), .sl .full 1 (([] : List (List UInt8)).map AV.str), .int .i64 0, .int .i64 0, .bool false, .int .i64 0, .int .i64 0, .int .i64 0, .sl .full 2 (([] : List api.Held).map api.Held.av), .str ([] : List UInt8), .int .i64 0, .bool false, .bool false])]], [[(p21, .cells (api.Tenant.ct t_))]], [[(p20, .cells (api.Conn.ct .no (.own t28) r27))]]] [.agg (api.Conn.ct .no (.own t28) r27), .int .i64 r35, .ptr p21 6, .int .i64 t_.Out, .bool (decide (t_.Out < r35))] (by decide +kernel) rfl rfl ?_ ?_
      · refine ⟨⟨[5], rfl, stepg_plain rfl (op_loadN (i := 0) rfl isAgg56 sizeOf56 (AEv.tmp rfl) rfl (Nat.le_of_ble_eq_true rfl) rfl ⟨rfl, rfl⟩)⟩, ?_⟩
        refine ⟨⟨[26], rfl, stepg_plain rfl (op_call (vs := [.agg (api.Conn.ct .no .no r27)]) (H := []) rfl call30 ⟨(AEv.le (AEv.tmp rfl) (AV.Le.agg ⟨(AV.Le.refl _), (AV.Le.refl _), (AV.Le.refl _), (AV.Le.refl _), (AV.Le.refl _), (AV.Le.refl _), (AV.Le.refl _), (AV.Le.refl _), (AV.Le.refl _), (AV.Le.refl _), (AV.Le.forget _ _ _), (AV.Le.refl _), (AV.Le.refl _), (AV.Le.refl _), (AV.Le.refl _), trivial⟩)), trivial⟩ (R := []) (List.Perm.refl _) (conn.Pending.ok r35e) (by rintro _ _ ⟨rfl, rfl⟩; exact ⟨rfl, rfl⟩))⟩, ?_⟩
        refine ⟨⟨[9], rfl, stepg_pure rfl (pu_fieldAddr rfl underlying53 rfl sizeOf3 (by decide) (AEv.tmp rfl) rfl)⟩, ?_⟩
        refine ⟨⟨[28], rfl, stepg_plain rfl (op_load1 (i := 0) rfl isAgg3 (AEv.tmp rfl) rfl rfl ⟨rfl, rfl⟩)⟩, ?_⟩
        refine ⟨⟨[27, 29], rfl, stepg_pure rfl (pu_int (v := .bool (decide (t_.Out < r35))) rfl rfl (AEv.tmp rfl) (AEv.tmp rfl) rfl)⟩, ?_⟩
        trivial
      refine aw_cond (b := decide (t_.Out < r35)) (AEv.tmp rfl) (fun hb37 => ?_) (fun hb37 => ?_)
      · replace h := ite_t (dec_t hb37) h
        refine aw_region ?_
        refine ap (.ptr p20 10) rfl rfl rfl (pu_fieldAddr rfl underlying56 rfl sizeOf54 (by decide) (AEv.tmp rfl) rfl) ?_
        refine ac0 rfl rfl (op_store (i := 4) (cs' := (api.Conn.ct .no .full { r27 with Held := ([] : List api.Held) })) rfl sizeOf54 (AEv.tmp rfl) (v := .sl .full 2 (([] : List api.Held).map api.Held.av)) (AEv.nil 2 (by decide)) rfl rfl rfl (Nat.le_of_ble_eq_true rfl) rfl ?_)
        refine ap (.ptr p20 11) rfl rfl rfl (pu_fieldAddr rfl underlying56 rfl sizeOf9 (by decide) (AEv.tmp rfl) rfl) ?_
        refine ac0 rfl rfl (op_store (i := 4) (cs' := (api.Conn.ct .no .full { r27 with Held := ([] : List api.Held), Out := ([] : List UInt8) })) rfl sizeOf9 (AEv.tmp rfl) (v := .str ([] : List UInt8)) (AEv.const rfl) rfl rfl rfl (Nat.le_of_ble_eq_true rfl) rfl ?_)
        refine ap (.ptr p20 14) rfl rfl rfl (pu_fieldAddr rfl underlying56 rfl sizeOf4 (by decide) (AEv.tmp rfl) rfl) ?_
        refine ac0 rfl rfl (op_store (i := 4) (cs' := (api.Conn.ct .no .full { r27 with Held := ([] : List api.Held), Out := ([] : List UInt8), Closed := true })) rfl sizeOf4 (AEv.tmp rfl) (v := .bool true) (AEv.bool _) rfl rfl rfl (Nat.le_of_ble_eq_true rfl) rfl ?_)
        refine aops_nil ?_
        refine upd_claimCell 4 10 rfl rfl fun t36 => ?_
        refine upd_done ?_
        obtain rfl := some_of h
        exact ⟨t36, Weak.mkL [5, 3, 0] (by decide) ⟨⟨_, rfl, (CellsLe.refl _), rfl⟩, ⟨_, rfl, (CellsLe.refl _), rfl⟩, ⟨_, rfl, rfl⟩, trivial⟩ ⟨AEv.tmp rfl, AEv.tmp rfl, trivial⟩⟩
      · replace h := ite_f (dec_f hb37) h
        refine aw_skip ?_
        refine upd_done ?_
        obtain rfl := some_of h
        exact ⟨t28, Weak.mkL [4, 2, 0] (by decide) ⟨⟨_, rfl, (CellsLe.refl _), rfl⟩, ⟨_, rfl, (CellsLe.refl _), rfl⟩, ⟨_, rfl, rfl⟩, trivial⟩ ⟨AEv.tmp rfl, AEv.tmp rfl, trivial⟩⟩
    · intro n32
      have h := h33
      refine aw_seq ?_
      refine aw_region ?_
      refine ac rfl rfl rfl (op_loadN (i := 0) rfl isAgg56 sizeOf56 (AEv.tmp rfl) rfl (Nat.le_of_ble_eq_true rfl) rfl ?_)
      refine ac0 rfl rfl (op_store (i := 1) (cs' := (api.Conn.ct .no (.own n32) { r27 with Held := s31.1, Out := s31.2.1, Closed := s31.2.2 })) rfl sizeOf56 (AEv.tmp rfl) (v := .agg (api.Conn.ct .no (.own n32) { r27 with Held := s31.1, Out := s31.2.1, Closed := s31.2.2 })) (AEv.tmp rfl) rfl rfl rfl (Nat.le_of_ble_eq_true rfl) rfl ?_)
      refine aops_nil ?_
      refine aw_ret ?_
      obtain rfl := some_of h
      exact ⟨[.agg (api.Conn.ct .no (.own n32) { r27 with Held := s31.1, Out := s31.2.1, Closed := s31.2.2 })], .agg (api.Conn.ct .no .no { r27 with Held := s31.1, Out := s31.2.1, Closed := s31.2.2 }), [], ⟨(CellOk.agg 1 (AEv.tmp rfl) rfl isAgg56 sizeOf56 (Nat.le_of_ble_eq_true rfl) rfl), trivial⟩, (AV.Le.agg ⟨(AV.Le.refl _), (AV.Le.refl _), (AV.Le.refl _), (AV.Le.refl _), (AV.Le.refl _), (AV.Le.refl _), (AV.Le.refl _), (AV.Le.refl _), (AV.Le.refl _), (AV.Le.refl _), (AV.Le.forget _ _ _), (AV.Le.refl _), (AV.Le.refl _), (AV.Le.refl _), (AV.Le.refl _), trivial⟩), Weak.mkL [] (by decide) trivial trivial, ⟨rfl, rfl⟩⟩

theorem conn.Take.ok {c_ : api.Conn} {n_ : Int} {r : api.Conn × (List UInt8)} (h : conn.Take c_ n_ = some r) : Go.Lift.Spec prog 29 [.agg (api.Conn.ct .no .no c_), .int .i64 n_] [] (fun v H => v = .tup [.agg [.int .i64 r.1.Born, .int .i64 r.1.Tenant, .str r.1.In.Rest, .sl .no 1 (r.1.In.Args.map AV.str), .int .i64 r.1.In.Left, .int .i64 r.1.In.Size, .bool r.1.In.Body, .int .i64 r.1.In.Need, .int .i64 r.1.In.Dead, .int .i64 r.1.Asked, .sl .no 2 (r.1.Held.map api.Held.av), .str r.1.Out, .int .i64 r.1.Taken, .bool r.1.Shut, .bool r.1.Closed], .str r.2] ∧ H = []) := by
  unfold conn.Take at h
  refine Go.Lift.Spec.of_body (rs := [.cell 4 56, .tmp 5]) func29 rfl rfl (Nat.le_of_ble_eq_true rfl) rfl ?_
  refine aw_seq ?_
  refine aw_region ?_
  refine ac rfl rfl rfl (op_box (cs := (api.Conn.ct .no .no c_)) (v := .agg (api.Conn.ct .no .no c_)) rfl (AEv.tmp rfl) rfl rfl ?_)
  intro p5
  refine ac rfl rfl rfl (op_alloc (cs := [.int .i64 0, .int .i64 0, .str ([] : List UInt8), .sl .full 1 (([] : List (List UInt8)).map AV.str), .int .i64 0, .int .i64 0, .bool false, .int .i64 0, .int .i64 0, .int .i64 0, .sl .full 2 (([] : List api.Held).map api.Held.av), .str ([] : List UInt8), .int .i64 0, .bool false, .bool false]) (v := .agg [.int .i64 0, .int .i64 0, .str ([] : List UInt8), .sl .full 1 (([] : List (List UInt8)).map AV.str), .int .i64 0, .int .i64 0, .bool false, .int .i64 0, .int .i64 0, .int .i64 0, .sl .full 2 (([] : List api.Held).map api.Held.av), .str ([] : List UInt8), .int .i64 0, .bool false, .bool false]) rfl zeroValue56 rfl rfl rfl ?_)
  intro p6
  refine ap (.str ([] : List UInt8)) rfl rfl rfl (pu_assign rfl (AEv.const rfl)) ?_
  refine aops_nil ?_
  refine aw_seq ?_
  refine aw_region ?_
  refine ap (.int .i64 n_) rfl rfl rfl (pu_move rfl (AEv.tmp rfl)) ?_
  refine ap (.int .i64 (if n_ < 0 then 0 else n_)) rfl rfl rfl (pu_max2 rfl (AEv.tmp rfl) (AEv.int _ _)) ?_
  refine ap (.ptr p5 11) rfl rfl rfl (pu_fieldAddr rfl underlying56 rfl sizeOf9 (by decide) (AEv.tmp rfl) rfl) ?_
  refine ac rfl rfl rfl (op_load1 (i := 1) rfl isAgg9 (AEv.tmp rfl) rfl rfl ?_)
  refine ap (.int .i64 (c_.Out.length : Int)) rfl rfl rfl (pu_strLen rfl underlying9 (AEv.tmp rfl)) ?_
  refine ap (.int .i64 (if (c_.Out.length : Int) < (if n_ < 0 then 0 else n_) then (c_.Out.length : Int) else (if n_ < 0 then 0 else n_))) rfl rfl rfl (pu_min2 rfl (AEv.tmp rfl) (AEv.tmp rfl)) ?_
  refine ap (.int .i64 (if (c_.Out.length : Int) < (if n_ < 0 then 0 else n_) then (c_.Out.length : Int) else (if n_ < 0 then 0 else n_))) rfl rfl rfl (pu_assign rfl (AEv.tmp rfl)) ?_
  refine aops_nil ?_
  refine aw_seq ?_
  refine aw_region ?_
  refine ap (.ptr p5 11) rfl rfl rfl (pu_fieldAddr rfl underlying56 rfl sizeOf9 (by decide) (AEv.tmp rfl) rfl) ?_
  refine ac rfl rfl rfl (op_load1 (i := 1) rfl isAgg9 (AEv.tmp rfl) rfl rfl ?_)
  refine ap (.int .i64 (if (c_.Out.length : Int) < (if n_ < 0 then 0 else n_) then (c_.Out.length : Int) else (if n_ < 0 then 0 else n_))) rfl rfl rfl (pu_move rfl (AEv.tmp rfl)) ?_
  obtain ⟨c7, h⟩ := need_of h
  refine ap (.str (sub c_.Out 0 (if (c_.Out.length : Int) < (if n_ < 0 then 0 else n_) then (c_.Out.length : Int) else (if n_ < 0 then 0 else n_)))) rfl rfl rfl (pu_strSliceM rfl underlying9 (AEv.tmp rfl) rfl ⟨_, (AEv.tmp rfl)⟩ c7) ?_
  refine ap (.str (sub c_.Out 0 (if (c_.Out.length : Int) < (if n_ < 0 then 0 else n_) then (c_.Out.length : Int) else (if n_ < 0 then 0 else n_)))) rfl rfl rfl (pu_assign rfl (AEv.tmp rfl)) ?_
  refine aops_nil ?_
  refine aw_seq ?_
  refine aw_region ?_
  refine ap (.ptr p5 11) rfl rfl rfl (pu_fieldAddr rfl underlying56 rfl sizeOf9 (by decide) (AEv.tmp rfl) rfl) ?_
  refine ac rfl rfl rfl (op_load1 (i := 1) rfl isAgg9 (AEv.tmp rfl) rfl rfl ?_)
  refine ap (.int .i64 (if (c_.Out.length : Int) < (if n_ < 0 then 0 else n_) then (c_.Out.length : Int) else (if n_ < 0 then 0 else n_))) rfl rfl rfl (pu_move rfl (AEv.tmp rfl)) ?_
  obtain ⟨c8, h⟩ := need_of h
  refine ap (.str (sub c_.Out (if (c_.Out.length : Int) < (if n_ < 0 then 0 else n_) then (c_.Out.length : Int) else (if n_ < 0 then 0 else n_)) (c_.Out.length : Int))) rfl rfl rfl (pu_strSliceM rfl underlying9 (AEv.tmp rfl) ⟨_, (AEv.tmp rfl)⟩ rfl c8) ?_
  refine ap (.ptr p5 11) rfl rfl rfl (pu_fieldAddr rfl underlying56 rfl sizeOf9 (by decide) (AEv.tmp rfl) rfl) ?_
  refine ac0 rfl rfl (op_store (i := 1) (cs' := (api.Conn.ct .no .no { c_ with Out := sub c_.Out (if (c_.Out.length : Int) < (if n_ < 0 then 0 else n_) then (c_.Out.length : Int) else (if n_ < 0 then 0 else n_)) (c_.Out.length : Int) })) rfl sizeOf9 (AEv.tmp rfl) (v := .str (sub c_.Out (if (c_.Out.length : Int) < (if n_ < 0 then 0 else n_) then (c_.Out.length : Int) else (if n_ < 0 then 0 else n_)) (c_.Out.length : Int))) (AEv.tmp rfl) rfl rfl rfl (Nat.le_of_ble_eq_true rfl) rfl ?_)
  refine aops_nil ?_
  refine aw_seq ?_
  refine aw_region ?_
  refine ap (.ptr p5 12) rfl rfl rfl (pu_fieldAddr rfl underlying56 rfl sizeOf3 (by decide) (AEv.tmp rfl) rfl) ?_
  refine ac rfl rfl rfl (op_load1 (i := 1) rfl isAgg3 (AEv.tmp rfl) rfl rfl ?_)
  refine ap (.int .i64 (if (c_.Out.length : Int) < (if n_ < 0 then 0 else n_) then (c_.Out.length : Int) else (if n_ < 0 then 0 else n_))) rfl rfl rfl (pu_move rfl (AEv.tmp rfl)) ?_
  refine ap (.int .i64 (IntKind.wrap .i64 (c_.Taken + (if (c_.Out.length : Int) < (if n_ < 0 then 0 else n_) then (c_.Out.length : Int) else (if n_ < 0 then 0 else n_))))) rfl rfl rfl (pu_int (v := .int .i64 (IntKind.wrap .i64 (c_.Taken + (if (c_.Out.length : Int) < (if n_ < 0 then 0 else n_) then (c_.Out.length : Int) else (if n_ < 0 then 0 else n_))))) rfl rfl (AEv.tmp rfl) (AEv.tmp rfl) rfl) ?_
  refine ap (.ptr p5 12) rfl rfl rfl (pu_fieldAddr rfl underlying56 rfl sizeOf3 (by decide) (AEv.tmp rfl) rfl) ?_
  refine ac0 rfl rfl (op_store (i := 1) (cs' := (api.Conn.ct .no .no { c_ with Out := sub c_.Out (if (c_.Out.length : Int) < (if n_ < 0 then 0 else n_) then (c_.Out.length : Int) else (if n_ < 0 then 0 else n_)) (c_.Out.length : Int), Taken := IntKind.wrap .i64 (c_.Taken + (if (c_.Out.length : Int) < (if n_ < 0 then 0 else n_) then (c_.Out.length : Int) else (if n_ < 0 then 0 else n_))) })) rfl sizeOf3 (AEv.tmp rfl) (v := .int .i64 (IntKind.wrap .i64 (c_.Taken + (if (c_.Out.length : Int) < (if n_ < 0 then 0 else n_) then (c_.Out.length : Int) else (if n_ < 0 then 0 else n_))))) (AEv.tmp rfl) rfl rfl rfl (Nat.le_of_ble_eq_true rfl) rfl ?_)
  refine aops_nil ?_
  refine aw_seq ?_
  refine aw_region ?_
  refine ac rfl rfl rfl (op_loadN (i := 1) rfl isAgg56 sizeOf56 (AEv.tmp rfl) rfl (Nat.le_of_ble_eq_true rfl) rfl ?_)
  refine ap (.str (sub c_.Out 0 (if (c_.Out.length : Int) < (if n_ < 0 then 0 else n_) then (c_.Out.length : Int) else (if n_ < 0 then 0 else n_)))) rfl rfl rfl (pu_move rfl (AEv.tmp rfl)) ?_
  refine ac0 rfl rfl (op_store (i := 0) (cs' := (api.Conn.ct .no .no { c_ with Out := sub c_.Out (if (c_.Out.length : Int) < (if n_ < 0 then 0 else n_) then (c_.Out.length : Int) else (if n_ < 0 then 0 else n_)) (c_.Out.length : Int), Taken := IntKind.wrap .i64 (c_.Taken + (if (c_.Out.length : Int) < (if n_ < 0 then 0 else n_) then (c_.Out.length : Int) else (if n_ < 0 then 0 else n_))) })) rfl sizeOf56 (AEv.tmp rfl) (v := .agg (api.Conn.ct .no .no { c_ with Out := sub c_.Out (if (c_.Out.length : Int) < (if n_ < 0 then 0 else n_) then (c_.Out.length : Int) else (if n_ < 0 then 0 else n_)) (c_.Out.length : Int), Taken := IntKind.wrap .i64 (c_.Taken + (if (c_.Out.length : Int) < (if n_ < 0 then 0 else n_) then (c_.Out.length : Int) else (if n_ < 0 then 0 else n_))) })) (AEv.tmp rfl) rfl rfl rfl (Nat.le_of_ble_eq_true rfl) rfl ?_)
  refine ap (.str (sub c_.Out 0 (if (c_.Out.length : Int) < (if n_ < 0 then 0 else n_) then (c_.Out.length : Int) else (if n_ < 0 then 0 else n_)))) rfl rfl rfl (pu_assign rfl (AEv.tmp rfl)) ?_
  refine aops_nil ?_
  refine aw_ret ?_
  obtain rfl := some_of h
  exact ⟨[.agg (api.Conn.ct .no .no { c_ with Out := sub c_.Out (if (c_.Out.length : Int) < (if n_ < 0 then 0 else n_) then (c_.Out.length : Int) else (if n_ < 0 then 0 else n_)) (c_.Out.length : Int), Taken := IntKind.wrap .i64 (c_.Taken + (if (c_.Out.length : Int) < (if n_ < 0 then 0 else n_) then (c_.Out.length : Int) else (if n_ < 0 then 0 else n_))) }), .str (sub c_.Out 0 (if (c_.Out.length : Int) < (if n_ < 0 then 0 else n_) then (c_.Out.length : Int) else (if n_ < 0 then 0 else n_)))], .tup [.agg (api.Conn.ct .no .no { c_ with Out := sub c_.Out (if (c_.Out.length : Int) < (if n_ < 0 then 0 else n_) then (c_.Out.length : Int) else (if n_ < 0 then 0 else n_)) (c_.Out.length : Int), Taken := IntKind.wrap .i64 (c_.Taken + (if (c_.Out.length : Int) < (if n_ < 0 then 0 else n_) then (c_.Out.length : Int) else (if n_ < 0 then 0 else n_))) }), .str (sub c_.Out 0 (if (c_.Out.length : Int) < (if n_ < 0 then 0 else n_) then (c_.Out.length : Int) else (if n_ < 0 then 0 else n_)))], [], ⟨(CellOk.agg 0 (AEv.tmp rfl) rfl isAgg56 sizeOf56 (Nat.le_of_ble_eq_true rfl) rfl), (AEv.tmp rfl), trivial⟩, (AV.Le.tup (CellsLe.refl _)), Weak.mkL [] (by decide) trivial trivial, ⟨rfl, rfl⟩⟩

theorem conn.Read.ok {c_ : api.Conn} {s_ : List UInt8} {t_ : api.Tenant} {r : api.Conn × (List api.Request) × (List UInt8)} (h : conn.Read c_ s_ t_ = some r) : Go.Lift.Spec prog 32 [.agg (api.Conn.ct .no .no c_), .str s_, .agg (api.Tenant.ct t_)] [] (fun v H => ∃ n0, v = .tup [.agg [.int .i64 r.1.Born, .int .i64 r.1.Tenant, .str r.1.In.Rest, .sl .no 1 (r.1.In.Args.map AV.str), .int .i64 r.1.In.Left, .int .i64 r.1.In.Size, .bool r.1.In.Body, .int .i64 r.1.In.Need, .int .i64 r.1.In.Dead, .int .i64 r.1.Asked, .sl .no 2 (r.1.Held.map api.Held.av), .str r.1.Out, .int .i64 r.1.Taken, .bool r.1.Shut, .bool r.1.Closed], .sl (.own n0) 2 (r.2.1.map api.Request.av), .str r.2.2] ∧ H = [(n0, .spare)]) := by
  unfold conn.Read at h
  refine Go.Lift.Spec.of_body (rs := [.cell 6 56, .tmp 7, .tmp 8]) func32 rfl rfl (Nat.le_of_ble_eq_true rfl) rfl ?_
  refine aw_seq ?_
  refine aw_region ?_
  refine ac rfl rfl rfl (op_box (cs := (api.Conn.ct .no .no c_)) (v := .agg (api.Conn.ct .no .no c_)) rfl (AEv.tmp rfl) rfl rfl ?_)
  intro p67
  refine ac rfl rfl rfl (op_box (cs := (api.Tenant.ct t_)) (v := .agg (api.Tenant.ct t_)) rfl (AEv.tmp rfl) rfl rfl ?_)
  intro p68
  refine ac rfl rfl rfl (op_alloc (cs := [.int .i64 0, .int .i64 0, .str ([] : List UInt8), .sl .full 1 (([] : List (List UInt8)).map AV.str), .int .i64 0, .int .i64 0, .bool false, .int .i64 0, .int .i64 0, .int .i64 0, .sl .full 2 (([] : List api.Held).map api.Held.av), .str ([] : List UInt8), .int .i64 0, .bool false, .bool false]) (v := .agg [.int .i64 0, .int .i64 0, .str ([] : List UInt8), .sl .full 1 (([] : List (List UInt8)).map AV.str), .int .i64 0, .int .i64 0, .bool false, .int .i64 0, .int .i64 0, .int .i64 0, .sl .full 2 (([] : List api.Held).map api.Held.av), .str ([] : List UInt8), .int .i64 0, .bool false, .bool false]) rfl zeroValue56 rfl rfl rfl ?_)
  intro p69
  refine ap (.sl .full 2 (([] : List api.Request).map api.Request.av)) rfl rfl rfl (pu_assign rfl (AEv.nil 2 (by decide))) ?_
  refine ap (.str ([] : List UInt8)) rfl rfl rfl (pu_assign rfl (AEv.const rfl)) ?_
  refine aops_nil ?_
  refine aw_seq ?_
  obtain ⟨s71, s71e, h72⟩ := letO_of h
  refine aw_meet (ν := Unit) (fun v => [(1, .str s_), (3, .ptr p67 0), (5, .ptr p68 0), (6, .ptr p69 0), (20, .bool s71)]) (fun v => [(p67, .cells (api.Conn.ct .no .no c_)), (p68, .cells (api.Tenant.ct t_)), (p69, .cells [.int .i64 0, .int .i64 0, .str ([] : List UInt8), .sl .full 1 (([] : List (List UInt8)).map AV.str), .int .i64 0, .int .i64 0, .bool false, .int .i64 0, .int .i64 0, .int .i64 0, .sl .full 2 (([] : List api.Held).map api.Held.av), .str ([] : List UInt8), .int .i64 0, .bool false, .bool false])]) ?_ ?_
  · have h := s71e.symm
    refine aw_region ?_
    refine ap (.ptr p67 13) rfl rfl rfl (pu_fieldAddr rfl underlying56 rfl sizeOf4 (by decide) (AEv.tmp rfl) rfl) ?_
    refine ac rfl rfl rfl (op_load1 (i := 2) rfl isAgg4 (AEv.tmp rfl) rfl rfl ?_)
    refine ap (.bool c_.Shut) rfl rfl rfl (pu_move rfl (AEv.tmp rfl)) ?_
    rcases Bool.eq_false_or_eq_true c_.Shut with hb74 | hb74
    · replace h := ite_t hb74 h
      refine aops_known 17 rfl hb74 ?_
      refine an rfl rfl rfl rfl rfl rfl rfl rfl ?_
      refine an rfl rfl rfl rfl rfl rfl rfl rfl ?_
      refine ap (.bool true) rfl rfl rfl (pu_pick (b := true) rfl (AEv.tmp rfl) (fun _ => (AEv.bool _)) (fun h => nomatch h)) ?_
      refine aops_nil ?_
      subst h
      exact ⟨(), Weak.mkL [2, 1, 0] (by decide) ⟨⟨_, rfl, (CellsLe.refl _), rfl⟩, ⟨_, rfl, (CellsLe.refl _), rfl⟩, ⟨_, rfl, (CellsLe.refl _), rfl⟩, trivial⟩ ⟨AEv.tmp rfl, AEv.tmp rfl, AEv.tmp rfl, AEv.tmp rfl, AEv.tmp rfl, trivial⟩⟩
    · replace h := ite_fb hb74 h
      refine aops_known 17 rfl hb74 ?_
      refine agp (.ptr p67 14) rfl rfl rfl rfl rfl rfl rfl (pu_fieldAddr rfl underlying56 rfl sizeOf4 (by decide) (AEv.tmp rfl) rfl) ?_
      refine ag rfl rfl rfl rfl rfl rfl rfl (op_load1 (i := 2) rfl isAgg4 (AEv.tmp rfl) rfl rfl ?_)
      refine ap (.bool c_.Closed) rfl rfl rfl (pu_pick (b := false) rfl (AEv.tmp rfl) (fun h => nomatch h) (fun _ => (AEv.tmp rfl))) ?_
      refine aops_nil ?_
      subst h
      exact ⟨(), Weak.mkL [2, 1, 0] (by decide) ⟨⟨_, rfl, (CellsLe.refl _), rfl⟩, ⟨_, rfl, (CellsLe.refl _), rfl⟩, ⟨_, rfl, (CellsLe.refl _), rfl⟩, trivial⟩ ⟨AEv.tmp rfl, AEv.tmp rfl, AEv.tmp rfl, AEv.tmp rfl, AEv.tmp rfl, trivial⟩⟩
  · intro _
    have h := h72
    refine aw_cond (b := s71) (AEv.tmp rfl) (fun hb133 => ?_) (fun hb133 => ?_)
    · replace h := ite_t hb133 h
      refine aw_seq ?_
      refine aw_region ?_
      refine ac rfl rfl rfl (op_loadN (i := 0) rfl isAgg56 sizeOf56 (AEv.tmp rfl) rfl (Nat.le_of_ble_eq_true rfl) rfl ?_)
      refine ac0 rfl rfl (op_store (i := 2) (cs' := (api.Conn.ct .no .no c_)) rfl sizeOf56 (AEv.tmp rfl) (v := .agg (api.Conn.ct .no .no c_)) (AEv.tmp rfl) rfl rfl rfl (Nat.le_of_ble_eq_true rfl) rfl ?_)
      refine ap (.sl .full 2 (([] : List api.Request).map api.Request.av)) rfl rfl rfl (pu_assign rfl (AEv.nil 2 (by decide))) ?_
      refine ap (.str ([] : List UInt8)) rfl rfl rfl (pu_assign rfl (AEv.const rfl)) ?_
      refine aops_nil ?_
      refine aw_claim 7 (AEv.tmp rfl) fun t75 => ?_
      refine aw_ret ?_
      obtain rfl := some_of h
      exact ⟨[.agg (api.Conn.ct .no .no c_), .sl (.own t75) 2 (([] : List api.Request).map api.Request.av), .str ([] : List UInt8)], .tup [.agg (api.Conn.ct .no .no c_), .sl (.own t75) 2 (([] : List api.Request).map api.Request.av), .str ([] : List UInt8)], [(t75, .spare)], ⟨(CellOk.agg 3 (AEv.tmp rfl) rfl isAgg56 sizeOf56 (Nat.le_of_ble_eq_true rfl) rfl), (AEv.tmp rfl), (AEv.tmp rfl), trivial⟩, (AV.Le.tup (CellsLe.refl _)), Weak.mkL [0] (by decide) ⟨⟨_, rfl, rfl⟩, trivial⟩ trivial, ⟨t75, rfl, rfl⟩⟩
    · replace h := ite_fb hb133 h
      refine aw_skip ?_
      refine aw_seq ?_
      refine aw_region ?_
      refine ap (.ptr p67 2) rfl rfl rfl (pu_fieldAddr rfl underlying56 rfl sizeOf29 (by decide) (AEv.tmp rfl) rfl) ?_
      refine ac rfl rfl rfl (op_loadN (i := 0) rfl isAgg29 sizeOf29 (AEv.tmp rfl) rfl (Nat.le_of_ble_eq_true rfl) rfl ?_)
      refine ap (.str s_) rfl rfl rfl (pu_move rfl (AEv.tmp rfl)) ?_
      refine ap (.ptr p68 11) rfl rfl rfl (pu_fieldAddr rfl underlying53 rfl sizeOf23 (by decide) (AEv.tmp rfl) rfl) ?_
      refine ac rfl rfl rfl (op_loadN (i := 1) rfl isAgg23 sizeOf23 (AEv.tmp rfl) rfl (Nat.le_of_ble_eq_true rfl) rfl ?_)
      obtain ⟨r76, r76e, h⟩ := bind_some h
      refine ac rfl rfl rfl (op_call (vs := [.agg (api.Input.ct .no c_.In), .str s_, .agg [.int .i64 t_.Limits.Args, .int .i64 t_.Limits.Bulk, .int .i64 t_.Limits.Line]]) (H := []) rfl call15 ⟨(AEv.tmp rfl), (AEv.tmp rfl), (AEv.tmp rfl), trivial⟩ (List.Perm.refl _) (parse.Feed.ok r76e) ?_)
      rintro _ _ ⟨t77, rfl, rfl⟩
      refine ap (.tup [.agg (api.Input.ct .no r76.1), .sl (.own t77) 2 (r76.2.1.map api.Request.av), .int .i64 r76.2.2]) rfl rfl rfl (pu_move rfl (AEv.tmp rfl)) ?_
      refine ap (.agg (api.Input.ct .no r76.1)) rfl rfl rfl (pu_extract rfl (AEv.tmp rfl) (Nat.le_of_ble_eq_true rfl) rfl) ?_
      refine ap (.sl (.own t77) 2 (r76.2.1.map api.Request.av)) rfl rfl rfl (pu_extract rfl (AEv.tmp rfl) (Nat.le_of_ble_eq_true rfl) rfl) ?_
      refine ap (.int .i64 r76.2.2) rfl rfl rfl (pu_extract rfl (AEv.tmp rfl) (Nat.le_of_ble_eq_true rfl) rfl) ?_
      refine ac rfl rfl rfl (op_alloc (cs := [.str ([] : List UInt8), .sl .full 1 (([] : List (List UInt8)).map AV.str), .int .i64 0, .int .i64 0, .bool false, .int .i64 0, .int .i64 0]) (v := .agg [.str ([] : List UInt8), .sl .full 1 (([] : List (List UInt8)).map AV.str), .int .i64 0, .int .i64 0, .bool false, .int .i64 0, .int .i64 0]) rfl zeroValue29 rfl rfl rfl ?_)
      intro p78
      refine ac0 rfl rfl (op_store (i := 0) (cs' := (api.Input.ct .no r76.1)) rfl sizeOf29 (AEv.tmp rfl) (v := .agg (api.Input.ct .no r76.1)) (AEv.tmp rfl) rfl rfl rfl (Nat.le_of_ble_eq_true rfl) rfl ?_)
      refine ap (.sl (.own t77) 2 (r76.2.1.map api.Request.av)) rfl rfl rfl (pu_assign rfl (AEv.tmp rfl)) ?_
      refine ap (.int .i64 r76.2.2) rfl rfl rfl (pu_assign rfl (AEv.tmp rfl)) ?_
      refine aops_nil ?_
      refine aw_seq ?_
      refine aw_region ?_
      refine ac rfl rfl rfl (op_loadN (i := 0) rfl isAgg29 sizeOf29 (AEv.tmp rfl) rfl (Nat.le_of_ble_eq_true rfl) rfl ?_)
      refine ap (.ptr p67 2) rfl rfl rfl (pu_fieldAddr rfl underlying56 rfl sizeOf29 (by decide) (AEv.tmp rfl) rfl) ?_
      refine ac0 rfl rfl (op_store (i := 2) (cs' := (api.Conn.ct .no .no { c_ with In := r76.1 })) rfl sizeOf29 (AEv.tmp rfl) (v := .agg (api.Input.ct .no r76.1)) (AEv.tmp rfl) rfl rfl rfl (Nat.le_of_ble_eq_true rfl) rfl ?_)
      refine aops_nil ?_
      obtain ⟨s94, s94e, h95⟩ := bind_some h
      refine aw_meet (ν := Unit) (fun v => [(3, .ptr p67 0), (5, .ptr p68 0), (6, .ptr p69 0), (9, .ptr p78 0), (10, .sl (.own t77) 2 (r76.2.1.map api.Request.av)), (11, .int .i64 r76.2.2)]) (fun v => [(p67, .cells (api.Conn.ct .no .no { c_ with In := r76.1, Asked := s94 })), (p68, .cells (api.Tenant.ct t_)), (p69, .cells [.int .i64 0, .int .i64 0, .str ([] : List UInt8), .sl .full 1 (([] : List (List UInt8)).map AV.str), .int .i64 0, .int .i64 0, .bool false, .int .i64 0, .int .i64 0, .int .i64 0, .sl .full 2 (([] : List api.Held).map api.Held.av), .str ([] : List UInt8), .int .i64 0, .bool false, .bool false]), (p78, .cells (api.Input.ct .no r76.1)), (t77, .spare)]) ?_ ?_
      · have h := s94e
        refine aw_seq ?_
        refine aw_region ?_
        refine ap (.sl (.own t77) 2 (r76.2.1.map api.Request.av)) rfl rfl rfl (pu_move rfl (AEv.tmp rfl)) ?_
        refine ap (.int .i64 (r76.2.1.length : Int)) rfl rfl rfl (pu_lenM rfl underlying30 (AEv.tmp rfl)) ?_
        refine ap (.int .i64 0) rfl rfl rfl (pu_move rfl (AEv.int _ _)) ?_
        refine aops_nil ?_
        refine aw_block ?_
        refine aw_while (σ := conn.Read.S0) (ν := Unit) (conn.Read.body0 r76) (fun s105 v => [(3, .ptr p67 0), (5, .ptr p68 0), (6, .ptr p69 0), (9, .ptr p78 0), (10, .sl (.own t77) 2 (r76.2.1.map api.Request.av)), (11, .int .i64 r76.2.2), (34, .sl (.own t77) 2 (r76.2.1.map api.Request.av)), (35, .int .i64 (r76.2.1.length : Int)), (36, .int .i64 s105.t36)]) (fun s105 v => [(p67, .cells (api.Conn.ct .no .no { c_ with In := r76.1, Asked := s105.c })), (p68, .cells (api.Tenant.ct t_)), (p69, .cells [.int .i64 0, .int .i64 0, .str ([] : List UInt8), .sl .full 1 (([] : List (List UInt8)).map AV.str), .int .i64 0, .int .i64 0, .bool false, .int .i64 0, .int .i64 0, .int .i64 0, .sl .full 2 (([] : List api.Held).map api.Held.av), .str ([] : List UInt8), .int .i64 0, .bool false, .bool false]), (p78, .cells (api.Input.ct .no r76.1)), (t77, .spare)]) ⟨0, c_.Asked⟩ () _ h (Weak.mkL [2, 3, 4, 0, 1] (by decide) ⟨⟨_, rfl, (CellsLe.refl _), rfl⟩, ⟨_, rfl, (CellsLe.refl _), rfl⟩, ⟨_, rfl, (CellsLe.refl _), rfl⟩, ⟨_, rfl, (CellsLe.refl _), rfl⟩, ⟨_, rfl, rfl⟩, trivial⟩ ⟨AEv.tmp rfl, AEv.tmp rfl, AEv.tmp rfl, AEv.tmp rfl, AEv.tmp rfl, AEv.tmp rfl, AEv.tmp rfl, AEv.tmp rfl, AEv.tmp rfl, trivial⟩) ?_
        rintro s105 _ x107 h hx106
        unfold conn.Read.body0 at h
        refine aw_seq ?_
        refine aw_region ?_
        refine ap (.bool (decide (s105.t36 < (r76.2.1.length : Int)))) rfl rfl rfl (pu_int (v := .bool (decide (s105.t36 < (r76.2.1.length : Int)))) rfl rfl (AEv.tmp rfl) (AEv.tmp rfl) rfl) ?_
        refine aops_nil ?_
        refine aw_seq ?_
        refine aw_cond (b := decide (s105.t36 < (r76.2.1.length : Int))) (AEv.tmp rfl) (fun hb111 => ?_) (fun hb111 => ?_)
        · replace h := ite_t (dec_t hb111) h
          refine aw_skip ?_
          refine aw_seq ?_
          refine aw_block ?_
          refine aw_seq ?_
          refine aw_region ?_
          obtain ⟨c109, h⟩ := need_of h
          refine ap (.vptr [.sl .no 1 ((ix r76.2.1 s105.t36).Args.map AV.str), .int .i64 (ix r76.2.1 s105.t36).Size]) rfl rfl rfl (pu_indexAddrM rfl underlying30 sizeOf44 (AEv.tmp rfl) (AEv.tmp rfl) c109 rfl) ?_
          refine ac rfl rfl rfl (op_loadVN rfl isAgg44 sizeOf44 (AEv.tmp rfl) (Nat.le_of_ble_eq_true rfl) rfl ?_)
          refine ac rfl rfl rfl (op_alloc (cs := [.sl .full 1 (([] : List (List UInt8)).map AV.str), .int .i64 0]) (v := .agg [.sl .full 1 (([] : List (List UInt8)).map AV.str), .int .i64 0]) rfl zeroValue44 rfl rfl rfl ?_)
          intro p110
          refine ac0 rfl rfl (op_store (i := 0) (cs' := [.sl .no 1 ((ix r76.2.1 s105.t36).Args.map AV.str), .int .i64 (ix r76.2.1 s105.t36).Size]) rfl sizeOf44 (AEv.tmp rfl) (v := .agg [.sl .no 1 ((ix r76.2.1 s105.t36).Args.map AV.str), .int .i64 (ix r76.2.1 s105.t36).Size]) (AEv.tmp rfl) rfl rfl rfl (Nat.le_of_ble_eq_true rfl) rfl ?_)
          refine aops_nil ?_
          refine aw_region ?_
          refine ap (.ptr p67 9) rfl rfl rfl (pu_fieldAddr rfl underlying56 rfl sizeOf3 (by decide) (AEv.tmp rfl) rfl) ?_
          refine ac rfl rfl rfl (op_load1 (i := 1) rfl isAgg3 (AEv.tmp rfl) rfl rfl ?_)
          refine ap (.ptr p110 1) rfl rfl rfl (pu_fieldAddr rfl underlying44 rfl sizeOf3 (by decide) (AEv.tmp rfl) rfl) ?_
          refine ac rfl rfl rfl (op_load1 (i := 0) rfl isAgg3 (AEv.tmp rfl) rfl rfl ?_)
          refine ap (.int .i64 (IntKind.wrap .i64 (s105.c + (ix r76.2.1 s105.t36).Size))) rfl rfl rfl (pu_int (v := .int .i64 (IntKind.wrap .i64 (s105.c + (ix r76.2.1 s105.t36).Size))) rfl rfl (AEv.tmp rfl) (AEv.tmp rfl) rfl) ?_
          refine ap (.ptr p67 9) rfl rfl rfl (pu_fieldAddr rfl underlying56 rfl sizeOf3 (by decide) (AEv.tmp rfl) rfl) ?_
          refine ac0 rfl rfl (op_store (i := 1) (cs' := (api.Conn.ct .no .no { c_ with In := r76.1, Asked := IntKind.wrap .i64 (s105.c + (ix r76.2.1 s105.t36).Size) })) rfl sizeOf3 (AEv.tmp rfl) (v := .int .i64 (IntKind.wrap .i64 (s105.c + (ix r76.2.1 s105.t36).Size))) (AEv.tmp rfl) rfl rfl rfl (Nat.le_of_ble_eq_true rfl) rfl ?_)
          refine aops_nil ?_
          refine aw_region ?_
          refine ap (.int .i64 (IntKind.wrap .i64 (s105.t36 + 1))) rfl rfl rfl (pu_int (v := .int .i64 (IntKind.wrap .i64 (s105.t36 + 1))) rfl rfl (AEv.tmp rfl) (AEv.int _ _) rfl) ?_
          refine ap (.int .i64 (IntKind.wrap .i64 (s105.t36 + 1))) rfl rfl rfl (pu_move rfl (AEv.tmp rfl)) ?_
          refine aops_nil ?_
          obtain rfl := some_of h
          exact ⟨_, (), rfl, Weak.mkL [1, 2, 3, 4, 5] (by decide) ⟨⟨_, rfl, ⟨(AV.Le.refl _), (AV.Le.refl _), (AV.Le.refl _), (AV.Le.refl _), (AV.Le.refl _), (AV.Le.refl _), (AV.Le.refl _), (AV.Le.refl _), (AV.Le.refl _), (AV.Le.refl _), (AV.Le.refl _), (AV.Le.refl _), (AV.Le.refl _), (AV.Le.refl _), (AV.Le.refl _), trivial⟩, rfl⟩, ⟨_, rfl, (CellsLe.refl _), rfl⟩, ⟨_, rfl, (CellsLe.refl _), rfl⟩, ⟨_, rfl, (CellsLe.refl _), rfl⟩, ⟨_, rfl, rfl⟩, trivial⟩ ⟨AEv.tmp rfl, AEv.tmp rfl, AEv.tmp rfl, AEv.tmp rfl, AEv.tmp rfl, AEv.tmp rfl, AEv.tmp rfl, AEv.tmp rfl, (AEv.le (AEv.tmp rfl) (AV.Le.refl _)), trivial⟩⟩
        · replace h := ite_f (dec_f hb111) h
          refine aw_exit ?_
          obtain rfl := some_of h
          have h := congrArg some (hx106 _ rfl)
          obtain rfl := some_of h
          exact ⟨(), Weak.mkL [0, 1, 2, 3, 4] (by decide) ⟨⟨_, rfl, (CellsLe.refl _), rfl⟩, ⟨_, rfl, (CellsLe.refl _), rfl⟩, ⟨_, rfl, (CellsLe.refl _), rfl⟩, ⟨_, rfl, (CellsLe.refl _), rfl⟩, ⟨_, rfl, rfl⟩, trivial⟩ ⟨AEv.tmp rfl, AEv.tmp rfl, AEv.tmp rfl, AEv.tmp rfl, AEv.tmp rfl, AEv.tmp rfl, trivial⟩⟩
      · intro _
        have h := h95
        refine aw_seq ?_
        refine aw_region ?_
        refine ap (.str ([] : List UInt8)) rfl rfl rfl (pu_assign rfl (AEv.const rfl)) ?_
        refine aops_nil ?_
        obtain ⟨s121, s121e, h122⟩ := letO_of h
        refine aw_meet (ν := Unit) (fun v => [(3, .ptr p67 0), (6, .ptr p69 0), (10, .sl (.own t77) 2 (r76.2.1.map api.Request.av)), (14, .str s121)]) (fun v => [(p67, .cells (api.Conn.ct .no .no { c_ with In := r76.1, Asked := s94 })), (p69, .cells [.int .i64 0, .int .i64 0, .str ([] : List UInt8), .sl .full 1 (([] : List (List UInt8)).map AV.str), .int .i64 0, .int .i64 0, .bool false, .int .i64 0, .int .i64 0, .int .i64 0, .sl .full 2 (([] : List api.Held).map api.Held.av), .str ([] : List UInt8), .int .i64 0, .bool false, .bool false]), (t77, .spare)]) ?_ ?_
        · have h := s121e.symm
          refine aw_block ?_
          refine aw_seq ?_
          refine aw_region ?_
          refine ap (.int .i64 r76.2.2) rfl rfl rfl (pu_move rfl (AEv.tmp rfl)) ?_
          refine ap (.bool (!decide (r76.2.2 = 0))) rfl rfl rfl (pu_int (v := .bool (!decide (r76.2.2 = 0))) rfl rfl (AEv.tmp rfl) (AEv.int _ _) rfl) ?_
          refine ap (.bool (!decide (r76.2.2 = 0))) rfl rfl rfl (pu_assign rfl (AEv.tmp rfl)) ?_
          refine aops_nil ?_
          refine aw_cond (b := (!decide (r76.2.2 = 0))) (AEv.tmp rfl) (fun hb132 => ?_) (fun hb132 => ?_)
          · replace h := ite_f (ndec_t hb132) h
            refine aw_region ?_
            refine ap (.str [69, 82, 82, 32, 80, 114, 111, 116, 111, 99, 111, 108, 32, 101, 114, 114, 111, 114]) rfl rfl rfl (pu_assign rfl (AEv.const rfl)) ?_
            refine aops_nil ?_
            subst h
            exact ⟨(), Weak.mkL [0, 2, 4] (by decide) ⟨⟨_, rfl, (CellsLe.refl _), rfl⟩, ⟨_, rfl, (CellsLe.refl _), rfl⟩, ⟨_, rfl, rfl⟩, trivial⟩ ⟨AEv.tmp rfl, AEv.tmp rfl, AEv.tmp rfl, AEv.tmp rfl, trivial⟩⟩
          · replace h := ite_t (ndec_f hb132) h
            obtain ⟨s126, s126e, h127⟩ := letO_of h
            refine aw_meet (ν := Unit) (fun v => [(3, .ptr p67 0), (6, .ptr p69 0), (10, .sl (.own t77) 2 (r76.2.1.map api.Request.av)), (14, .str ([] : List UInt8)), (50, .bool s126)]) (fun v => [(p67, .cells (api.Conn.ct .no .no { c_ with In := r76.1, Asked := s94 })), (p69, .cells [.int .i64 0, .int .i64 0, .str ([] : List UInt8), .sl .full 1 (([] : List (List UInt8)).map AV.str), .int .i64 0, .int .i64 0, .bool false, .int .i64 0, .int .i64 0, .int .i64 0, .sl .full 2 (([] : List api.Held).map api.Held.av), .str ([] : List UInt8), .int .i64 0, .bool false, .bool false]), (t77, .spare)]) ?_ ?_
            · have h := s126e.symm
              refine aw_region ?_
              refine ap (.ptr p67 9) rfl rfl rfl (pu_fieldAddr rfl underlying56 rfl sizeOf3 (by decide) (AEv.tmp rfl) rfl) ?_
              refine ac rfl rfl rfl (op_load1 (i := 0) rfl isAgg3 (AEv.tmp rfl) rfl rfl ?_)
              refine ap (.ptr p68 5) rfl rfl rfl (pu_fieldAddr rfl underlying53 rfl sizeOf3 (by decide) (AEv.tmp rfl) rfl) ?_
              refine ac rfl rfl rfl (op_load1 (i := 1) rfl isAgg3 (AEv.tmp rfl) rfl rfl ?_)
              refine ap (.bool (decide (t_.In < s94))) rfl rfl rfl (pu_int (v := .bool (decide (t_.In < s94))) rfl rfl (AEv.tmp rfl) (AEv.tmp rfl) rfl) ?_
              refine ap (.bool (decide (t_.In < s94))) rfl rfl rfl (pu_move rfl (AEv.tmp rfl)) ?_
              rcases Bool.eq_false_or_eq_true (decide (t_.In < s94)) with hb129 | hb129
              · replace h := ite_t (dec_t hb129) h
                refine aops_known 56 rfl hb129 ?_
                refine an rfl rfl rfl rfl rfl rfl rfl rfl ?_
                refine an rfl rfl rfl rfl rfl rfl rfl rfl ?_
                refine an rfl rfl rfl rfl rfl rfl rfl rfl ?_
                refine an rfl rfl rfl rfl rfl rfl rfl rfl ?_
                refine an rfl rfl rfl rfl rfl rfl rfl rfl ?_
                refine an rfl rfl rfl rfl rfl rfl rfl rfl ?_
                refine an rfl rfl rfl rfl rfl rfl rfl rfl ?_
                refine an rfl rfl rfl rfl rfl rfl rfl rfl ?_
                refine ap (.bool true) rfl rfl rfl (pu_pick (b := true) rfl (AEv.tmp rfl) (fun _ => (AEv.bool _)) (fun h => nomatch h)) ?_
                refine ap (.bool true) rfl rfl rfl (pu_move rfl (AEv.tmp rfl)) ?_
                refine an rfl rfl rfl rfl rfl rfl rfl rfl ?_
                refine an rfl rfl rfl rfl rfl rfl rfl rfl ?_
                refine an rfl rfl rfl rfl rfl rfl rfl rfl ?_
                refine an rfl rfl rfl rfl rfl rfl rfl rfl ?_
                refine an rfl rfl rfl rfl rfl rfl rfl rfl ?_
                refine an rfl rfl rfl rfl rfl rfl rfl rfl ?_
                refine an rfl rfl rfl rfl rfl rfl rfl rfl ?_
                refine an rfl rfl rfl rfl rfl rfl rfl rfl ?_
                refine an rfl rfl rfl rfl rfl rfl rfl rfl ?_
                refine an rfl rfl rfl rfl rfl rfl rfl rfl ?_
                refine an rfl rfl rfl rfl rfl rfl rfl rfl ?_
                refine an rfl rfl rfl rfl rfl rfl rfl rfl ?_
                refine ap (.bool true) rfl rfl rfl (pu_pick (b := true) rfl (AEv.tmp rfl) (fun _ => (AEv.bool _)) (fun h => nomatch h)) ?_
                refine ap (.bool true) rfl rfl rfl (pu_assign rfl (AEv.tmp rfl)) ?_
                refine aops_nil ?_
                subst h
                exact ⟨(), Weak.mkL [0, 2, 4] (by decide) ⟨⟨_, rfl, (CellsLe.refl _), rfl⟩, ⟨_, rfl, (CellsLe.refl _), rfl⟩, ⟨_, rfl, rfl⟩, trivial⟩ ⟨AEv.tmp rfl, AEv.tmp rfl, AEv.tmp rfl, AEv.tmp rfl, AEv.tmp rfl, trivial⟩⟩
              · replace h := ite_f (dec_f hb129) h
                refine aops_known 56 rfl hb129 ?_
                refine agp (.ptr p78 3) rfl rfl rfl rfl rfl rfl rfl (pu_fieldAddr rfl underlying29 rfl sizeOf3 (by decide) (AEv.tmp rfl) rfl) ?_
                refine ag rfl rfl rfl rfl rfl rfl rfl (op_load1 (i := 3) rfl isAgg3 (AEv.tmp rfl) rfl rfl ?_)
                refine agp (.ptr p68 5) rfl rfl rfl rfl rfl rfl rfl (pu_fieldAddr rfl underlying53 rfl sizeOf3 (by decide) (AEv.tmp rfl) rfl) ?_
                refine ag rfl rfl rfl rfl rfl rfl rfl (op_load1 (i := 1) rfl isAgg3 (AEv.tmp rfl) rfl rfl ?_)
                refine agp (.ptr p67 9) rfl rfl rfl rfl rfl rfl rfl (pu_fieldAddr rfl underlying56 rfl sizeOf3 (by decide) (AEv.tmp rfl) rfl) ?_
                refine ag rfl rfl rfl rfl rfl rfl rfl (op_load1 (i := 0) rfl isAgg3 (AEv.tmp rfl) rfl rfl ?_)
                refine agp (.int .i64 (IntKind.wrap .i64 (t_.In - s94))) rfl rfl rfl rfl rfl rfl rfl (pu_int (v := .int .i64 (IntKind.wrap .i64 (t_.In - s94))) rfl rfl (AEv.tmp rfl) (AEv.tmp rfl) rfl) ?_
                refine agp (.bool (decide ((IntKind.wrap .i64 (t_.In - s94)) < r76.1.Size))) rfl rfl rfl rfl rfl rfl rfl (pu_int (v := .bool (decide ((IntKind.wrap .i64 (t_.In - s94)) < r76.1.Size))) rfl rfl (AEv.tmp rfl) (AEv.tmp rfl) rfl) ?_
                refine ap (.bool (decide ((IntKind.wrap .i64 (t_.In - s94)) < r76.1.Size))) rfl rfl rfl (pu_pick (b := false) rfl (AEv.tmp rfl) (fun h => nomatch h) (fun _ => (AEv.tmp rfl))) ?_
                refine ap (.bool (decide ((IntKind.wrap .i64 (t_.In - s94)) < r76.1.Size))) rfl rfl rfl (pu_move rfl (AEv.tmp rfl)) ?_
                rcases Bool.eq_false_or_eq_true (decide ((IntKind.wrap .i64 (t_.In - s94)) < r76.1.Size)) with hb130 | hb130
                · replace h := ite_t (dec_t hb130) h
                  refine aops_known 66 rfl hb130 ?_
                  refine an rfl rfl rfl rfl rfl rfl rfl rfl ?_
                  refine an rfl rfl rfl rfl rfl rfl rfl rfl ?_
                  refine an rfl rfl rfl rfl rfl rfl rfl rfl ?_
                  refine an rfl rfl rfl rfl rfl rfl rfl rfl ?_
                  refine an rfl rfl rfl rfl rfl rfl rfl rfl ?_
                  refine an rfl rfl rfl rfl rfl rfl rfl rfl ?_
                  refine an rfl rfl rfl rfl rfl rfl rfl rfl ?_
                  refine an rfl rfl rfl rfl rfl rfl rfl rfl ?_
                  refine an rfl rfl rfl rfl rfl rfl rfl rfl ?_
                  refine an rfl rfl rfl rfl rfl rfl rfl rfl ?_
                  refine an rfl rfl rfl rfl rfl rfl rfl rfl ?_
                  refine an rfl rfl rfl rfl rfl rfl rfl rfl ?_
                  refine ap (.bool true) rfl rfl rfl (pu_pick (b := true) rfl (AEv.tmp rfl) (fun _ => (AEv.bool _)) (fun h => nomatch h)) ?_
                  refine ap (.bool true) rfl rfl rfl (pu_assign rfl (AEv.tmp rfl)) ?_
                  refine aops_nil ?_
                  subst h
                  exact ⟨(), Weak.mkL [0, 2, 4] (by decide) ⟨⟨_, rfl, (CellsLe.refl _), rfl⟩, ⟨_, rfl, (CellsLe.refl _), rfl⟩, ⟨_, rfl, rfl⟩, trivial⟩ ⟨AEv.tmp rfl, AEv.tmp rfl, AEv.tmp rfl, AEv.tmp rfl, AEv.tmp rfl, trivial⟩⟩
                · replace h := ite_f (dec_f hb130) h
                  refine aops_known 66 rfl hb130 ?_
                  refine agp (.ptr p78 0) rfl rfl rfl rfl rfl rfl rfl (pu_fieldAddr rfl underlying29 rfl sizeOf9 (by decide) (AEv.tmp rfl) rfl) ?_
                  refine ag rfl rfl rfl rfl rfl rfl rfl (op_load1 (i := 3) rfl isAgg9 (AEv.tmp rfl) rfl rfl ?_)
                  refine agp (.int .i64 (r76.1.Rest.length : Int)) rfl rfl rfl rfl rfl rfl rfl (pu_strLen rfl underlying9 (AEv.tmp rfl)) ?_
                  refine agp (.ptr p68 5) rfl rfl rfl rfl rfl rfl rfl (pu_fieldAddr rfl underlying53 rfl sizeOf3 (by decide) (AEv.tmp rfl) rfl) ?_
                  refine ag rfl rfl rfl rfl rfl rfl rfl (op_load1 (i := 1) rfl isAgg3 (AEv.tmp rfl) rfl rfl ?_)
                  refine agp (.ptr p67 9) rfl rfl rfl rfl rfl rfl rfl (pu_fieldAddr rfl underlying56 rfl sizeOf3 (by decide) (AEv.tmp rfl) rfl) ?_
                  refine ag rfl rfl rfl rfl rfl rfl rfl (op_load1 (i := 0) rfl isAgg3 (AEv.tmp rfl) rfl rfl ?_)
                  refine agp (.int .i64 (IntKind.wrap .i64 (t_.In - s94))) rfl rfl rfl rfl rfl rfl rfl (pu_int (v := .int .i64 (IntKind.wrap .i64 (t_.In - s94))) rfl rfl (AEv.tmp rfl) (AEv.tmp rfl) rfl) ?_
                  refine agp (.ptr p78 3) rfl rfl rfl rfl rfl rfl rfl (pu_fieldAddr rfl underlying29 rfl sizeOf3 (by decide) (AEv.tmp rfl) rfl) ?_
                  refine ag rfl rfl rfl rfl rfl rfl rfl (op_load1 (i := 3) rfl isAgg3 (AEv.tmp rfl) rfl rfl ?_)
                  refine agp (.int .i64 (IntKind.wrap .i64 ((IntKind.wrap .i64 (t_.In - s94)) - r76.1.Size))) rfl rfl rfl rfl rfl rfl rfl (pu_int (v := .int .i64 (IntKind.wrap .i64 ((IntKind.wrap .i64 (t_.In - s94)) - r76.1.Size))) rfl rfl (AEv.tmp rfl) (AEv.tmp rfl) rfl) ?_
                  refine agp (.bool (decide ((IntKind.wrap .i64 ((IntKind.wrap .i64 (t_.In - s94)) - r76.1.Size)) < (r76.1.Rest.length : Int)))) rfl rfl rfl rfl rfl rfl rfl (pu_int (v := .bool (decide ((IntKind.wrap .i64 ((IntKind.wrap .i64 (t_.In - s94)) - r76.1.Size)) < (r76.1.Rest.length : Int)))) rfl rfl (AEv.tmp rfl) (AEv.tmp rfl) rfl) ?_
                  refine ap (.bool (decide ((IntKind.wrap .i64 ((IntKind.wrap .i64 (t_.In - s94)) - r76.1.Size)) < (r76.1.Rest.length : Int)))) rfl rfl rfl (pu_pick (b := false) rfl (AEv.tmp rfl) (fun h => nomatch h) (fun _ => (AEv.tmp rfl))) ?_
                  refine ap (.bool (decide ((IntKind.wrap .i64 ((IntKind.wrap .i64 (t_.In - s94)) - r76.1.Size)) < (r76.1.Rest.length : Int)))) rfl rfl rfl (pu_assign rfl (AEv.tmp rfl)) ?_
                  refine aops_nil ?_
                  subst h
                  exact ⟨(), Weak.mkL [0, 2, 4] (by decide) ⟨⟨_, rfl, (CellsLe.refl _), rfl⟩, ⟨_, rfl, (CellsLe.refl _), rfl⟩, ⟨_, rfl, rfl⟩, trivial⟩ ⟨AEv.tmp rfl, AEv.tmp rfl, AEv.tmp rfl, AEv.tmp rfl, (AEv.le (AEv.tmp rfl) (AV.Le.refl _)), trivial⟩⟩
            · intro _
              have h := h127
              refine aw_cond (b := s126) (AEv.tmp rfl) (fun hb131 => ?_) (fun hb131 => ?_)
              · replace h := ite_t hb131 h
                refine aw_region ?_
                refine ap (.str [69, 82, 82, 32, 105, 110, 112, 117, 116, 32, 98, 117, 102, 102, 101, 114, 32, 105, 115, 32, 102, 117, 108, 108]) rfl rfl rfl (pu_assign rfl (AEv.const rfl)) ?_
                refine aops_nil ?_
                subst h
                exact ⟨(), Weak.mkL [0, 1, 2] (by decide) ⟨⟨_, rfl, (CellsLe.refl _), rfl⟩, ⟨_, rfl, (CellsLe.refl _), rfl⟩, ⟨_, rfl, rfl⟩, trivial⟩ ⟨AEv.tmp rfl, AEv.tmp rfl, AEv.tmp rfl, AEv.tmp rfl, trivial⟩⟩
              · replace h := ite_fb hb131 h
                refine aw_skip ?_
                subst h
                exact ⟨(), Weak.mkL [0, 1, 2] (by decide) ⟨⟨_, rfl, (CellsLe.refl _), rfl⟩, ⟨_, rfl, (CellsLe.refl _), rfl⟩, ⟨_, rfl, rfl⟩, trivial⟩ ⟨AEv.tmp rfl, AEv.tmp rfl, AEv.tmp rfl, AEv.tmp rfl, trivial⟩⟩
        · intro _
          have h := h122
          refine aw_seq ?_
          refine aw_region ?_
          refine ap (.str s121) rfl rfl rfl (pu_move rfl (AEv.tmp rfl)) ?_
          refine ap (.bool (!decide (s121 = ([] : List UInt8)))) rfl rfl rfl (pu_str (v := .bool (!decide (s121 = ([] : List UInt8)))) rfl rfl (AEv.tmp rfl) (AEv.const rfl) rfl) ?_
          refine ap (.ptr p67 13) rfl rfl rfl (pu_fieldAddr rfl underlying56 rfl sizeOf4 (by decide) (AEv.tmp rfl) rfl) ?_
          refine ac0 rfl rfl (op_store (i := 0) (cs' := (api.Conn.ct .no .no { c_ with In := r76.1, Asked := s94, Shut := (!decide (s121 = ([] : List UInt8))) })) rfl sizeOf4 (AEv.tmp rfl) (v := .bool (!decide (s121 = ([] : List UInt8)))) (AEv.tmp rfl) rfl rfl rfl (Nat.le_of_ble_eq_true rfl) rfl ?_)
          refine aops_nil ?_
          refine aw_seq ?_
          refine aw_region ?_
          refine ac rfl rfl rfl (op_loadN (i := 0) rfl isAgg56 sizeOf56 (AEv.tmp rfl) rfl (Nat.le_of_ble_eq_true rfl) rfl ?_)
          refine ap (.sl (.own t77) 2 (r76.2.1.map api.Request.av)) rfl rfl rfl (pu_move rfl (AEv.tmp rfl)) ?_
          refine ap (.str s121) rfl rfl rfl (pu_move rfl (AEv.tmp rfl)) ?_
          refine ac0 rfl rfl (op_store (i := 1) (cs' := (api.Conn.ct .no .no { c_ with In := r76.1, Asked := s94, Shut := (!decide (s121 = ([] : List UInt8))) })) rfl sizeOf56 (AEv.tmp rfl) (v := .agg (api.Conn.ct .no .no { c_ with In := r76.1, Asked := s94, Shut := (!decide (s121 = ([] : List UInt8))) })) (AEv.tmp rfl) rfl rfl rfl (Nat.le_of_ble_eq_true rfl) rfl ?_)
          refine ap (.sl (.own t77) 2 (r76.2.1.map api.Request.av)) rfl rfl rfl (pu_assign rfl (AEv.tmp rfl)) ?_
          refine ap (.str s121) rfl rfl rfl (pu_assign rfl (AEv.tmp rfl)) ?_
          refine aops_nil ?_
          refine aw_ret ?_
          obtain rfl := some_of h
          exact ⟨[.agg (api.Conn.ct .no .no { c_ with In := r76.1, Asked := s94, Shut := (!decide (s121 = ([] : List UInt8))) }), .sl (.own t77) 2 (r76.2.1.map api.Request.av), .str s121], .tup [.agg (api.Conn.ct .no .no { c_ with In := r76.1, Asked := s94, Shut := (!decide (s121 = ([] : List UInt8))) }), .sl (.own t77) 2 (r76.2.1.map api.Request.av), .str s121], [(t77, .spare)], ⟨(CellOk.agg 1 (AEv.tmp rfl) rfl isAgg56 sizeOf56 (Nat.le_of_ble_eq_true rfl) rfl), (AEv.tmp rfl), (AEv.tmp rfl), trivial⟩, (AV.Le.tup (CellsLe.refl _)), Weak.mkL [2] (by decide) ⟨⟨_, rfl, rfl⟩, trivial⟩ trivial, ⟨t77, rfl, rfl⟩⟩

end Go.Pu
