/- Printed by lift.py: the functions come to them. -/
import Derived.Test.YtfapgollkabopaaPCK0
set_option maxRecDepth 100000
set_option maxHeartbeats 0
namespace Go.Pu
open Go.Lift Go.Proofs.Try Go.RowKit Go.Proofs

theorem slices.IndexFunc_string_parse_parser_line_1.ok {s_ : List (List UInt8)} {b1_ : parse.parser} {r : Int} (h : slices.IndexFunc_string_parse_parser_line_1 s_ b1_ = some r) (o0 o1 q0 q1 : Nat) : Go.Lift.Spec prog 100 [.sl .no 1 (s_.map AV.str), .fn 90 [.ptr o0 0]] [(o0, .cells [.ptr o1 0]), (o1, .cells (parse.parser.ct (.own q0) (.own q1) b1_)), (q0, .spare), (q1, .spare)] (fun v H => ∃ n0 n1, v = .int .i64 r ∧ H = [(o0, .cells [.ptr o1 0]), (o1, .cells (parse.parser.ct (.own n0) (.own n1) b1_)), (n0, .spare), (n1, .spare)]) := by
  unfold slices.IndexFunc_string_parse_parser_line_1 at h
  refine Go.Lift.Spec.of_body (rs := [.tmp 4]) func100 rfl rfl (Nat.le_of_ble_eq_true rfl) rfl ?_
  refine aw_seq ?_
  refine aw_region ?_
  refine ap (.int .i64 0) rfl rfl rfl (pu_assign rfl (AEv.int _ _)) ?_
  refine aops_nil ?_
  obtain ⟨s124, s124e, h94⟩ := bind_some h
  refine aw_join (σ := Unit) (ν := Nat × Nat) (fun u v => []) (fun u v => [(o0, .cells [.ptr o1 0]), (o1, .cells (parse.parser.ct (.own v.1) (.own v.2) b1_)), (v.1, .spare), (v.2, .spare)]) (fun u => s124 = .inl u) ?_ ?_
  · intro s91
    rintro ⟨n92, n93⟩
    rintro rfl
    have h := onSum_inl h94
    refine aw_seq ?_
    refine aw_region ?_
    refine ap (.int .i64 (-1)) rfl rfl rfl (pu_assign rfl (AEv.int _ _)) ?_
    refine aops_nil ?_
    refine aw_ret ?_
    obtain rfl := some_of h
    exact ⟨[.int .i64 (-1)], _, [(o0, .cells [.ptr o1 0]), (o1, .cells (parse.parser.ct (.own n92) (.own n93) b1_)), (n92, .spare), (n93, .spare)], ⟨(AEv.tmp rfl), trivial⟩, (AV.Le.refl _), Weak.mkL [0, 1, 2, 3] (by decide) ⟨⟨_, rfl, ⟨(AV.Le.refl _), trivial⟩, rfl⟩, ⟨_, rfl, (CellsLe.refl _), rfl⟩, ⟨_, rfl, rfl⟩, ⟨_, rfl, rfl⟩, trivial⟩ trivial, ⟨n92, n93, rfl, rfl⟩⟩
  · have h := s124e
    refine aw_seq ?_
    refine aw_region ?_
    refine ap (.sl .no 1 (s_.map AV.str)) rfl rfl rfl (pu_move rfl (AEv.tmp rfl)) ?_
    refine ap (.int .i64 (s_.length : Int)) rfl rfl rfl (pu_lenM rfl underlying26 (AEv.tmp rfl)) ?_
    refine ap (.int .i64 0) rfl rfl rfl (pu_move rfl (AEv.int _ _)) ?_
    refine aops_nil ?_
    refine aw_block ?_
    refine aw_while (σ := slices.IndexFunc_string_parse_parser_line_1.S0) (ν := Nat × Nat) (slices.IndexFunc_string_parse_parser_line_1.body0 s_ b1_) (fun s112 v => [(0, .sl .no 1 (s_.map AV.str)), (1, .fn 90 [.ptr o0 0]), (7, .int .i64 (s_.length : Int)), (8, .int .i64 s112.t8)]) (fun s112 v => [(o0, .cells [.ptr o1 0]), (o1, .cells (parse.parser.ct (.own v.1) (.own v.2) b1_)), (v.1, .spare), (v.2, .spare)]) ⟨0⟩ (q0, q1) _ h (Weak.mkL [0, 1, 2, 3] (by decide) ⟨⟨_, rfl, ⟨(AV.Le.refl _), trivial⟩, rfl⟩, ⟨_, rfl, (CellsLe.refl _), rfl⟩, ⟨_, rfl, rfl⟩, ⟨_, rfl, rfl⟩, trivial⟩ ⟨AEv.tmp rfl, AEv.tmp rfl, AEv.tmp rfl, AEv.tmp rfl, trivial⟩) ?_
    rintro s112 ⟨n113, n114⟩ x116 h hx115
    unfold slices.IndexFunc_string_parse_parser_line_1.body0 at h
    refine aw_seq ?_
    refine aw_region ?_
    refine ap (.bool (decide (s112.t8 < (s_.length : Int)))) rfl rfl rfl (pu_int (v := .bool (decide (s112.t8 < (s_.length : Int)))) rfl rfl (AEv.tmp rfl) (AEv.tmp rfl) rfl) ?_
    refine aops_nil ?_
    refine aw_seq ?_
    refine aw_cond (b := decide (s112.t8 < (s_.length : Int))) (AEv.tmp rfl) (fun hb123 => ?_) (fun hb123 => ?_)
    · replace h := ite_t (dec_t hb123) h
      refine aw_skip ?_
      refine aw_seq ?_
      refine aw_block ?_
      refine aw_seq ?_
      refine aw_region ?_
      refine ap (.int .i64 s112.t8) rfl rfl rfl (pu_move rfl (AEv.tmp rfl)) ?_
      refine ap (.int .i64 s112.t8) rfl rfl rfl (pu_assign rfl (AEv.tmp rfl)) ?_
      refine aops_nil ?_
      refine aw_seq ?_
      refine aw_region ?_
      refine ap (.fn 90 [.ptr o0 0]) rfl rfl rfl (pu_move rfl (AEv.tmp rfl)) ?_
      refine ap (.sl .no 1 (s_.map AV.str)) rfl rfl rfl (pu_move rfl (AEv.tmp rfl)) ?_
      refine ap (.int .i64 s112.t8) rfl rfl rfl (pu_move rfl (AEv.tmp rfl)) ?_
      obtain ⟨c118, h⟩ := need_of h
      refine ap (.vptr [.str (ix s_ s112.t8)]) rfl rfl rfl (pu_indexAddrM rfl underlying26 sizeOf9 (AEv.tmp rfl) (AEv.tmp rfl) c118 rfl) ?_
      refine ac rfl rfl rfl (op_loadV1 rfl isAgg9 (AEv.tmp rfl) rfl ?_)
      obtain ⟨r119, r119e, h⟩ := bind_some h
      refine ac rfl rfl rfl (op_callV (vs := [.str (ix s_ s112.t8)]) (H := [(o0, .cells [.ptr o1 0]), (o1, .cells (parse.parser.ct (.own n113) (.own n114) b1_)), (n113, .spare), (n114, .spare)]) rfl (AEv.tmp rfl) call90 ⟨(AEv.tmp rfl), trivial⟩ (List.Perm.refl _) (parse.parser.line_1.ok r119e o0 o1 n113 n114) ?_)
      rintro _ _ ⟨t120, t121, rfl, rfl⟩
      refine aops_nil ?_
      refine aw_cond (b := r119) (AEv.tmp rfl) (fun hb122 => ?_) (fun hb122 => ?_)
      · replace h := ite_t hb122 h
        refine aw_seq ?_
        refine aw_region ?_
        refine ap (.int .i64 s112.t8) rfl rfl rfl (pu_move rfl (AEv.tmp rfl)) ?_
        refine ap (.int .i64 s112.t8) rfl rfl rfl (pu_assign rfl (AEv.tmp rfl)) ?_
        refine aops_nil ?_
        refine aw_ret ?_
        obtain rfl := some_of h
        have h := congrArg some (hx115 _ rfl)
        obtain rfl := some_of h
        have h := onSum_inr h94
        obtain rfl := some_of h
        exact ⟨[.int .i64 s112.t8], _, [(o0, .cells [.ptr o1 0]), (o1, .cells (parse.parser.ct (.own t120) (.own t121) b1_)), (t120, .spare), (t121, .spare)], ⟨(AEv.tmp rfl), trivial⟩, (AV.Le.refl _), Weak.mkL [0, 1, 2, 3] (by decide) ⟨⟨_, rfl, ⟨(AV.Le.refl _), trivial⟩, rfl⟩, ⟨_, rfl, (CellsLe.refl _), rfl⟩, ⟨_, rfl, rfl⟩, ⟨_, rfl, rfl⟩, trivial⟩ trivial, ⟨t120, t121, rfl, rfl⟩⟩
      · replace h := ite_fb hb122 h
        refine aw_skip ?_
        refine aw_region ?_
        refine ap (.int .i64 (IntKind.wrap .i64 (s112.t8 + 1))) rfl rfl rfl (pu_int (v := .int .i64 (IntKind.wrap .i64 (s112.t8 + 1))) rfl rfl (AEv.tmp rfl) (AEv.int _ _) rfl) ?_
        refine ap (.int .i64 (IntKind.wrap .i64 (s112.t8 + 1))) rfl rfl rfl (pu_move rfl (AEv.tmp rfl)) ?_
        refine aops_nil ?_
        obtain rfl := some_of h
        exact ⟨_, (t120, t121), rfl, Weak.mkL [0, 1, 2, 3] (by decide) ⟨⟨_, rfl, ⟨(AV.Le.refl _), trivial⟩, rfl⟩, ⟨_, rfl, (CellsLe.refl _), rfl⟩, ⟨_, rfl, rfl⟩, ⟨_, rfl, rfl⟩, trivial⟩ ⟨AEv.tmp rfl, AEv.tmp rfl, AEv.tmp rfl, (AEv.le (AEv.tmp rfl) (AV.Le.refl _)), trivial⟩⟩
    · replace h := ite_f (dec_f hb123) h
      refine aw_exit ?_
      obtain rfl := some_of h
      have h := congrArg some (hx115 _ rfl)
      exact ⟨(), (n113, n114), (some_of h).symm, Weak.mkL [0, 1, 2, 3] (by decide) ⟨⟨_, rfl, ⟨(AV.Le.refl _), trivial⟩, rfl⟩, ⟨_, rfl, (CellsLe.refl _), rfl⟩, ⟨_, rfl, rfl⟩, ⟨_, rfl, rfl⟩, trivial⟩ trivial⟩

theorem slices.ContainsFunc_string_parse_parser_line_1.ok {s_ : List (List UInt8)} {b1_ : parse.parser} {r : Bool} (h : slices.ContainsFunc_string_parse_parser_line_1 s_ b1_ = some r) (o0 o1 q0 q1 : Nat) : Go.Lift.Spec prog 91 [.sl .no 1 (s_.map AV.str), .fn 90 [.ptr o0 0]] [(o0, .cells [.ptr o1 0]), (o1, .cells (parse.parser.ct (.own q0) (.own q1) b1_)), (q0, .spare), (q1, .spare)] (fun v H => ∃ n0 n1, v = .bool r ∧ H = [(o0, .cells [.ptr o1 0]), (o1, .cells (parse.parser.ct (.own n0) (.own n1) b1_)), (n0, .spare), (n1, .spare)]) := by
  unfold slices.ContainsFunc_string_parse_parser_line_1 at h
  refine Go.Lift.Spec.of_body (rs := [.tmp 4]) func91 rfl rfl (Nat.le_of_ble_eq_true rfl) rfl ?_
  refine aw_seq ?_
  refine aw_region ?_
  refine ap (.bool false) rfl rfl rfl (pu_assign rfl (AEv.bool _)) ?_
  refine aops_nil ?_
  refine aw_seq ?_
  refine aw_region ?_
  refine ap (.sl .no 1 (s_.map AV.str)) rfl rfl rfl (pu_move rfl (AEv.tmp rfl)) ?_
  refine ap (.fn 90 [.ptr o0 0]) rfl rfl rfl (pu_move rfl (AEv.tmp rfl)) ?_
  obtain ⟨r4, r4e, h⟩ := bind_some h
  refine ac rfl rfl rfl (op_call (vs := [.sl .no 1 (s_.map AV.str), .fn 90 [.ptr o0 0]]) (H := [(o0, .cells [.ptr o1 0]), (o1, .cells (parse.parser.ct (.own q0) (.own q1) b1_)), (q0, .spare), (q1, .spare)]) rfl call100 ⟨(AEv.tmp rfl), (AEv.tmp rfl), trivial⟩ (List.Perm.refl _) (slices.IndexFunc_string_parse_parser_line_1.ok r4e o0 o1 q0 q1) ?_)
  rintro _ _ ⟨t5, t6, rfl, rfl⟩
  refine ap (.bool (decide (0 ≤ r4))) rfl rfl rfl (pu_int (v := .bool (decide (0 ≤ r4))) rfl rfl (AEv.tmp rfl) (AEv.int _ _) rfl) ?_
  refine ap (.bool (decide (0 ≤ r4))) rfl rfl rfl (pu_assign rfl (AEv.tmp rfl)) ?_
  refine aops_nil ?_
  refine aw_ret ?_
  obtain rfl := some_of h
  exact ⟨[.bool (decide (0 ≤ r4))], _, [(o0, .cells [.ptr o1 0]), (o1, .cells (parse.parser.ct (.own t5) (.own t6) b1_)), (t5, .spare), (t6, .spare)], ⟨(AEv.tmp rfl), trivial⟩, (AV.Le.refl _), Weak.mkL [0, 1, 2, 3] (by decide) ⟨⟨_, rfl, ⟨(AV.Le.refl _), trivial⟩, rfl⟩, ⟨_, rfl, (CellsLe.refl _), rfl⟩, ⟨_, rfl, rfl⟩, ⟨_, rfl, rfl⟩, trivial⟩ trivial, ⟨t5, t6, rfl, rfl⟩⟩

theorem parse.parser.line.ok {p_ : parse.parser} {r : Bool × parse.parser} (h : parse.parser.line p_ = some r) (o0 q0 q1 : Nat) : Go.Lift.Spec prog 75 [.ptr o0 0] [(o0, .cells (parse.parser.ct (.own q0) (.own q1) p_)), (q0, .spare), (q1, .spare)] (fun v H => ∃ n0 n1, v = .bool r.1 ∧ H = [(o0, .cells [.str r.2.in_.Rest, .sl (.own n0) 1 (r.2.in_.Args.map AV.str), .int .i64 r.2.in_.Left, .int .i64 r.2.in_.Size, .bool r.2.in_.Body, .int .i64 r.2.in_.Need, .int .i64 r.2.in_.Dead, .str r.2.s, .int .i64 r.2.l.Args, .int .i64 r.2.l.Bulk, .int .i64 r.2.l.Line, .sl (.own n1) 2 (r.2.out.map api.Request.av)]), (n0, .spare), (n1, .spare)]) := by
  unfold parse.parser.line at h
  refine Go.Lift.Spec.of_body (rs := [.tmp 2]) func75 rfl rfl (Nat.le_of_ble_eq_true rfl) rfl ?_
  refine aw_seq ?_
  refine aw_region ?_
  refine ac rfl rfl rfl (op_box (cs := [.ptr o0 0]) (v := .ptr o0 0) rfl (AEv.tmp rfl) rfl rfl ?_)
  intro p35
  refine ap (.bool false) rfl rfl rfl (pu_assign rfl (AEv.bool _)) ?_
  refine aops_nil ?_
  refine aw_seq ?_
  refine aw_region ?_
  refine ac rfl rfl rfl (op_load1 (i := 0) rfl isAgg91 (AEv.tmp rfl) rfl rfl ?_)
  refine ap (.ptr o0 0) rfl rfl rfl (pu_nilCheck rfl (AEv.tmp rfl) rfl) ?_
  refine ap (.ptr o0 7) rfl rfl rfl (pu_fieldAddr rfl underlying93 rfl sizeOf9 (by decide) (AEv.tmp rfl) rfl) ?_
  refine ac rfl rfl rfl (op_load1 (i := 1) rfl isAgg9 (AEv.tmp rfl) rfl rfl ?_)
  obtain ⟨r36, r36e, h⟩ := bind_some h
  refine ac rfl rfl rfl (op_call (vs := [.str p_.s, .int .u8 10]) (H := []) rfl call87 ⟨(AEv.tmp rfl), (AEv.int _ _), trivial⟩ (List.Perm.refl _) (strings.IndexByte.ok r36e) ?_)
  rintro _ _ ⟨rfl, rfl⟩
  refine ap (.int .i64 r36) rfl rfl rfl (pu_assign rfl (AEv.tmp rfl)) ?_
  refine aops_nil ?_
  refine aw_seq ?_
  obtain ⟨s39, s39e, h40⟩ := letO_of h
  refine aw_meet (ν := Unit) (fun v => [(1, .ptr p35 0), (3, .int .i64 r36), (35, .bool s39)]) (fun v => [(p35, .cells [.ptr o0 0]), (o0, .cells (parse.parser.ct (.own q0) (.own q1) p_)), (q0, .spare), (q1, .spare)]) ?_ ?_
  · have h := s39e.symm
    rcases Bool.eq_false_or_eq_true (decide (r36 < 0)) with hb42 | hb42
    · replace h := ite_t (dec_t hb42) h
      rcases Bool.eq_false_or_eq_true (decide (p_.l.Line < (p_.s.length : Int))) with hb43 | hb43
      · replace h := ite_t (dec_t hb43) h
        refine aw_plan (by decide +kernel) [([], some 12, [3]), ([0], some 13, [12]), ([1], some 14, [13]), ([2], some 15, [1, 14]), ([3, 2], some 16, [15, 14]), ([4, 2], some 17, [16, 14]), ([5, 2], some 18, [17, 14]), ([6, 2], some 19, [18, 14]), ([2], some 20, [1, 14]), ([8, 2], some 21, [20, 14]), ([9, 2], some 22, [21, 14]), ([10, 2], some 23, [22, 14]), ([11, 2], some 24, [23, 14]), ([7, 12, 2], some 25, [19, 24, 14]), ([2, 13], some 26, [14, 25]), ([14, 2], some 27, [26]), ([15], some 28, [3, 27]), ([15], some 29, [1, 27]), ([17, 15], some 30, [29, 27]), ([18, 15], some 31, [30, 27]), ([19, 15], some 32, [31, 27]), ([20, 15], some 33, [32, 27]), ([16, 21, 15], some 34, [28, 33, 27]), ([15, 22], some 35, [27, 34])] rfl [[], [0], [0, 1], [0, 1, 2], [0, 1, 2, 3], [0, 1, 2, 3, 4], [0, 1, 2, 3, 4, 5], [0, 1, 2, 3, 4, 5, 6], [0, 1, 2], [0, 1, 2, 8], [0, 1, 2, 8, 9], [0, 1, 2, 8, 9, 10], [0, 1, 2, 8, 9, 10, 11], [0, 1, 2, 3, 4, 5, 6, 7, 8, 9, 10, 11, 12], [0, 1, 2, 3, 4, 5, 6, 7, 8, 9, 10, 11, 12, 13], [0, 1, 2, 3, 4, 5, 6, 7, 8, 9, 10, 11, 12, 13, 14], [0, 1, 2, 3, 4, 5, 6, 7, 8, 9, 10, 11, 12, 13, 14, 15], [0, 1, 2, 3, 4, 5, 6, 7, 8, 9, 10, 11, 12, 13, 14, 15], [0, 1, 2, 3, 4, 5, 6, 7, 8, 9, 10, 11, 12, 13, 14, 15, 17], [0, 1, 2, 3, 4, 5, 6, 7, 8, 9, 10, 11, 12, 13, 14, 15, 17, 18], [0, 1, 2, 3, 4, 5, 6, 7, 8, 9, 10, 11, 12, 13, 14, 15, 17, 18, 19], [0, 1, 2, 3, 4, 5, 6, 7, 8, 9, 10, 11, 12, 13, 14, 15, 17, 18, 19, 20], [0, 1, 2, 3, 4, 5, 6, 7, 8, 9, 10, 11, 12, 13, 14, 15, 16, 17, 18, 19, 20, 21], [0, 1, 2, 3, 4, 5, 6, 7, 8, 9, 10, 11, 12, 13, 14, 15, 16, 17, 18, 19, 20, 21, 22]] [[], [], [], [(0, 0, false)], [], [], [(1, 0, false)], [], [(0, 0, false)], [], [], [], [(1, 0, false)], [], [], [], [], [], [], [], [], [], [], []] [[], [], [], []] [[[(p35, .cells [.ptr o0 0])]], [[(o0, .cells (parse.parser.ct (.own q0) (.own q1) p_))]], [[(q0, .spare)]], [[(q1, .spare)]]] [.int .i64 r36, .bool (decide (r36 < 0)), .bool true, .ptr o0 0, .ptr o0 0, .ptr o0 7, .str p_.s, .int .i64 (p_.s.length : Int), .ptr o0 0, .ptr o0 0, .ptr o0 8, .ptr o0 10, .int .i64 p_.l.Line, .bool (decide (p_.l.Line < (p_.s.length : Int))), .bool (decide (p_.l.Line < (p_.s.length : Int))), .bool true, .lit undef, .lit undef, .lit undef, .lit undef, .lit undef, .lit undef, .lit undef, .bool true] (by decide +kernel) rfl rfl ?_ ?_
        · refine ⟨⟨[3], rfl, stepg_pure rfl (pu_move rfl (AEv.tmp rfl))⟩, ?_⟩
          refine ⟨⟨[12], rfl, stepg_pure rfl (pu_int (v := .bool (decide (r36 < 0))) rfl rfl (AEv.tmp rfl) (AEv.int _ _) rfl)⟩, ?_⟩
          refine ⟨⟨[13], rfl, (stepg_pure rfl (pu_move rfl (AEv.tmp rfl))).cast (congrArg AV.bool hb42)⟩, ?_⟩
          refine ⟨⟨[1, 14], rfl, stepg_guard rfl rfl rfl (by decide) rfl (op_load1 (i := 0) rfl isAgg91 (AEv.tmp rfl) rfl rfl ⟨rfl, rfl⟩)⟩, ?_⟩
          refine ⟨⟨[14, 15], rfl, stepg_guardP rfl rfl rfl (by decide) rfl (pu_nilCheck rfl (AEv.tmp rfl) rfl)⟩, ?_⟩
          refine ⟨⟨[14, 16], rfl, stepg_guardP rfl rfl rfl (by decide) rfl (pu_fieldAddr rfl underlying93 rfl sizeOf9 (by decide) (AEv.tmp rfl) rfl)⟩, ?_⟩
          refine ⟨⟨[14, 17], rfl, stepg_guard rfl rfl rfl (by decide) rfl (op_load1 (i := 0) rfl isAgg9 (AEv.tmp rfl) rfl rfl ⟨rfl, rfl⟩)⟩, ?_⟩
          refine ⟨⟨[14, 18], rfl, stepg_guardP rfl rfl rfl (by decide) rfl (pu_strLen rfl underlying9 (AEv.tmp rfl))⟩, ?_⟩
          refine ⟨⟨[1, 14], rfl, stepg_guard rfl rfl rfl (by decide) rfl (op_load1 (i := 0) rfl isAgg91 (AEv.tmp rfl) rfl rfl ⟨rfl, rfl⟩)⟩, ?_⟩
          refine ⟨⟨[14, 20], rfl, stepg_guardP rfl rfl rfl (by decide) rfl (pu_nilCheck rfl (AEv.tmp rfl) rfl)⟩, ?_⟩
          refine ⟨⟨[14, 21], rfl, stepg_guardP rfl rfl rfl (by decide) rfl (pu_fieldAddr rfl underlying93 rfl sizeOf23 (by decide) (AEv.tmp rfl) rfl)⟩, ?_⟩
          refine ⟨⟨[14, 22], rfl, stepg_guardP rfl rfl rfl (by decide) rfl (pu_fieldAddr rfl underlying23 rfl sizeOf3 (by decide) (AEv.tmp rfl) rfl)⟩, ?_⟩
          refine ⟨⟨[14, 23], rfl, stepg_guard rfl rfl rfl (by decide) rfl (op_load1 (i := 0) rfl isAgg3 (AEv.tmp rfl) rfl rfl ⟨rfl, rfl⟩)⟩, ?_⟩
          refine ⟨⟨[14, 19, 24], rfl, stepg_guardP rfl rfl rfl (by decide) rfl (pu_int (v := .bool (decide (p_.l.Line < (p_.s.length : Int)))) rfl rfl (AEv.tmp rfl) (AEv.tmp rfl) rfl)⟩, ?_⟩
          refine ⟨⟨[14, 25], rfl, stepg_pure rfl (pu_pick (b := true) rfl (AEv.tmp rfl) (fun _ => (AEv.tmp rfl)) (fun h => nomatch h))⟩, ?_⟩
          refine ⟨⟨[26], rfl, (stepg_pure rfl (pu_move rfl (AEv.tmp rfl))).cast (congrArg AV.bool hb43)⟩, ?_⟩
          refine ⟨⟨[3, 27], rfl, stepg_pass rfl rfl rfl (by decide) rfl (by decide)⟩, ?_⟩
          refine ⟨⟨[1, 27], rfl, stepg_pass rfl rfl rfl (by decide) rfl (by decide)⟩, ?_⟩
          refine ⟨⟨[27, 29], rfl, stepg_pass rfl rfl rfl (by decide) rfl (by decide)⟩, ?_⟩
          refine ⟨⟨[27, 30], rfl, stepg_pass rfl rfl rfl (by decide) rfl (by decide)⟩, ?_⟩
          refine ⟨⟨[27, 31], rfl, stepg_pass rfl rfl rfl (by decide) rfl (by decide)⟩, ?_⟩
          refine ⟨⟨[27, 32], rfl, stepg_pass rfl rfl rfl (by decide) rfl (by decide)⟩, ?_⟩
          refine ⟨⟨[27, 28, 33], rfl, stepg_pass rfl rfl rfl (by decide) rfl (by decide)⟩, ?_⟩
          refine ⟨⟨[27, 34], rfl, stepg_pure rfl (pu_pick (b := true) rfl (AEv.tmp rfl) (fun _ => (AEv.bool _)) (fun h => nomatch h))⟩, ?_⟩
          trivial
        subst h
        exact ⟨(), Weak.mkL [0, 1, 2, 3] (by decide) ⟨⟨_, rfl, ⟨(AV.Le.refl _), trivial⟩, rfl⟩, ⟨_, rfl, (CellsLe.refl _), rfl⟩, ⟨_, rfl, rfl⟩, ⟨_, rfl, rfl⟩, trivial⟩ ⟨AEv.tmp rfl, AEv.tmp rfl, AEv.tmp rfl, trivial⟩⟩
      · replace h := ite_f (dec_f hb43) h
        refine aw_plan (by decide +kernel) [([], some 12, [3]), ([0], some 13, [12]), ([1], some 14, [13]), ([2], some 15, [1, 14]), ([3, 2], some 16, [15, 14]), ([4, 2], some 17, [16, 14]), ([5, 2], some 18, [17, 14]), ([6, 2], some 19, [18, 14]), ([2], some 20, [1, 14]), ([8, 2], some 21, [20, 14]), ([9, 2], some 22, [21, 14]), ([10, 2], some 23, [22, 14]), ([11, 2], some 24, [23, 14]), ([7, 12, 2], some 25, [19, 24, 14]), ([2, 13], some 26, [14, 25]), ([14, 2], some 27, [26]), ([15], some 28, [3, 27]), ([15], some 29, [1, 27]), ([17, 15], some 30, [29, 27]), ([18, 15], some 31, [30, 27]), ([19, 15], some 32, [31, 27]), ([20, 15], some 33, [32, 27]), ([16, 21, 15], some 34, [28, 33, 27]), ([15, 22], some 35, [27, 34])] rfl [[], [0], [0, 1], [0, 1, 2], [0, 1, 2, 3], [0, 1, 2, 3, 4], [0, 1, 2, 3, 4, 5], [0, 1, 2, 3, 4, 5, 6], [0, 1, 2], [0, 1, 2, 8], [0, 1, 2, 8, 9], [0, 1, 2, 8, 9, 10], [0, 1, 2, 8, 9, 10, 11], [0, 1, 2, 3, 4, 5, 6, 7, 8, 9, 10, 11, 12], [0, 1, 2, 3, 4, 5, 6, 7, 8, 9, 10, 11, 12, 13], [0, 1, 2, 3, 4, 5, 6, 7, 8, 9, 10, 11, 12, 13, 14], [0, 1, 2, 3, 4, 5, 6, 7, 8, 9, 10, 11, 12, 13, 14, 15], [0, 1, 2, 3, 4, 5, 6, 7, 8, 9, 10, 11, 12, 13, 14, 15], [0, 1, 2, 3, 4, 5, 6, 7, 8, 9, 10, 11, 12, 13, 14, 15, 17], [0, 1, 2, 3, 4, 5, 6, 7, 8, 9, 10, 11, 12, 13, 14, 15, 17, 18], [0, 1, 2, 3, 4, 5, 6, 7, 8, 9, 10, 11, 12, 13, 14, 15, 17, 18, 19], [0, 1, 2, 3, 4, 5, 6, 7, 8, 9, 10, 11, 12, 13, 14, 15, 17, 18, 19, 20], [0, 1, 2, 3, 4, 5, 6, 7, 8, 9, 10, 11, 12, 13, 14, 15, 16, 17, 18, 19, 20, 21], [0, 1, 2, 3, 4, 5, 6, 7, 8, 9, 10, 11, 12, 13, 14, 15, 16, 17, 18, 19, 20, 21, 22]] [[], [], [], [(0, 0, false)], [], [], [(1, 0, false)], [], [(0, 0, false)], [], [], [], [(1, 0, false)], [], [], [], [], [(0, 0, false)], [], [], [], [(1, 0, false)], [], []] [[], [], [], []] [[[(p35, .cells [.ptr o0 0])]], [[(o0, .cells (parse.parser.ct (.own q0) (.own q1) p_))]], [[(q0, .spare)]], [[(q1, .spare)]]] [.int .i64 r36, .bool (decide (r36 < 0)), .bool true, .ptr o0 0, .ptr o0 0, .ptr o0 7, .str p_.s, .int .i64 (p_.s.length : Int), .ptr o0 0, .ptr o0 0, .ptr o0 8, .ptr o0 10, .int .i64 p_.l.Line, .bool (decide (p_.l.Line < (p_.s.length : Int))), .bool (decide (p_.l.Line < (p_.s.length : Int))), .bool false, .int .i64 r36, .ptr o0 0, .ptr o0 0, .ptr o0 8, .ptr o0 10, .int .i64 p_.l.Line, .bool (decide (p_.l.Line < r36)), .bool (decide (p_.l.Line < r36))] (by decide +kernel) rfl rfl ?_ ?_
        · refine ⟨⟨[3], rfl, stepg_pure rfl (pu_move rfl (AEv.tmp rfl))⟩, ?_⟩
          refine ⟨⟨[12], rfl, stepg_pure rfl (pu_int (v := .bool (decide (r36 < 0))) rfl rfl (AEv.tmp rfl) (AEv.int _ _) rfl)⟩, ?_⟩
          refine ⟨⟨[13], rfl, (stepg_pure rfl (pu_move rfl (AEv.tmp rfl))).cast (congrArg AV.bool hb42)⟩, ?_⟩
          refine ⟨⟨[1, 14], rfl, stepg_guard rfl rfl rfl (by decide) rfl (op_load1 (i := 0) rfl isAgg91 (AEv.tmp rfl) rfl rfl ⟨rfl, rfl⟩)⟩, ?_⟩
          refine ⟨⟨[14, 15], rfl, stepg_guardP rfl rfl rfl (by decide) rfl (pu_nilCheck rfl (AEv.tmp rfl) rfl)⟩, ?_⟩
          refine ⟨⟨[14, 16], rfl, stepg_guardP rfl rfl rfl (by decide) rfl (pu_fieldAddr rfl underlying93 rfl sizeOf9 (by decide) (AEv.tmp rfl) rfl)⟩, ?_⟩
          refine ⟨⟨[14, 17], rfl, stepg_guard rfl rfl rfl (by decide) rfl (op_load1 (i := 0) rfl isAgg9 (AEv.tmp rfl) rfl rfl ⟨rfl, rfl⟩)⟩, ?_⟩
          refine ⟨⟨[14, 18], rfl, stepg_guardP rfl rfl rfl (by decide) rfl (pu_strLen rfl underlying9 (AEv.tmp rfl))⟩, ?_⟩
          refine ⟨⟨[1, 14], rfl, stepg_guard rfl rfl rfl (by decide) rfl (op_load1 (i := 0) rfl isAgg91 (AEv.tmp rfl) rfl rfl ⟨rfl, rfl⟩)⟩, ?_⟩
          refine ⟨⟨[14, 20], rfl, stepg_guardP rfl rfl rfl (by decide) rfl (pu_nilCheck rfl (AEv.tmp rfl) rfl)⟩, ?_⟩
          refine ⟨⟨[14, 21], rfl, stepg_guardP rfl rfl rfl (by decide) rfl (pu_fieldAddr rfl underlying93 rfl sizeOf23 (by decide) (AEv.tmp rfl) rfl)⟩, ?_⟩
          refine ⟨⟨[14, 22], rfl, stepg_guardP rfl rfl rfl (by decide) rfl (pu_fieldAddr rfl underlying23 rfl sizeOf3 (by decide) (AEv.tmp rfl) rfl)⟩, ?_⟩
          refine ⟨⟨[14, 23], rfl, stepg_guard rfl rfl rfl (by decide) rfl (op_load1 (i := 0) rfl isAgg3 (AEv.tmp rfl) rfl rfl ⟨rfl, rfl⟩)⟩, ?_⟩
          refine ⟨⟨[14, 19, 24], rfl, stepg_guardP rfl rfl rfl (by decide) rfl (pu_int (v := .bool (decide (p_.l.Line < (p_.s.length : Int)))) rfl rfl (AEv.tmp rfl) (AEv.tmp rfl) rfl)⟩, ?_⟩
          refine ⟨⟨[14, 25], rfl, stepg_pure rfl (pu_pick (b := true) rfl (AEv.tmp rfl) (fun _ => (AEv.tmp rfl)) (fun h => nomatch h))⟩, ?_⟩
          refine ⟨⟨[26], rfl, (stepg_pure rfl (pu_move rfl (AEv.tmp rfl))).cast (congrArg AV.bool hb43)⟩, ?_⟩
          refine ⟨⟨[3, 27], rfl, stepg_guardP rfl rfl rfl (by decide) rfl (pu_move rfl (AEv.tmp rfl))⟩, ?_⟩
          refine ⟨⟨[1, 27], rfl, stepg_guard rfl rfl rfl (by decide) rfl (op_load1 (i := 0) rfl isAgg91 (AEv.tmp rfl) rfl rfl ⟨rfl, rfl⟩)⟩, ?_⟩
          refine ⟨⟨[27, 29], rfl, stepg_guardP rfl rfl rfl (by decide) rfl (pu_nilCheck rfl (AEv.tmp rfl) rfl)⟩, ?_⟩
          refine ⟨⟨[27, 30], rfl, stepg_guardP rfl rfl rfl (by decide) rfl (pu_fieldAddr rfl underlying93 rfl sizeOf23 (by decide) (AEv.tmp rfl) rfl)⟩, ?_⟩
          refine ⟨⟨[27, 31], rfl, stepg_guardP rfl rfl rfl (by decide) rfl (pu_fieldAddr rfl underlying23 rfl sizeOf3 (by decide) (AEv.tmp rfl) rfl)⟩, ?_⟩
          refine ⟨⟨[27, 32], rfl, stepg_guard rfl rfl rfl (by decide) rfl (op_load1 (i := 0) rfl isAgg3 (AEv.tmp rfl) rfl rfl ⟨rfl, rfl⟩)⟩, ?_⟩
          refine ⟨⟨[27, 28, 33], rfl, stepg_guardP rfl rfl rfl (by decide) rfl (pu_int (v := .bool (decide (p_.l.Line < r36))) rfl rfl (AEv.tmp rfl) (AEv.tmp rfl) rfl)⟩, ?_⟩
          refine ⟨⟨[27, 34], rfl, stepg_pure rfl (pu_pick (b := false) rfl (AEv.tmp rfl) (fun h => nomatch h) (fun _ => (AEv.tmp rfl)))⟩, ?_⟩
          trivial
        subst h
        exact ⟨(), Weak.mkL [0, 1, 2, 3] (by decide) ⟨⟨_, rfl, ⟨(AV.Le.refl _), trivial⟩, rfl⟩, ⟨_, rfl, (CellsLe.refl _), rfl⟩, ⟨_, rfl, rfl⟩, ⟨_, rfl, rfl⟩, trivial⟩ ⟨AEv.tmp rfl, AEv.tmp rfl, (AEv.le (AEv.tmp rfl) (AV.Le.refl _)), trivial⟩⟩
    · replace h := ite_f (dec_f hb42) h
      refine aw_plan (by decide +kernel) [([], some 12, [3]), ([0], some 13, [12]), ([1], some 14, [13]), ([2], some 15, [1, 14]), ([3, 2], some 16, [15, 14]), ([4, 2], some 17, [16, 14]), ([5, 2], some 18, [17, 14]), ([6, 2], some 19, [18, 14]), ([2], some 20, [1, 14]), ([8, 2], some 21, [20, 14]), ([9, 2], some 22, [21, 14]), ([10, 2], some 23, [22, 14]), ([11, 2], some 24, [23, 14]), ([7, 12, 2], some 25, [19, 24, 14]), ([2, 13], some 26, [14, 25]), ([14, 2], some 27, [26]), ([15], some 28, [3, 27]), ([15], some 29, [1, 27]), ([17, 15], some 30, [29, 27]), ([18, 15], some 31, [30, 27]), ([19, 15], some 32, [31, 27]), ([20, 15], some 33, [32, 27]), ([16, 21, 15], some 34, [28, 33, 27]), ([15, 22], some 35, [27, 34])] rfl [[], [0], [0, 1], [0, 1, 2], [0, 1, 2, 3], [0, 1, 2, 3, 4], [0, 1, 2, 3, 4, 5], [0, 1, 2, 3, 4, 5, 6], [0, 1, 2], [0, 1, 2, 8], [0, 1, 2, 8, 9], [0, 1, 2, 8, 9, 10], [0, 1, 2, 8, 9, 10, 11], [0, 1, 2, 3, 4, 5, 6, 7, 8, 9, 10, 11, 12], [0, 1, 2, 3, 4, 5, 6, 7, 8, 9, 10, 11, 12, 13], [0, 1, 2, 3, 4, 5, 6, 7, 8, 9, 10, 11, 12, 13, 14], [0, 1, 2, 3, 4, 5, 6, 7, 8, 9, 10, 11, 12, 13, 14, 15], [0, 1, 2, 3, 4, 5, 6, 7, 8, 9, 10, 11, 12, 13, 14, 15], [0, 1, 2, 3, 4, 5, 6, 7, 8, 9, 10, 11, 12, 13, 14, 15, 17], [0, 1, 2, 3, 4, 5, 6, 7, 8, 9, 10, 11, 12, 13, 14, 15, 17, 18], [0, 1, 2, 3, 4, 5, 6, 7, 8, 9, 10, 11, 12, 13, 14, 15, 17, 18, 19], [0, 1, 2, 3, 4, 5, 6, 7, 8, 9, 10, 11, 12, 13, 14, 15, 17, 18, 19, 20], [0, 1, 2, 3, 4, 5, 6, 7, 8, 9, 10, 11, 12, 13, 14, 15, 16, 17, 18, 19, 20, 21], [0, 1, 2, 3, 4, 5, 6, 7, 8, 9, 10, 11, 12, 13, 14, 15, 16, 17, 18, 19, 20, 21, 22]] [[], [], [], [], [], [], [], [], [], [], [], [], [], [], [], [], [], [(0, 0, false)], [], [], [], [(1, 0, false)], [], []] [[], [], [], []] [[[(p35, .cells [.ptr o0 0])]], [[(o0, .cells (parse.parser.ct (.own q0) (.own q1) p_))]], [[(q0, .spare)]], [[(q1, .spare)]]] [.int .i64 r36, .bool (decide (r36 < 0)), .bool false, .lit undef, .lit undef, .lit undef, .lit undef, .lit undef, .lit undef, .lit undef, .lit undef, .lit undef, .lit undef, .lit undef, .bool false, .bool false, .int .i64 r36, .ptr o0 0, .ptr o0 0, .ptr o0 8, .ptr o0 10, .int .i64 p_.l.Line, .bool (decide (p_.l.Line < r36)), .bool (decide (p_.l.Line < r36))] (by decide +kernel) rfl rfl ?_ ?_
      · refine ⟨⟨[3], rfl, stepg_pure rfl (pu_move rfl (AEv.tmp rfl))⟩, ?_⟩
        refine ⟨⟨[12], rfl, stepg_pure rfl (pu_int (v := .bool (decide (r36 < 0))) rfl rfl (AEv.tmp rfl) (AEv.int _ _) rfl)⟩, ?_⟩
        refine ⟨⟨[13], rfl, (stepg_pure rfl (pu_move rfl (AEv.tmp rfl))).cast (congrArg AV.bool hb42)⟩, ?_⟩
        refine ⟨⟨[1, 14], rfl, stepg_pass rfl rfl rfl (by decide) rfl (by decide)⟩, ?_⟩
        refine ⟨⟨[14, 15], rfl, stepg_pass rfl rfl rfl (by decide) rfl (by decide)⟩, ?_⟩
        refine ⟨⟨[14, 16], rfl, stepg_pass rfl rfl rfl (by decide) rfl (by decide)⟩, ?_⟩
        refine ⟨⟨[14, 17], rfl, stepg_pass rfl rfl rfl (by decide) rfl (by decide)⟩, ?_⟩
        refine ⟨⟨[14, 18], rfl, stepg_pass rfl rfl rfl (by decide) rfl (by decide)⟩, ?_⟩
        refine ⟨⟨[1, 14], rfl, stepg_pass rfl rfl rfl (by decide) rfl (by decide)⟩, ?_⟩
        refine ⟨⟨[14, 20], rfl, stepg_pass rfl rfl rfl (by decide) rfl (by decide)⟩, ?_⟩
        refine ⟨⟨[14, 21], rfl, stepg_pass rfl rfl rfl (by decide) rfl (by decide)⟩, ?_⟩
        refine ⟨⟨[14, 22], rfl, stepg_pass rfl rfl rfl (by decide) rfl (by decide)⟩, ?_⟩
        refine ⟨⟨[14, 23], rfl, stepg_pass rfl rfl rfl (by decide) rfl (by decide)⟩, ?_⟩
        refine ⟨⟨[14, 19, 24], rfl, stepg_pass rfl rfl rfl (by decide) rfl (by decide)⟩, ?_⟩
        refine ⟨⟨[14, 25], rfl, stepg_pure rfl (pu_pick (b := false) rfl (AEv.tmp rfl) (fun h => nomatch h) (fun _ => (AEv.bool _)))⟩, ?_⟩
        refine ⟨⟨[26], rfl, stepg_pure rfl (pu_move rfl (AEv.tmp rfl))⟩, ?_⟩
        refine ⟨⟨[3, 27], rfl, stepg_guardP rfl rfl rfl (by decide) rfl (pu_move rfl (AEv.tmp rfl))⟩, ?_⟩
        refine ⟨⟨[1, 27], rfl, stepg_guard rfl rfl rfl (by decide) rfl (op_load1 (i := 0) rfl isAgg91 (AEv.tmp rfl) rfl rfl ⟨rfl, rfl⟩)⟩, ?_⟩
        refine ⟨⟨[27, 29], rfl, stepg_guardP rfl rfl rfl (by decide) rfl (pu_nilCheck rfl (AEv.tmp rfl) rfl)⟩, ?_⟩
        refine ⟨⟨[27, 30], rfl, stepg_guardP rfl rfl rfl (by decide) rfl (pu_fieldAddr rfl underlying93 rfl sizeOf23 (by decide) (AEv.tmp rfl) rfl)⟩, ?_⟩
        refine ⟨⟨[27, 31], rfl, stepg_guardP rfl rfl rfl (by decide) rfl (pu_fieldAddr rfl underlying23 rfl sizeOf3 (by decide) (AEv.tmp rfl) rfl)⟩, ?_⟩
        refine ⟨⟨[27, 32], rfl, stepg_guard rfl rfl rfl (by decide) rfl (op_load1 (i := 0) rfl isAgg3 (AEv.tmp rfl) rfl rfl ⟨rfl, rfl⟩)⟩, ?_⟩
        refine ⟨⟨[27, 28, 33], rfl, stepg_guardP rfl rfl rfl (by decide) rfl (pu_int (v := .bool (decide (p_.l.Line < r36))) rfl rfl (AEv.tmp rfl) (AEv.tmp rfl) rfl)⟩, ?_⟩
        refine ⟨⟨[27, 34], rfl, stepg_pure rfl (pu_pick (b := false) rfl (AEv.tmp rfl) (fun h => nomatch h) (fun _ => (AEv.tmp rfl)))⟩, ?_⟩
        trivial
      subst h
      exact ⟨(), Weak.mkL [0, 1, 2, 3] (by decide) ⟨⟨_, rfl, ⟨(AV.Le.refl _), trivial⟩, rfl⟩, ⟨_, rfl, (CellsLe.refl _), rfl⟩, ⟨_, rfl, rfl⟩, ⟨_, rfl, rfl⟩, trivial⟩ ⟨AEv.tmp rfl, AEv.tmp rfl, (AEv.le (AEv.tmp rfl) (AV.Le.refl _)), trivial⟩⟩
  · intro _
    have h := h40
    refine aw_cond (b := s39) (AEv.tmp rfl) (fun hb73 => ?_) (fun hb73 => ?_)
    · replace h := ite_t hb73 h
      refine aw_seq ?_
      refine aw_region ?_
      refine ac rfl rfl rfl (op_load1 (i := 0) rfl isAgg91 (AEv.tmp rfl) rfl rfl ?_)
      obtain ⟨r44, r44e, h⟩ := bind_some h
      refine aops_weak (weak_pick [1, 2, 3, 0] (by decide) rfl) ?_
      refine ac rfl rfl rfl (op_call (vs := [.ptr o0 0, .int .i64 6]) (H := [(o0, .cells (parse.parser.ct (.own q0) (.own q1) p_)), (q0, .spare), (q1, .spare)]) rfl call85 ⟨(AEv.tmp rfl), (AEv.int _ _), trivial⟩ (List.Perm.refl _) (parse.parser.dies.ok r44e o0 q0 q1) ?_)
      rintro _ _ ⟨t45, rfl, rfl⟩
      refine ap (.bool r44.1) rfl rfl rfl (pu_assign rfl (AEv.tmp rfl)) ?_
      refine aops_nil ?_
      refine aw_claimCell 0 1 rfl rfl fun t46 => ?_
      refine aw_ret ?_
      obtain rfl := some_of h
      exact ⟨[.bool r44.1], _, [(o0, .cells (parse.parser.ct (.own t46) (.own t45) r44.2)), (t46, .spare), (t45, .spare)], ⟨(AEv.tmp rfl), trivial⟩, (AV.Le.refl _), Weak.mkL [1, 0, 2] (by decide) ⟨⟨_, rfl, (CellsLe.refl _), rfl⟩, ⟨_, rfl, rfl⟩, ⟨_, rfl, rfl⟩, trivial⟩ trivial, ⟨t46, t45, rfl, rfl⟩⟩
    · replace h := ite_fb hb73 h
      refine aw_skip ?_
      refine aw_seq ?_
      refine aw_seq ?_
      refine aw_region ?_
      refine ap (.int .i64 r36) rfl rfl rfl (pu_move rfl (AEv.tmp rfl)) ?_
      refine ap (.bool (decide (r36 < 0))) rfl rfl rfl (pu_int (v := .bool (decide (r36 < 0))) rfl rfl (AEv.tmp rfl) (AEv.int _ _) rfl) ?_
      refine aops_nil ?_
      refine aw_cond (b := decide (r36 < 0)) (AEv.tmp rfl) (fun hb72 => ?_) (fun hb72 => ?_)
      · replace h := ite_t (dec_t hb72) h
        refine aw_seq ?_
        refine aw_region ?_
        refine ap (.bool false) rfl rfl rfl (pu_assign rfl (AEv.bool _)) ?_
        refine aops_nil ?_
        refine aw_ret ?_
        obtain rfl := some_of h
        exact ⟨[.bool false], _, [(o0, .cells (parse.parser.ct (.own q0) (.own q1) p_)), (q0, .spare), (q1, .spare)], ⟨(AEv.tmp rfl), trivial⟩, (AV.Le.refl _), Weak.mkL [1, 2, 3] (by decide) ⟨⟨_, rfl, (CellsLe.refl _), rfl⟩, ⟨_, rfl, rfl⟩, ⟨_, rfl, rfl⟩, trivial⟩ trivial, ⟨q0, q1, rfl, rfl⟩⟩
      · replace h := ite_f (dec_f hb72) h
        refine aw_skip ?_
        refine aw_seq ?_
        refine aw_region ?_
        refine ac rfl rfl rfl (op_load1 (i := 0) rfl isAgg91 (AEv.tmp rfl) rfl rfl ?_)
        refine ap (.ptr o0 0) rfl rfl rfl (pu_nilCheck rfl (AEv.tmp rfl) rfl) ?_
        refine ap (.ptr o0 7) rfl rfl rfl (pu_fieldAddr rfl underlying93 rfl sizeOf9 (by decide) (AEv.tmp rfl) rfl) ?_
        refine ac rfl rfl rfl (op_load1 (i := 1) rfl isAgg9 (AEv.tmp rfl) rfl rfl ?_)
        refine ap (.int .i64 r36) rfl rfl rfl (pu_move rfl (AEv.tmp rfl)) ?_
        obtain ⟨c47, h⟩ := need_of h
        refine ap (.str (sub p_.s 0 r36)) rfl rfl rfl (pu_strSliceM rfl underlying9 (AEv.tmp rfl) rfl ⟨_, (AEv.tmp rfl)⟩ c47) ?_
        obtain ⟨r48, r48e, h⟩ := bind_some h
        refine ac rfl rfl rfl (op_call (vs := [.str (sub p_.s 0 r36), .str [13]]) (H := []) rfl call89 ⟨(AEv.tmp rfl), (AEv.const rfl), trivial⟩ (List.Perm.refl _) (strings.TrimSuffix.ok r48e) ?_)
        rintro _ _ ⟨rfl, rfl⟩
        obtain ⟨r49, r49e, h⟩ := bind_some h
        refine ac rfl rfl rfl (op_call (vs := [.str r48]) (H := []) rfl call88 ⟨(AEv.tmp rfl), trivial⟩ (List.Perm.refl _) (line.Split.ok r49e) ?_)
        rintro _ _ ⟨t50, rfl, rfl⟩
        refine ap (.tup [.sl (.own t50) 1 (r49.1.map AV.str), .bool r49.2]) rfl rfl rfl (pu_move rfl (AEv.tmp rfl)) ?_
        refine ap (.sl (.own t50) 1 (r49.1.map AV.str)) rfl rfl rfl (pu_extract rfl (AEv.tmp rfl) (Nat.le_of_ble_eq_true rfl) rfl) ?_
        refine ap (.bool r49.2) rfl rfl rfl (pu_extract rfl (AEv.tmp rfl) (Nat.le_of_ble_eq_true rfl) rfl) ?_
        refine ap (.sl (.own t50) 1 (r49.1.map AV.str)) rfl rfl rfl (pu_assign rfl (AEv.tmp rfl)) ?_
        refine ap (.bool r49.2) rfl rfl rfl (pu_assign rfl (AEv.tmp rfl)) ?_
        refine aops_nil ?_
        refine aw_seq ?_
        refine aw_region ?_
        refine ap (.fn 90 [.ptr p35 0]) rfl rfl rfl (pu_makeFunc rfl ⟨(AEv.tmp rfl), trivial⟩) ?_
        refine ap (.fn 90 [.ptr p35 0]) rfl rfl rfl (pu_assign rfl (AEv.tmp rfl)) ?_
        refine aops_nil ?_
        refine aw_seq ?_
        refine aw_block ?_
        refine aw_seq ?_
        refine aw_region ?_
        refine ap (.bool r49.2) rfl rfl rfl (pu_move rfl (AEv.tmp rfl)) ?_
        refine ap (.bool (!r49.2)) rfl rfl rfl (pu_not rfl (AEv.tmp rfl)) ?_
        refine ap (.bool (!r49.2)) rfl rfl rfl (pu_assign rfl (AEv.tmp rfl)) ?_
        refine aops_nil ?_
        refine aw_cond (b := (!r49.2)) (AEv.tmp rfl) (fun hb71 => ?_) (fun hb71 => ?_)
        · replace h := ite_t hb71 h
          refine aw_seq ?_
          refine aw_region ?_
          refine ac rfl rfl rfl (op_load1 (i := 1) rfl isAgg91 (AEv.tmp rfl) rfl rfl ?_)
          obtain ⟨r51, r51e, h⟩ := bind_some h
          refine aops_weak (weak_pick [2, 3, 4, 0, 1] (by decide) rfl) ?_
          refine ac rfl rfl rfl (op_call (vs := [.ptr o0 0, .int .i64 16]) (H := [(o0, .cells (parse.parser.ct (.own q0) (.own q1) p_)), (q0, .spare), (q1, .spare)]) rfl call85 ⟨(AEv.tmp rfl), (AEv.int _ _), trivial⟩ (List.Perm.refl _) (parse.parser.dies.ok r51e o0 q0 q1) ?_)
          rintro _ _ ⟨t52, rfl, rfl⟩
          refine ap (.bool r51.1) rfl rfl rfl (pu_assign rfl (AEv.tmp rfl)) ?_
          refine aops_nil ?_
          refine aw_claimCell 0 1 rfl rfl fun t53 => ?_
          refine aw_ret ?_
          obtain rfl := some_of h
          exact ⟨[.bool r51.1], _, [(o0, .cells (parse.parser.ct (.own t53) (.own t52) r51.2)), (t53, .spare), (t52, .spare)], ⟨(AEv.tmp rfl), trivial⟩, (AV.Le.refl _), Weak.mkL [1, 0, 2] (by decide) ⟨⟨_, rfl, (CellsLe.refl _), rfl⟩, ⟨_, rfl, rfl⟩, ⟨_, rfl, rfl⟩, trivial⟩ trivial, ⟨t53, t52, rfl, rfl⟩⟩
        · replace h := ite_fb hb71 h
          refine aw_seq ?_
          refine aw_region ?_
          refine ap (.sl (.own t50) 1 (r49.1.map AV.str)) rfl rfl rfl (pu_move rfl (AEv.tmp rfl)) ?_
          refine ap (.int .i64 (r49.1.length : Int)) rfl rfl rfl (pu_lenM rfl underlying26 (AEv.tmp rfl)) ?_
          refine ac rfl rfl rfl (op_load1 (i := 1) rfl isAgg91 (AEv.tmp rfl) rfl rfl ?_)
          refine ap (.ptr o0 0) rfl rfl rfl (pu_nilCheck rfl (AEv.tmp rfl) rfl) ?_
          refine ap (.ptr o0 8) rfl rfl rfl (pu_fieldAddr rfl underlying93 rfl sizeOf23 (by decide) (AEv.tmp rfl) rfl) ?_
          refine ap (.ptr o0 8) rfl rfl rfl (pu_fieldAddr rfl underlying23 rfl sizeOf3 (by decide) (AEv.tmp rfl) rfl) ?_
          refine ac rfl rfl rfl (op_load1 (i := 2) rfl isAgg3 (AEv.tmp rfl) rfl rfl ?_)
          refine ap (.bool (decide (p_.l.Args < (r49.1.length : Int)))) rfl rfl rfl (pu_int (v := .bool (decide (p_.l.Args < (r49.1.length : Int)))) rfl rfl (AEv.tmp rfl) (AEv.tmp rfl) rfl) ?_
          refine ap (.bool (decide (p_.l.Args < (r49.1.length : Int)))) rfl rfl rfl (pu_assign rfl (AEv.tmp rfl)) ?_
          refine aops_nil ?_
          refine aw_cond (b := decide (p_.l.Args < (r49.1.length : Int))) (AEv.tmp rfl) (fun hb70 => ?_) (fun hb70 => ?_)
          · replace h := ite_t (dec_t hb70) h
            refine aw_seq ?_
            refine aw_region ?_
            refine ac rfl rfl rfl (op_load1 (i := 1) rfl isAgg91 (AEv.tmp rfl) rfl rfl ?_)
            obtain ⟨r54, r54e, h⟩ := bind_some h
            refine aops_weak (weak_pick [2, 3, 4, 0, 1] (by decide) rfl) ?_
            refine ac rfl rfl rfl (op_call (vs := [.ptr o0 0, .int .i64 7]) (H := [(o0, .cells (parse.parser.ct (.own q0) (.own q1) p_)), (q0, .spare), (q1, .spare)]) rfl call85 ⟨(AEv.tmp rfl), (AEv.int _ _), trivial⟩ (List.Perm.refl _) (parse.parser.dies.ok r54e o0 q0 q1) ?_)
            rintro _ _ ⟨t55, rfl, rfl⟩
            refine ap (.bool r54.1) rfl rfl rfl (pu_assign rfl (AEv.tmp rfl)) ?_
            refine aops_nil ?_
            refine aw_claimCell 0 1 rfl rfl fun t56 => ?_
            refine aw_ret ?_
            obtain rfl := some_of h
            exact ⟨[.bool r54.1], _, [(o0, .cells (parse.parser.ct (.own t56) (.own t55) r54.2)), (t56, .spare), (t55, .spare)], ⟨(AEv.tmp rfl), trivial⟩, (AV.Le.refl _), Weak.mkL [1, 0, 2] (by decide) ⟨⟨_, rfl, (CellsLe.refl _), rfl⟩, ⟨_, rfl, rfl⟩, ⟨_, rfl, rfl⟩, trivial⟩ trivial, ⟨t56, t55, rfl, rfl⟩⟩
          · replace h := ite_f (dec_f hb70) h
            refine aw_seq ?_
            refine aw_region ?_
            refine ap (.sl (.own t50) 1 (r49.1.map AV.str)) rfl rfl rfl (pu_move rfl (AEv.tmp rfl)) ?_
            refine ap (.fn 90 [.ptr p35 0]) rfl rfl rfl (pu_move rfl (AEv.tmp rfl)) ?_
            obtain ⟨r57, r57e, h⟩ := bind_some h
            refine aops_weak (weak_pick [1, 2, 3, 4, 0] (by decide) rfl) ?_
            refine ac rfl rfl rfl (op_call (vs := [.sl .no 1 (r49.1.map AV.str), .fn 90 [.ptr p35 0]]) (H := [(p35, .cells [.ptr o0 0]), (o0, .cells (parse.parser.ct (.own q0) (.own q1) p_)), (q0, .spare), (q1, .spare)]) rfl call91 ⟨(AEv.le (AEv.tmp rfl) (AV.Le.forget _ _ _)), (AEv.tmp rfl), trivial⟩ (List.Perm.refl _) (slices.ContainsFunc_string_parse_parser_line_1.ok r57e p35 o0 q0 q1) ?_)
            rintro _ _ ⟨t58, t59, rfl, rfl⟩
            refine ap (.bool r57) rfl rfl rfl (pu_assign rfl (AEv.tmp rfl)) ?_
            refine aops_nil ?_
            refine aw_cond (b := r57) (AEv.tmp rfl) (fun hb69 => ?_) (fun hb69 => ?_)
            · replace h := ite_t hb69 h
              refine aw_seq ?_
              refine aw_region ?_
              refine ac rfl rfl rfl (op_load1 (i := 0) rfl isAgg91 (AEv.tmp rfl) rfl rfl ?_)
              obtain ⟨r60, r60e, h⟩ := bind_some h
              refine aops_weak (weak_pick [1, 2, 3, 0, 4] (by decide) rfl) ?_
              refine ac rfl rfl rfl (op_call (vs := [.ptr o0 0, .int .i64 6]) (H := [(o0, .cells (parse.parser.ct (.own t58) (.own t59) p_)), (t58, .spare), (t59, .spare)]) rfl call85 ⟨(AEv.tmp rfl), (AEv.int _ _), trivial⟩ (List.Perm.refl _) (parse.parser.dies.ok r60e o0 t58 t59) ?_)
              rintro _ _ ⟨t61, rfl, rfl⟩
              refine ap (.bool r60.1) rfl rfl rfl (pu_assign rfl (AEv.tmp rfl)) ?_
              refine aops_nil ?_
              refine aw_claimCell 0 1 rfl rfl fun t62 => ?_
              refine aw_ret ?_
              obtain rfl := some_of h
              exact ⟨[.bool r60.1], _, [(o0, .cells (parse.parser.ct (.own t62) (.own t61) r60.2)), (t62, .spare), (t61, .spare)], ⟨(AEv.tmp rfl), trivial⟩, (AV.Le.refl _), Weak.mkL [1, 0, 2] (by decide) ⟨⟨_, rfl, (CellsLe.refl _), rfl⟩, ⟨_, rfl, rfl⟩, ⟨_, rfl, rfl⟩, trivial⟩ trivial, ⟨t62, t61, rfl, rfl⟩⟩
            · replace h := ite_fb hb69 h
              refine aw_skip ?_
              refine aw_seq ?_
              refine aw_region ?_
              refine ac rfl rfl rfl (op_load1 (i := 0) rfl isAgg91 (AEv.tmp rfl) rfl rfl ?_)
              refine ap (.int .i64 r36) rfl rfl rfl (pu_move rfl (AEv.tmp rfl)) ?_
              refine ap (.int .i64 (IntKind.wrap .i64 (r36 + 1))) rfl rfl rfl (pu_int (v := .int .i64 (IntKind.wrap .i64 (r36 + 1))) rfl rfl (AEv.tmp rfl) (AEv.int _ _) rfl) ?_
              obtain ⟨r63, r63e, h⟩ := bind_some h
              refine aops_weak (weak_pick [1, 2, 3, 0, 4] (by decide) rfl) ?_
              refine ac rfl rfl rfl (op_call (vs := [.ptr o0 0, .int .i64 (IntKind.wrap .i64 (r36 + 1))]) (H := [(o0, .cells (parse.parser.ct (.own t58) (.own t59) p_)), (t58, .spare), (t59, .spare)]) rfl call86 ⟨(AEv.tmp rfl), (AEv.tmp rfl), trivial⟩ (List.Perm.refl _) (parse.parser.past.ok r63e o0 t58 t59) ?_)
              rintro _ _ ⟨t64, t65, rfl, rfl⟩
              refine aops_nil ?_
              refine aw_seq ?_
              refine aw_region ?_
              refine ac rfl rfl rfl (op_load1 (i := 3) rfl isAgg91 (AEv.tmp rfl) rfl rfl ?_)
              refine ap (.sl (.own t50) 1 (r49.1.map AV.str)) rfl rfl rfl (pu_move rfl (AEv.tmp rfl)) ?_
              obtain ⟨r66, r66e, h⟩ := bind_some h
              refine ac rfl rfl rfl (op_call (vs := [.ptr o0 0, .sl .no 1 (r49.1.map AV.str)]) (H := [(o0, .cells (parse.parser.ct (.own t64) (.own t65) r63)), (t64, .spare), (t65, .spare)]) rfl call76 ⟨(AEv.tmp rfl), (AEv.le (AEv.tmp rfl) (AV.Le.forget _ _ _)), trivial⟩ (List.Perm.refl _) (parse.parser.whole.ok r66e o0 t64 t65) ?_)
              rintro _ _ ⟨t67, rfl, rfl⟩
              refine aops_nil ?_
              refine aw_seq ?_
              refine aw_region ?_
              refine ap (.bool true) rfl rfl rfl (pu_assign rfl (AEv.bool _)) ?_
              refine aops_nil ?_
              refine aw_claimCell 0 1 rfl rfl fun t68 => ?_
              refine aw_ret ?_
              obtain rfl := some_of h
              exact ⟨[.bool true], _, [(o0, .cells (parse.parser.ct (.own t68) (.own t67) r66)), (t68, .spare), (t67, .spare)], ⟨(AEv.tmp rfl), trivial⟩, (AV.Le.refl _), Weak.mkL [1, 0, 2] (by decide) ⟨⟨_, rfl, (CellsLe.refl _), rfl⟩, ⟨_, rfl, rfl⟩, ⟨_, rfl, rfl⟩, trivial⟩ trivial, ⟨t68, t67, rfl, rfl⟩⟩

theorem parse.parser.step.ok {p_ : parse.parser} {r : Bool × parse.parser} (h : parse.parser.step p_ = some r) (o0 q0 q1 : Nat) : Go.Lift.Spec prog 51 [.ptr o0 0] [(o0, .cells (parse.parser.ct (.own q0) (.own q1) p_)), (q0, .spare), (q1, .spare)] (fun v H => ∃ n0 n1, v = .bool r.1 ∧ H = [(o0, .cells [.str r.2.in_.Rest, .sl (.own n0) 1 (r.2.in_.Args.map AV.str), .int .i64 r.2.in_.Left, .int .i64 r.2.in_.Size, .bool r.2.in_.Body, .int .i64 r.2.in_.Need, .int .i64 r.2.in_.Dead, .str r.2.s, .int .i64 r.2.l.Args, .int .i64 r.2.l.Bulk, .int .i64 r.2.l.Line, .sl (.own n1) 2 (r.2.out.map api.Request.av)]), (n0, .spare), (n1, .spare)]) := by
  unfold parse.parser.step at h
  refine Go.Lift.Spec.of_body (rs := [.tmp 2]) func51 rfl rfl (Nat.le_of_ble_eq_true rfl) rfl ?_
  refine aw_seq ?_
  refine aw_region ?_
  refine ap (.bool false) rfl rfl rfl (pu_assign rfl (AEv.bool _)) ?_
  refine aops_nil ?_
  refine aw_seq ?_
  refine aw_block ?_
  refine aw_seq ?_
  refine aw_region ?_
  refine ap (.ptr o0 0) rfl rfl rfl (pu_move rfl (AEv.tmp rfl)) ?_
  refine ap (.ptr o0 0) rfl rfl rfl (pu_nilCheck rfl (AEv.tmp rfl) rfl) ?_
  refine ap (.ptr o0 0) rfl rfl rfl (pu_fieldAddr rfl underlying93 rfl sizeOf29 (by decide) (AEv.tmp rfl) rfl) ?_
  refine ap (.ptr o0 4) rfl rfl rfl (pu_fieldAddr rfl underlying29 rfl sizeOf4 (by decide) (AEv.tmp rfl) rfl) ?_
  refine ac rfl rfl rfl (op_load1 (i := 0) rfl isAgg4 (AEv.tmp rfl) rfl rfl ?_)
  refine ap (.bool p_.in_.Body) rfl rfl rfl (pu_assign rfl (AEv.tmp rfl)) ?_
  refine aops_nil ?_
  refine aw_cond (b := p_.in_.Body) (AEv.tmp rfl) (fun hb98 => ?_) (fun hb98 => ?_)
  · replace h := ite_t hb98 h
    refine aw_seq ?_
    refine aw_region ?_
    refine ap (.ptr o0 0) rfl rfl rfl (pu_move rfl (AEv.tmp rfl)) ?_
    obtain ⟨r50, r50e, h⟩ := bind_some h
    refine ac rfl rfl rfl (op_call (vs := [.ptr o0 0]) (H := [(o0, .cells (parse.parser.ct (.own q0) (.own q1) p_)), (q0, .spare), (q1, .spare)]) rfl call73 ⟨(AEv.tmp rfl), trivial⟩ (List.Perm.refl _) (parse.parser.body.ok r50e o0 q0 q1) ?_)
    rintro _ _ ⟨t51, t52, rfl, rfl⟩
    refine ap (.bool r50.1) rfl rfl rfl (pu_assign rfl (AEv.tmp rfl)) ?_
    refine aops_nil ?_
    refine aw_ret ?_
    obtain rfl := some_of h
    exact ⟨[.bool r50.1], _, [(o0, .cells (parse.parser.ct (.own t51) (.own t52) r50.2)), (t51, .spare), (t52, .spare)], ⟨(AEv.tmp rfl), trivial⟩, (AV.Le.refl _), Weak.mkL [0, 1, 2] (by decide) ⟨⟨_, rfl, (CellsLe.refl _), rfl⟩, ⟨_, rfl, rfl⟩, ⟨_, rfl, rfl⟩, trivial⟩ trivial, ⟨t51, t52, rfl, rfl⟩⟩
  · replace h := ite_fb hb98 h
    refine aw_seq ?_
    refine aw_region ?_
    refine ap (.ptr o0 0) rfl rfl rfl (pu_move rfl (AEv.tmp rfl)) ?_
    refine ap (.ptr o0 0) rfl rfl rfl (pu_nilCheck rfl (AEv.tmp rfl) rfl) ?_
    refine ap (.ptr o0 0) rfl rfl rfl (pu_fieldAddr rfl underlying93 rfl sizeOf29 (by decide) (AEv.tmp rfl) rfl) ?_
    refine ap (.ptr o0 2) rfl rfl rfl (pu_fieldAddr rfl underlying29 rfl sizeOf3 (by decide) (AEv.tmp rfl) rfl) ?_
    refine ac rfl rfl rfl (op_load1 (i := 0) rfl isAgg3 (AEv.tmp rfl) rfl rfl ?_)
    refine ap (.bool (decide (0 < p_.in_.Left))) rfl rfl rfl (pu_int (v := .bool (decide (0 < p_.in_.Left))) rfl rfl (AEv.tmp rfl) (AEv.int _ _) rfl) ?_
    refine ap (.bool (decide (0 < p_.in_.Left))) rfl rfl rfl (pu_assign rfl (AEv.tmp rfl)) ?_
    refine aops_nil ?_
    refine aw_cond (b := decide (0 < p_.in_.Left)) (AEv.tmp rfl) (fun hb97 => ?_) (fun hb97 => ?_)
    · replace h := ite_t (dec_t hb97) h
      refine aw_seq ?_
      refine aw_region ?_
      refine ap (.ptr o0 0) rfl rfl rfl (pu_move rfl (AEv.tmp rfl)) ?_
      refine ap (.ptr o0 0) rfl rfl rfl (pu_move rfl (AEv.tmp rfl)) ?_
      refine ap (.ptr o0 0) rfl rfl rfl (pu_nilCheck rfl (AEv.tmp rfl) rfl) ?_
      refine ap (.ptr o0 8) rfl rfl rfl (pu_fieldAddr rfl underlying93 rfl sizeOf23 (by decide) (AEv.tmp rfl) rfl) ?_
      refine ap (.ptr o0 9) rfl rfl rfl (pu_fieldAddr rfl underlying23 rfl sizeOf3 (by decide) (AEv.tmp rfl) rfl) ?_
      refine ac rfl rfl rfl (op_load1 (i := 0) rfl isAgg3 (AEv.tmp rfl) rfl rfl ?_)
      obtain ⟨r53, r53e, h⟩ := bind_some h
      refine ac rfl rfl rfl (op_call (vs := [.ptr o0 0, .int .u8 36, .int .i64 p_.l.Bulk, .int .i64 6]) (H := [(o0, .cells (parse.parser.ct (.own q0) (.own q1) p_)), (q0, .spare), (q1, .spare)]) rfl call74 ⟨(AEv.tmp rfl), (AEv.int _ _), (AEv.tmp rfl), (AEv.int _ _), trivial⟩ (List.Perm.refl _) (parse.parser.header.ok r53e o0 q0 q1) ?_)
      rintro _ _ ⟨t54, t55, rfl, rfl⟩
      refine ap (.tup [.int .i64 r53.1, .bool r53.2.1]) rfl rfl rfl (pu_move rfl (AEv.tmp rfl)) ?_
      refine ap (.int .i64 r53.1) rfl rfl rfl (pu_extract rfl (AEv.tmp rfl) (Nat.le_of_ble_eq_true rfl) rfl) ?_
      refine ap (.bool r53.2.1) rfl rfl rfl (pu_extract rfl (AEv.tmp rfl) (Nat.le_of_ble_eq_true rfl) rfl) ?_
      refine ap (.int .i64 r53.1) rfl rfl rfl (pu_assign rfl (AEv.tmp rfl)) ?_
      refine ap (.bool r53.2.1) rfl rfl rfl (pu_assign rfl (AEv.tmp rfl)) ?_
      refine aops_nil ?_
      obtain ⟨s57, s57e, h58⟩ := letO_of h
      refine aw_meet (ν := Unit) (fun v => [(4, .bool r53.2.1)]) (fun v => [(o0, .cells (parse.parser.ct (.own t54) (.own t55) { r53.2.2 with in_ := { r53.2.2.in_ with Body := s57.1, Need := s57.2 } })), (t54, .spare), (t55, .spare)]) ?_ ?_
      · have h := s57e.symm
        refine aw_seq ?_
        refine aw_region ?_
        refine ap (.bool r53.2.1) rfl rfl rfl (pu_move rfl (AEv.tmp rfl)) ?_
        refine aops_nil ?_
        refine aw_cond (b := r53.2.1) (AEv.tmp rfl) (fun hb60 => ?_) (fun hb60 => ?_)
        · replace h := ite_t hb60 h
          refine aw_region ?_
          refine ap (.ptr o0 0) rfl rfl rfl (pu_move rfl (AEv.tmp rfl)) ?_
          refine ap (.ptr o0 0) rfl rfl rfl (pu_move rfl (AEv.tmp rfl)) ?_
          refine ap (.int .i64 r53.1) rfl rfl rfl (pu_move rfl (AEv.tmp rfl)) ?_
          refine ap (.ptr o0 0) rfl rfl rfl (pu_nilCheck rfl (AEv.tmp rfl) rfl) ?_
          refine ap (.ptr o0 0) rfl rfl rfl (pu_fieldAddr rfl underlying93 rfl sizeOf29 (by decide) (AEv.tmp rfl) rfl) ?_
          refine ap (.ptr o0 4) rfl rfl rfl (pu_fieldAddr rfl underlying29 rfl sizeOf4 (by decide) (AEv.tmp rfl) rfl) ?_
          refine ac0 rfl rfl (op_store (i := 0) (cs' := (parse.parser.ct (.own t54) (.own t55) { r53.2.2 with in_ := { r53.2.2.in_ with Body := true } })) rfl sizeOf4 (AEv.tmp rfl) (v := .bool true) (AEv.bool _) rfl rfl rfl (Nat.le_of_ble_eq_true rfl) rfl ?_)
          refine ap (.ptr o0 0) rfl rfl rfl (pu_nilCheck rfl (AEv.tmp rfl) rfl) ?_
          refine ap (.ptr o0 0) rfl rfl rfl (pu_fieldAddr rfl underlying93 rfl sizeOf29 (by decide) (AEv.tmp rfl) rfl) ?_
          refine ap (.ptr o0 5) rfl rfl rfl (pu_fieldAddr rfl underlying29 rfl sizeOf3 (by decide) (AEv.tmp rfl) rfl) ?_
          refine ac0 rfl rfl (op_store (i := 0) (cs' := (parse.parser.ct (.own t54) (.own t55) { r53.2.2 with in_ := { r53.2.2.in_ with Body := true, Need := r53.1 } })) rfl sizeOf3 (AEv.tmp rfl) (v := .int .i64 r53.1) (AEv.tmp rfl) rfl rfl rfl (Nat.le_of_ble_eq_true rfl) rfl ?_)
          refine aops_nil ?_
          subst h
          exact ⟨(), Weak.mkL [0, 1, 2] (by decide) ⟨⟨_, rfl, (CellsLe.refl _), rfl⟩, ⟨_, rfl, rfl⟩, ⟨_, rfl, rfl⟩, trivial⟩ ⟨AEv.tmp rfl, trivial⟩⟩
        · replace h := ite_fb hb60 h
          refine aw_skip ?_
          subst h
          exact ⟨(), Weak.mkL [0, 1, 2] (by decide) ⟨⟨_, rfl, (CellsLe.refl _), rfl⟩, ⟨_, rfl, rfl⟩, ⟨_, rfl, rfl⟩, trivial⟩ ⟨AEv.tmp rfl, trivial⟩⟩
      · intro _
        have h := h58
        refine aw_seq ?_
        refine aw_region ?_
        refine ap (.bool r53.2.1) rfl rfl rfl (pu_move rfl (AEv.tmp rfl)) ?_
        refine ap (.bool r53.2.1) rfl rfl rfl (pu_assign rfl (AEv.tmp rfl)) ?_
        refine aops_nil ?_
        refine aw_ret ?_
        obtain rfl := some_of h
        exact ⟨[.bool r53.2.1], _, [(o0, .cells (parse.parser.ct (.own t54) (.own t55) { r53.2.2 with in_ := { r53.2.2.in_ with Body := s57.1, Need := s57.2 } })), (t54, .spare), (t55, .spare)], ⟨(AEv.tmp rfl), trivial⟩, (AV.Le.refl _), Weak.mkL [0, 1, 2] (by decide) ⟨⟨_, rfl, (CellsLe.refl _), rfl⟩, ⟨_, rfl, rfl⟩, ⟨_, rfl, rfl⟩, trivial⟩ trivial, ⟨t54, t55, rfl, rfl⟩⟩
    · replace h := ite_f (dec_f hb97) h
      refine aw_seq ?_
      refine aw_region ?_
      refine ap (.ptr o0 0) rfl rfl rfl (pu_move rfl (AEv.tmp rfl)) ?_
      refine ap (.ptr o0 0) rfl rfl rfl (pu_nilCheck rfl (AEv.tmp rfl) rfl) ?_
      refine ap (.ptr o0 7) rfl rfl rfl (pu_fieldAddr rfl underlying93 rfl sizeOf9 (by decide) (AEv.tmp rfl) rfl) ?_
      refine ac rfl rfl rfl (op_load1 (i := 0) rfl isAgg9 (AEv.tmp rfl) rfl rfl ?_)
      refine ap (.bool (decide (p_.s = ([] : List UInt8)))) rfl rfl rfl (pu_str (v := .bool (decide (p_.s = ([] : List UInt8)))) rfl rfl (AEv.tmp rfl) (AEv.const rfl) rfl) ?_
      refine ap (.bool (decide (p_.s = ([] : List UInt8)))) rfl rfl rfl (pu_assign rfl (AEv.tmp rfl)) ?_
      refine aops_nil ?_
      refine aw_cond (b := decide (p_.s = ([] : List UInt8))) (AEv.tmp rfl) (fun hb96 => ?_) (fun hb96 => ?_)
      · replace h := ite_t (dec_t hb96) h
        refine aw_seq ?_
        refine aw_region ?_
        refine ap (.bool false) rfl rfl rfl (pu_assign rfl (AEv.bool _)) ?_
        refine aops_nil ?_
        refine aw_ret ?_
        obtain rfl := some_of h
        exact ⟨[.bool false], _, [(o0, .cells (parse.parser.ct (.own q0) (.own q1) p_)), (q0, .spare), (q1, .spare)], ⟨(AEv.tmp rfl), trivial⟩, (AV.Le.refl _), Weak.mkL [0, 1, 2] (by decide) ⟨⟨_, rfl, (CellsLe.refl _), rfl⟩, ⟨_, rfl, rfl⟩, ⟨_, rfl, rfl⟩, trivial⟩ trivial, ⟨q0, q1, rfl, rfl⟩⟩
      · replace h := ite_f (dec_f hb96) h
        refine aw_seq ?_
        refine aw_region ?_
        refine ap (.ptr o0 0) rfl rfl rfl (pu_move rfl (AEv.tmp rfl)) ?_
        refine ap (.ptr o0 0) rfl rfl rfl (pu_nilCheck rfl (AEv.tmp rfl) rfl) ?_
        refine ap (.ptr o0 7) rfl rfl rfl (pu_fieldAddr rfl underlying93 rfl sizeOf9 (by decide) (AEv.tmp rfl) rfl) ?_
        refine ac rfl rfl rfl (op_load1 (i := 0) rfl isAgg9 (AEv.tmp rfl) rfl rfl ?_)
        obtain ⟨c61, h⟩ := need_of h
        refine ap (.int .u8 (bix p_.s 0)) rfl rfl rfl (pu_strIdxM rfl underlying9 (AEv.tmp rfl) (AEv.int _ _) c61) ?_
        refine ap (.bool (!decide ((bix p_.s 0) = 42))) rfl rfl rfl (pu_int (v := .bool (!decide ((bix p_.s 0) = 42))) rfl rfl (AEv.tmp rfl) (AEv.int _ _) rfl) ?_
        refine ap (.bool (!decide ((bix p_.s 0) = 42))) rfl rfl rfl (pu_assign rfl (AEv.tmp rfl)) ?_
        refine aops_nil ?_
        refine aw_cond (b := (!decide ((bix p_.s 0) = 42))) (AEv.tmp rfl) (fun hb95 => ?_) (fun hb95 => ?_)
        · replace h := ite_f (ndec_t hb95) h
          refine aw_seq ?_
          refine aw_region ?_
          refine ap (.ptr o0 0) rfl rfl rfl (pu_move rfl (AEv.tmp rfl)) ?_
          obtain ⟨r62, r62e, h⟩ := bind_some h
          refine ac rfl rfl rfl (op_call (vs := [.ptr o0 0]) (H := [(o0, .cells (parse.parser.ct (.own q0) (.own q1) p_)), (q0, .spare), (q1, .spare)]) rfl call75 ⟨(AEv.tmp rfl), trivial⟩ (List.Perm.refl _) (parse.parser.line.ok r62e o0 q0 q1) ?_)
          rintro _ _ ⟨t63, t64, rfl, rfl⟩
          refine ap (.bool r62.1) rfl rfl rfl (pu_assign rfl (AEv.tmp rfl)) ?_
          refine aops_nil ?_
          refine aw_ret ?_
          obtain rfl := some_of h
          exact ⟨[.bool r62.1], _, [(o0, .cells (parse.parser.ct (.own t63) (.own t64) r62.2)), (t63, .spare), (t64, .spare)], ⟨(AEv.tmp rfl), trivial⟩, (AV.Le.refl _), Weak.mkL [0, 1, 2] (by decide) ⟨⟨_, rfl, (CellsLe.refl _), rfl⟩, ⟨_, rfl, rfl⟩, ⟨_, rfl, rfl⟩, trivial⟩ trivial, ⟨t63, t64, rfl, rfl⟩⟩
        · replace h := ite_t (ndec_f hb95) h
          refine aw_skip ?_
          refine aw_seq ?_
          refine aw_region ?_
          refine ap (.ptr o0 0) rfl rfl rfl (pu_move rfl (AEv.tmp rfl)) ?_
          refine ap (.ptr o0 0) rfl rfl rfl (pu_move rfl (AEv.tmp rfl)) ?_
          refine ap (.ptr o0 0) rfl rfl rfl (pu_nilCheck rfl (AEv.tmp rfl) rfl) ?_
          refine ap (.ptr o0 8) rfl rfl rfl (pu_fieldAddr rfl underlying93 rfl sizeOf23 (by decide) (AEv.tmp rfl) rfl) ?_
          refine ap (.ptr o0 8) rfl rfl rfl (pu_fieldAddr rfl underlying23 rfl sizeOf3 (by decide) (AEv.tmp rfl) rfl) ?_
          refine ac rfl rfl rfl (op_load1 (i := 0) rfl isAgg3 (AEv.tmp rfl) rfl rfl ?_)
          obtain ⟨r65, r65e, h⟩ := bind_some h
          refine ac rfl rfl rfl (op_call (vs := [.ptr o0 0, .int .u8 42, .int .i64 p_.l.Args, .int .i64 7]) (H := [(o0, .cells (parse.parser.ct (.own q0) (.own q1) p_)), (q0, .spare), (q1, .spare)]) rfl call74 ⟨(AEv.tmp rfl), (AEv.int _ _), (AEv.tmp rfl), (AEv.int _ _), trivial⟩ (List.Perm.refl _) (parse.parser.header.ok r65e o0 q0 q1) ?_)
          rintro _ _ ⟨t66, t67, rfl, rfl⟩
          refine ap (.tup [.int .i64 r65.1, .bool r65.2.1]) rfl rfl rfl (pu_move rfl (AEv.tmp rfl)) ?_
          refine ap (.int .i64 r65.1) rfl rfl rfl (pu_extract rfl (AEv.tmp rfl) (Nat.le_of_ble_eq_true rfl) rfl) ?_
          refine ap (.bool r65.2.1) rfl rfl rfl (pu_extract rfl (AEv.tmp rfl) (Nat.le_of_ble_eq_true rfl) rfl) ?_
          refine ap (.int .i64 r65.1) rfl rfl rfl (pu_assign rfl (AEv.tmp rfl)) ?_
          refine ap (.bool r65.2.1) rfl rfl rfl (pu_assign rfl (AEv.tmp rfl)) ?_
          refine aops_nil ?_
          obtain ⟨s69, s69e, h70⟩ := letO_of h
          refine aw_meet (ν := Unit) (fun v => [(0, .ptr o0 0), (5, .int .i64 r65.1), (6, .bool r65.2.1)]) (fun v => [(o0, .cells (parse.parser.ct (.own t66) (.own t67) { r65.2.2 with in_ := { r65.2.2.in_ with Left := s69 } })), (t66, .spare), (t67, .spare)]) ?_ ?_
          · have h := s69e.symm
            refine aw_seq ?_
            refine aw_region ?_
            refine ap (.bool r65.2.1) rfl rfl rfl (pu_move rfl (AEv.tmp rfl)) ?_
            refine aops_nil ?_
            refine aw_cond (b := r65.2.1) (AEv.tmp rfl) (fun hb72 => ?_) (fun hb72 => ?_)
            · replace h := ite_t hb72 h
              refine aw_region ?_
              refine ap (.ptr o0 0) rfl rfl rfl (pu_move rfl (AEv.tmp rfl)) ?_
              refine ap (.int .i64 r65.1) rfl rfl rfl (pu_move rfl (AEv.tmp rfl)) ?_
              refine ap (.ptr o0 0) rfl rfl rfl (pu_nilCheck rfl (AEv.tmp rfl) rfl) ?_
              refine ap (.ptr o0 0) rfl rfl rfl (pu_fieldAddr rfl underlying93 rfl sizeOf29 (by decide) (AEv.tmp rfl) rfl) ?_
              refine ap (.ptr o0 2) rfl rfl rfl (pu_fieldAddr rfl underlying29 rfl sizeOf3 (by decide) (AEv.tmp rfl) rfl) ?_
              refine ac0 rfl rfl (op_store (i := 0) (cs' := (parse.parser.ct (.own t66) (.own t67) { r65.2.2 with in_ := { r65.2.2.in_ with Left := r65.1 } })) rfl sizeOf3 (AEv.tmp rfl) (v := .int .i64 r65.1) (AEv.tmp rfl) rfl rfl rfl (Nat.le_of_ble_eq_true rfl) rfl ?_)
              refine aops_nil ?_
              subst h
              exact ⟨(), Weak.mkL [0, 1, 2] (by decide) ⟨⟨_, rfl, (CellsLe.refl _), rfl⟩, ⟨_, rfl, rfl⟩, ⟨_, rfl, rfl⟩, trivial⟩ ⟨AEv.tmp rfl, AEv.tmp rfl, AEv.tmp rfl, trivial⟩⟩
            · replace h := ite_fb hb72 h
              refine aw_skip ?_
              subst h
              exact ⟨(), Weak.mkL [0, 1, 2] (by decide) ⟨⟨_, rfl, (CellsLe.refl _), rfl⟩, ⟨_, rfl, rfl⟩, ⟨_, rfl, rfl⟩, trivial⟩ ⟨AEv.tmp rfl, AEv.tmp rfl, AEv.tmp rfl, trivial⟩⟩
          · intro _
            have h := h70
            obtain ⟨s81, s81e, h84⟩ := bind_some h
            refine aw_meet (ν := Nat × Nat) (fun v => [(6, .bool r65.2.1)]) (fun v => [(o0, .cells [.str s81.1, .sl (.own v.1) 1 (s81.2.1.map AV.str), .int .i64 s81.2.2.1, .int .i64 s81.2.2.2.1, .bool s81.2.2.2.2.1, .int .i64 s81.2.2.2.2.2.1, .int .i64 s81.2.2.2.2.2.2.1, .str s81.2.2.2.2.2.2.2.1, .int .i64 s81.2.2.2.2.2.2.2.2.1, .int .i64 s81.2.2.2.2.2.2.2.2.2.1, .int .i64 s81.2.2.2.2.2.2.2.2.2.2.1, .sl (.own v.2) 2 (s81.2.2.2.2.2.2.2.2.2.2.2.map api.Request.av)]), (v.1, .spare), (v.2, .spare)]) ?_ ?_
            · have h := s81e
              refine aw_upd ?_
              obtain ⟨s87, s87e, h88⟩ := letO_of h
              refine aw_meet (ν := Unit) (fun v => [(0, .ptr o0 0), (6, .bool r65.2.1), (78, .bool s87)]) (fun v => [(o0, .cells (parse.parser.ct (.own t66) (.own t67) { r65.2.2 with in_ := { r65.2.2.in_ with Left := s69 } })), (t66, .spare), (t67, .spare)]) ?_ ?_
              · have h := s87e.symm
                refine aw_region ?_
                refine ap (.bool r65.2.1) rfl rfl rfl (pu_move rfl (AEv.tmp rfl)) ?_
                refine ap (.bool r65.2.1) rfl rfl rfl (pu_move rfl (AEv.tmp rfl)) ?_
                rcases Bool.eq_false_or_eq_true r65.2.1 with hb90 | hb90
                · replace h := ite_t hb90 h
                  refine aops_known 75 rfl hb90 ?_
                  refine agp (.int .i64 r65.1) rfl rfl rfl rfl rfl rfl rfl (pu_move rfl (AEv.tmp rfl)) ?_
                  refine agp (.bool (decide (r65.1 = 0))) rfl rfl rfl rfl rfl rfl rfl (pu_int (v := .bool (decide (r65.1 = 0))) rfl rfl (AEv.tmp rfl) (AEv.int _ _) rfl) ?_
                  refine ap (.bool (decide (r65.1 = 0))) rfl rfl rfl (pu_pick (b := true) rfl (AEv.tmp rfl) (fun _ => (AEv.tmp rfl)) (fun h => nomatch h)) ?_
                  refine aops_nil ?_
                  subst h
                  exact ⟨(), Weak.mkL [0, 1, 2] (by decide) ⟨⟨_, rfl, (CellsLe.refl _), rfl⟩, ⟨_, rfl, rfl⟩, ⟨_, rfl, rfl⟩, trivial⟩ ⟨AEv.tmp rfl, AEv.tmp rfl, (AEv.le (AEv.tmp rfl) (AV.Le.refl _)), trivial⟩⟩
                · replace h := ite_fb hb90 h
                  refine aops_known 75 rfl hb90 ?_
                  refine an rfl rfl rfl rfl rfl rfl rfl rfl ?_
                  refine an rfl rfl rfl rfl rfl rfl rfl rfl ?_
                  refine ap (.bool false) rfl rfl rfl (pu_pick (b := false) rfl (AEv.tmp rfl) (fun h => nomatch h) (fun _ => (AEv.bool _))) ?_
                  refine aops_nil ?_
                  subst h
                  exact ⟨(), Weak.mkL [0, 1, 2] (by decide) ⟨⟨_, rfl, (CellsLe.refl _), rfl⟩, ⟨_, rfl, rfl⟩, ⟨_, rfl, rfl⟩, trivial⟩ ⟨AEv.tmp rfl, AEv.tmp rfl, AEv.tmp rfl, trivial⟩⟩
              · intro _
                have h := h88
                refine aw_cond (b := s87) (AEv.tmp rfl) (fun hb94 => ?_) (fun hb94 => ?_)
                · replace h := ite_t hb94 h
                  refine aw_region ?_
                  refine ap (.ptr o0 0) rfl rfl rfl (pu_move rfl (AEv.tmp rfl)) ?_
                  obtain ⟨r91, r91e, h⟩ := bind_some h
                  refine ac rfl rfl rfl (op_call (vs := [.ptr o0 0, .sl .no 1 (([] : List (List UInt8)).map AV.str)]) (H := [(o0, .cells (parse.parser.ct (.own t66) (.own t67) { r65.2.2 with in_ := { r65.2.2.in_ with Left := s69 } })), (t66, .spare), (t67, .spare)]) rfl call76 ⟨(AEv.tmp rfl), (AEv.le (AEv.nil 1 (by decide)) (AV.Le.forget _ _ _)), trivial⟩ (List.Perm.refl _) (parse.parser.whole.ok r91e o0 t66 t67) ?_)
                  rintro _ _ ⟨t92, rfl, rfl⟩
                  refine aops_nil ?_
                  refine upd_claimCell 0 1 rfl rfl fun t93 => ?_
                  refine upd_done ?_
                  obtain rfl := some_of h
                  exact ⟨(t93, t92), Weak.mkL [1, 0, 2] (by decide) ⟨⟨_, rfl, (CellsLe.refl _), rfl⟩, ⟨_, rfl, rfl⟩, ⟨_, rfl, rfl⟩, trivial⟩ ⟨AEv.tmp rfl, trivial⟩⟩
                · replace h := ite_fb hb94 h
                  refine aw_skip ?_
                  refine upd_done ?_
                  obtain rfl := some_of h
                  exact ⟨(t66, t67), Weak.mkL [0, 1, 2] (by decide) ⟨⟨_, rfl, (CellsLe.refl _), rfl⟩, ⟨_, rfl, rfl⟩, ⟨_, rfl, rfl⟩, trivial⟩ ⟨AEv.tmp rfl, trivial⟩⟩
            · rintro ⟨n82, n83⟩
              have h := h84
              refine aw_seq ?_
              refine aw_region ?_
              refine ap (.bool r65.2.1) rfl rfl rfl (pu_move rfl (AEv.tmp rfl)) ?_
              refine ap (.bool r65.2.1) rfl rfl rfl (pu_assign rfl (AEv.tmp rfl)) ?_
              refine aops_nil ?_
              refine aw_ret ?_
              obtain rfl := some_of h
              exact ⟨[.bool r65.2.1], _, [(o0, .cells [.str s81.1, .sl (.own n82) 1 (s81.2.1.map AV.str), .int .i64 s81.2.2.1, .int .i64 s81.2.2.2.1, .bool s81.2.2.2.2.1, .int .i64 s81.2.2.2.2.2.1, .int .i64 s81.2.2.2.2.2.2.1, .str s81.2.2.2.2.2.2.2.1, .int .i64 s81.2.2.2.2.2.2.2.2.1, .int .i64 s81.2.2.2.2.2.2.2.2.2.1, .int .i64 s81.2.2.2.2.2.2.2.2.2.2.1, .sl (.own n83) 2 (s81.2.2.2.2.2.2.2.2.2.2.2.map api.Request.av)]), (n82, .spare), (n83, .spare)], ⟨(AEv.tmp rfl), trivial⟩, (AV.Le.refl _), Weak.mkL [0, 1, 2] (by decide) ⟨⟨_, rfl, (CellsLe.refl _), rfl⟩, ⟨_, rfl, rfl⟩, ⟨_, rfl, rfl⟩, trivial⟩ trivial, ⟨n82, n83, rfl, rfl⟩⟩

theorem parse.Feed.ok {in_ : api.Input} {b : List UInt8} {l : api.Limits} {r : api.Input × (List api.Request) × Int} (h : parse.Feed in_ b l = some r) : Go.Lift.Spec prog 15 [.agg (api.Input.ct .no in_), .str b, .agg [.int .i64 l.Args, .int .i64 l.Bulk, .int .i64 l.Line]] [] (fun v H => ∃ n0, v = .tup [.agg [.str r.1.Rest, .sl .no 1 (r.1.Args.map AV.str), .int .i64 r.1.Left, .int .i64 r.1.Size, .bool r.1.Body, .int .i64 r.1.Need, .int .i64 r.1.Dead], .sl (.own n0) 2 (r.2.1.map api.Request.av), .int .i64 r.2.2] ∧ H = [(n0, .spare)]) := by
  unfold parse.Feed at h
  refine Go.Lift.Spec.of_body (rs := [.cell 6 29, .tmp 7, .tmp 8]) func15 rfl rfl (Nat.le_of_ble_eq_true rfl) rfl ?_
  refine aw_seq ?_
  refine aw_region ?_
  refine ac rfl rfl rfl (op_box (cs := (api.Input.ct .no in_)) (v := .agg (api.Input.ct .no in_)) rfl (AEv.tmp rfl) rfl rfl ?_)
  intro p64
  refine ac rfl rfl rfl (op_box (cs := [.int .i64 l.Args, .int .i64 l.Bulk, .int .i64 l.Line]) (v := .agg [.int .i64 l.Args, .int .i64 l.Bulk, .int .i64 l.Line]) rfl (AEv.tmp rfl) rfl rfl ?_)
  intro p65
  refine ac rfl rfl rfl (op_alloc (cs := [.str ([] : List UInt8), .sl .full 1 (([] : List (List UInt8)).map AV.str), .int .i64 0, .int .i64 0, .bool false, .int .i64 0, .int .i64 0]) (v := .agg [.str ([] : List UInt8), .sl .full 1 (([] : List (List UInt8)).map AV.str), .int .i64 0, .int .i64 0, .bool false, .int .i64 0, .int .i64 0]) rfl zeroValue29 rfl rfl rfl ?_)
  intro p66
  refine ap (.sl .full 2 (([] : List api.Request).map api.Request.av)) rfl rfl rfl (pu_assign rfl (AEv.nil 2 (by decide))) ?_
  refine ap (.int .i64 0) rfl rfl rfl (pu_assign rfl (AEv.int _ _)) ?_
  refine aops_nil ?_
  refine aw_seq ?_
  refine aw_seq ?_
  refine aw_region ?_
  refine ap (.ptr p64 6) rfl rfl rfl (pu_fieldAddr rfl underlying29 rfl sizeOf27 (by decide) (AEv.tmp rfl) rfl) ?_
  refine ac rfl rfl rfl (op_load1 (i := 2) rfl isAgg27 (AEv.tmp rfl) rfl rfl ?_)
  refine ap (.bool (!decide (in_.Dead = 0))) rfl rfl rfl (pu_int (v := .bool (!decide (in_.Dead = 0))) rfl rfl (AEv.tmp rfl) (AEv.int _ _) rfl) ?_
  refine aops_nil ?_
  refine aw_cond (b := (!decide (in_.Dead = 0))) (AEv.tmp rfl) (fun hb127 => ?_) (fun hb127 => ?_)
  · replace h := ite_f (ndec_t hb127) h
    refine aw_seq ?_
    refine aw_plan (by decide +kernel) [([], some 13, [3]), ([0], some 14, [13]), ([1], some 15, [14]), ([], some 16, [3]), ([3], some 17, [16]), ([2, 0, 1, 2], none, [6, 15]), ([5, 0, 1, 2, 5], some 7, []), ([4, 6, 0, 1, 2, 3, 4, 5, 6], some 8, [17])] rfl [[], [0], [0, 1], [], [3], [0, 1, 2], [0, 1, 2, 5], [0, 1, 2, 3, 4, 5, 6]] [[], [(2, 0, false)], [], [], [(2, 0, false)], [(0, 0, true)], [], []] [[5], [], []] [[[(p66, .cells [.str ([] : List UInt8), .sl .full 1 (([] : List (List UInt8)).map AV.str), .int .i64 0, .int .i64 0, .bool false, .int .i64 0, .int .i64 0])], [(p66, .cells [.str ([] : List UInt8), .sl .full 1 (([] : List (List UInt8)).map AV.str), .int .i64 0, .int .i64 0, .bool false, .int .i64 0, .int .i64 in_.Dead])]], [[(p65, .cells [.int .i64 l.Args, .int .i64 l.Bulk, .int .i64 l.Line])]], [[(p64, .cells (api.Input.ct .no in_))]]] [.ptr p64 6, .int .i64 in_.Dead, .agg [.str ([] : List UInt8), .sl .full 1 (([] : List (List UInt8)).map AV.str), .int .i64 0, .int .i64 0, .bool false, .int .i64 0, .int .i64 in_.Dead], .ptr p64 6, .int .i64 in_.Dead, .un, .sl .full 2 (([] : List api.Request).map api.Request.av), .int .i64 in_.Dead] (by decide +kernel) rfl rfl ?_ ?_
    · refine ⟨⟨[3], rfl, stepg_pure rfl (pu_fieldAddr rfl underlying29 rfl sizeOf27 (by decide) (AEv.tmp rfl) rfl)⟩, ?_⟩
      refine ⟨⟨[13], rfl, stepg_plain rfl (op_load1 (i := 0) rfl isAgg27 (AEv.tmp rfl) rfl rfl ⟨rfl, rfl⟩)⟩, ?_⟩
      refine ⟨⟨[14], rfl, stepg_pure rfl (pu_build (zs := [.str ([] : List UInt8), .sl .full 1 (([] : List (List UInt8)).map AV.str), .int .i64 0, .int .i64 0, .bool false, .int .i64 0, .int .i64 0]) (szs := [1, 1, 1, 1, 1, 1, 1]) (aparts := [(6, .int .i64 in_.Dead)]) (cs := [.str ([] : List UInt8), .sl .full 1 (([] : List (List UInt8)).map AV.str), .int .i64 0, .int .i64 0, .bool false, .int .i64 0, .int .i64 in_.Dead]) rfl underlying29 zeroValue29 rfl ⟨sizeOf9, sizeOf26, sizeOf3, sizeOf3, sizeOf4, sizeOf3, sizeOf27, trivial⟩ ⟨rfl, (AEv.tmp rfl), trivial⟩ rfl)⟩, ?_⟩
      refine ⟨⟨[3], rfl, stepg_pure rfl (pu_fieldAddr rfl underlying29 rfl sizeOf27 (by decide) (AEv.tmp rfl) rfl)⟩, ?_⟩
      refine ⟨⟨[16], rfl, stepg_plain rfl (op_load1 (i := 0) rfl isAgg27 (AEv.tmp rfl) rfl rfl ⟨rfl, rfl⟩)⟩, ?_⟩
      refine ⟨⟨[6, 15], rfl, stepg_plain rfl (op_store (i := 0) (cs' := [.str ([] : List UInt8), .sl .full 1 (([] : List (List UInt8)).map AV.str), .int .i64 0, .int .i64 0, .bool false, .int .i64 0, .int .i64 in_.Dead]) rfl sizeOf29 (AEv.tmp rfl) (v := .agg [.str ([] : List UInt8), .sl .full 1 (([] : List (List UInt8)).map AV.str), .int .i64 0, .int .i64 0, .bool false, .int .i64 0, .int .i64 in_.Dead]) (AEv.tmp rfl) rfl rfl rfl (Nat.le_of_ble_eq_true rfl) rfl ⟨rfl, rfl⟩)⟩, ?_⟩
      refine ⟨⟨[], rfl, stepg_pure rfl (pu_assign rfl (AEv.nil 2 (by decide)))⟩, ?_⟩
      refine ⟨⟨[17], rfl, stepg_pure rfl (pu_assign rfl (AEv.tmp rfl))⟩, ?_⟩
      trivial
    refine aw_claim 7 (AEv.tmp rfl) fun t67 => ?_
    refine aw_ret ?_
    obtain rfl := some_of h
    exact ⟨[.agg [.str ([] : List UInt8), .sl .full 1 (([] : List (List UInt8)).map AV.str), .int .i64 0, .int .i64 0, .bool false, .int .i64 0, .int .i64 in_.Dead], .sl (.own t67) 2 (([] : List api.Request).map api.Request.av), .int .i64 in_.Dead], .tup [.agg [.str ([] : List UInt8), .sl .no 1 (([] : List (List UInt8)).map AV.str), .int .i64 0, .int .i64 0, .bool false, .int .i64 0, .int .i64 in_.Dead], .sl (.own t67) 2 (([] : List api.Request).map api.Request.av), .int .i64 in_.Dead], [(t67, .spare)], ⟨(CellOk.agg 1 (AEv.tmp rfl) rfl isAgg29 sizeOf29 (Nat.le_of_ble_eq_true rfl) rfl), (AEv.tmp rfl), (AEv.tmp rfl), trivial⟩, (AV.Le.tup ⟨(AV.Le.agg ⟨(AV.Le.refl _), (AV.Le.forget _ _ _), (AV.Le.refl _), (AV.Le.refl _), (AV.Le.refl _), (AV.Le.refl _), (AV.Le.refl _), trivial⟩), (AV.Le.refl _), (AV.Le.refl _), trivial⟩), Weak.mkL [0] (by decide) ⟨⟨_, rfl, rfl⟩, trivial⟩ trivial, ⟨t67, rfl, rfl⟩⟩
  · replace h := ite_t (ndec_f hb127) h
    refine aw_skip ?_
    refine aw_seq ?_
    obtain ⟨c68, h⟩ := need_of h
    obtain ⟨r69, r69e, h⟩ := bind_some h
    refine aw_reserve fun p70 => ?_
    refine aw_plan (by decide +kernel) [([], some 18, [3]), ([], some 19, [3]), ([1], some 20, [19]), ([], some 21, [1]), ([2, 3], some 22, [20, 21]), ([], some 23, [5]), ([5], some 24, [23]), ([0, 4, 6], some 25, [18, 22, 24]), ([7], some 26, [25]), ([8, 6, 0, 1, 2, 3, 4, 5, 6, 7, 8], some 9, [26])] rfl [[], [], [1], [], [1, 2, 3], [], [5], [0, 1, 2, 3, 4, 5, 6], [0, 1, 2, 3, 4, 5, 6, 7], [0, 1, 2, 3, 4, 5, 6, 7, 8]] [[(3, 0, false)], [], [(3, 0, false)], [], [], [(2, 0, false)], [], [], [(0, 0, true)], []] [[8], [], [], []] [[[(p70, .resv)], [(p70, .cells (parse.parser.ct .no .full ({ in_ := in_, s := in_.Rest ++ b, l := r69, out := ([] : List api.Request) } : parse.parser)))]], [[(p66, .cells [.str ([] : List UInt8), .sl .full 1 (([] : List (List UInt8)).map AV.str), .int .i64 0, .int .i64 0, .bool false, .int .i64 0, .int .i64 0])]], [[(p65, .cells [.int .i64 l.Args, .int .i64 l.Bulk, .int .i64 l.Line])]], [[(p64, .cells (api.Input.ct .no in_))]]] [.agg (api.Input.ct .no in_), .ptr p64 0, .str in_.Rest, .str b, .str (in_.Rest ++ b), .agg [.int .i64 l.Args, .int .i64 l.Bulk, .int .i64 l.Line], .agg [.int .i64 r69.Args, .int .i64 r69.Bulk, .int .i64 r69.Line], .agg (parse.parser.ct .no .full ({ in_ := in_, s := in_.Rest ++ b, l := r69, out := ([] : List api.Request) } : parse.parser)), .ptr p70 0, .ptr p70 0] (by decide +kernel) rfl rfl ?_ ?_
    · refine ⟨⟨[3], rfl, stepg_plain rfl (op_loadN (i := 0) rfl isAgg29 sizeOf29 (AEv.tmp rfl) rfl (Nat.le_of_ble_eq_true rfl) rfl ⟨rfl, rfl⟩)⟩, ?_⟩
      refine ⟨⟨[3], rfl, stepg_pure rfl (pu_fieldAddr rfl underlying29 rfl sizeOf9 (by decide) (AEv.tmp rfl) rfl)⟩, ?_⟩
      refine ⟨⟨[19], rfl, stepg_plain rfl (op_load1 (i := 0) rfl isAgg9 (AEv.tmp rfl) rfl rfl ⟨rfl, rfl⟩)⟩, ?_⟩
      refine ⟨⟨[1], rfl, stepg_pure rfl (pu_move rfl (AEv.tmp rfl))⟩, ?_⟩
      refine ⟨⟨[20, 21], rfl, stepg_pure rfl (pu_strAdd rfl (AEv.tmp rfl) (AEv.tmp rfl) c68)⟩, ?_⟩
      refine ⟨⟨[5], rfl, stepg_plain rfl (op_loadN (i := 0) rfl isAgg23 sizeOf23 (AEv.tmp rfl) rfl (Nat.le_of_ble_eq_true rfl) rfl ⟨rfl, rfl⟩)⟩, ?_⟩
      refine ⟨⟨[23], rfl, stepg_plain rfl (op_call (vs := [.agg [.int .i64 l.Args, .int .i64 l.Bulk, .int .i64 l.Line]]) (H := []) rfl call19 ⟨(AEv.tmp rfl), trivial⟩ (R := []) (List.Perm.refl _) (parse.Limits.ok r69e) (by rintro _ _ ⟨rfl, rfl⟩; exact ⟨rfl, rfl⟩))⟩, ?_⟩
      refine ⟨⟨[18, 22, 24], rfl, stepg_pure rfl (pu_build (zs := [.str ([] : List UInt8), .sl .full 1 (([] : List (List UInt8)).map AV.str), .int .i64 0, .int .i64 0, .bool false, .int .i64 0, .int .i64 0, .str ([] : List UInt8), .int .i64 0, .int .i64 0, .int .i64 0, .sl .full 2 (([] : List api.Request).map api.Request.av)]) (szs := [7, 1, 3, 1]) (aparts := [(0, .agg (api.Input.ct .no in_)), (1, .str (in_.Rest ++ b)), (2, .agg [.int .i64 r69.Args, .int .i64 r69.Bulk, .int .i64 r69.Line])]) (cs := [.str in_.Rest, .sl .no 1 (in_.Args.map AV.str), .int .i64 in_.Left, .int .i64 in_.Size, .bool in_.Body, .int .i64 in_.Need, .int .i64 in_.Dead, .str (in_.Rest ++ b), .int .i64 r69.Args, .int .i64 r69.Bulk, .int .i64 r69.Line, .sl .full 2 (([] : List api.Request).map api.Request.av)]) rfl underlying93 zeroValue93 rfl ⟨sizeOf29, sizeOf9, sizeOf23, sizeOf30, trivial⟩ ⟨rfl, (AEv.tmp rfl), ⟨rfl, (AEv.tmp rfl), ⟨rfl, (AEv.tmp rfl), trivial⟩⟩⟩ rfl)⟩, ?_⟩
      refine ⟨⟨[25], rfl, stepg_plain rfl (aop_settleP (op_box (cs := (parse.parser.ct .no .full ({ in_ := in_, s := in_.Rest ++ b, l := r69, out := ([] : List api.Request) } : parse.parser))) (v := .agg (parse.parser.ct .no .full ({ in_ := in_, s := in_.Rest ++ b, l := r69, out := ([] : List api.Request) } : parse.parser))) rfl (AEv.tmp rfl) rfl rfl fun t => ⟨t, rfl, rfl⟩) ⟨rfl, rfl⟩)⟩, ?_⟩
      refine ⟨⟨[26], rfl, stepg_pure rfl (pu_assign rfl (AEv.tmp rfl))⟩, ?_⟩
      trivial
    refine aw_seq ?_
    refine aw_region ?_
    refine ap (.ptr p70 0) rfl rfl rfl (pu_move rfl (AEv.tmp rfl)) ?_
    refine ap (.ptr p70 0) rfl rfl rfl (pu_move rfl (AEv.tmp rfl)) ?_
    refine ap (.ptr p64 1) rfl rfl rfl (pu_fieldAddr rfl underlying29 rfl sizeOf26 (by decide) (AEv.tmp rfl) rfl) ?_
    refine ac rfl rfl rfl (op_load1 (i := 3) rfl isAgg26 (AEv.tmp rfl) rfl rfl ?_)
    obtain ⟨r71, r71e, h⟩ := bind_some h
    refine ac rfl rfl rfl (op_call (vs := [.sl .no 1 (in_.Args.map AV.str)]) (H := []) rfl call50 ⟨(AEv.tmp rfl), trivial⟩ (List.Perm.refl _) (slices.Clone_string.ok r71e) ?_)
    rintro _ _ ⟨t72, rfl, rfl⟩
    refine ap (.ptr p70 0) rfl rfl rfl (pu_nilCheck rfl (AEv.tmp rfl) rfl) ?_
    refine ap (.ptr p70 0) rfl rfl rfl (pu_fieldAddr rfl underlying93 rfl sizeOf29 (by decide) (AEv.tmp rfl) rfl) ?_
    refine ap (.ptr p70 1) rfl rfl rfl (pu_fieldAddr rfl underlying29 rfl sizeOf26 (by decide) (AEv.tmp rfl) rfl) ?_
    refine ac0 rfl rfl (op_store (i := 1) (cs' := (parse.parser.ct (.own t72) .full ({ in_ := { in_ with Args := r71 }, s := in_.Rest ++ b, l := r69, out := ([] : List api.Request) } : parse.parser))) rfl sizeOf26 (AEv.tmp rfl) (v := .sl (.own t72) 1 (r71.map AV.str)) (AEv.tmp rfl) rfl rfl rfl (Nat.le_of_ble_eq_true rfl) rfl ?_)
    refine ap (.ptr p70 0) rfl rfl rfl (pu_nilCheck rfl (AEv.tmp rfl) rfl) ?_
    refine ap (.ptr p70 0) rfl rfl rfl (pu_fieldAddr rfl underlying93 rfl sizeOf29 (by decide) (AEv.tmp rfl) rfl) ?_
    refine ap (.ptr p70 0) rfl rfl rfl (pu_fieldAddr rfl underlying29 rfl sizeOf9 (by decide) (AEv.tmp rfl) rfl) ?_
    refine ac0 rfl rfl (op_store (i := 1) (cs' := (parse.parser.ct (.own t72) .full ({ in_ := { in_ with Rest := ([] : List UInt8), Args := r71 }, s := in_.Rest ++ b, l := r69, out := ([] : List api.Request) } : parse.parser))) rfl sizeOf9 (AEv.tmp rfl) (v := .str ([] : List UInt8)) (AEv.const rfl) rfl rfl rfl (Nat.le_of_ble_eq_true rfl) rfl ?_)
    refine aops_nil ?_
    obtain ⟨s97, s97e, h100⟩ := bind_some h
    refine aw_meet (ν := Nat × Nat) (fun v => [(6, .ptr p66 0), (9, .ptr p70 0)]) (fun v => [(p66, .cells [.str ([] : List UInt8), .sl .full 1 (([] : List (List UInt8)).map AV.str), .int .i64 0, .int .i64 0, .bool false, .int .i64 0, .int .i64 0]), (p70, .cells [.str s97.1, .sl (.own v.1) 1 (s97.2.1.map AV.str), .int .i64 s97.2.2.1, .int .i64 s97.2.2.2.1, .bool s97.2.2.2.2.1, .int .i64 s97.2.2.2.2.2.1, .int .i64 s97.2.2.2.2.2.2.1, .str s97.2.2.2.2.2.2.2.1, .int .i64 s97.2.2.2.2.2.2.2.2.1, .int .i64 s97.2.2.2.2.2.2.2.2.2.1, .int .i64 s97.2.2.2.2.2.2.2.2.2.2.1, .sl (.own v.2) 2 (s97.2.2.2.2.2.2.2.2.2.2.2.map api.Request.av)]), (v.1, .spare), (v.2, .spare)]) ?_ ?_
    · have h := s97e
      refine aw_block ?_
      refine aw_claimCell 1 11 rfl rfl fun t125 => ?_
      refine aw_while (σ := parse.Feed.S0) (ν := Nat × Nat) (parse.Feed.body0 in_ l) (fun s115 v => [(6, .ptr p66 0), (9, .ptr p70 0)]) (fun s115 v => [(p66, .cells [.str ([] : List UInt8), .sl .full 1 (([] : List (List UInt8)).map AV.str), .int .i64 0, .int .i64 0, .bool false, .int .i64 0, .int .i64 0]), (p70, .cells [.str s115.c, .sl (.own v.1) 1 (s115.c2.map AV.str), .int .i64 s115.c3, .int .i64 s115.c4, .bool s115.c5, .int .i64 s115.c6, .int .i64 s115.c7, .str s115.c8, .int .i64 s115.c9, .int .i64 s115.c10, .int .i64 s115.c11, .sl (.own v.2) 2 (s115.c12.map api.Request.av)]), (v.1, .spare), (v.2, .spare)]) ⟨([] : List UInt8), r71, in_.Left, in_.Size, in_.Body, in_.Need, in_.Dead, in_.Rest ++ b, r69.Args, r69.Bulk, r69.Line, ([] : List api.Request)⟩ (t72, t125) _ h (Weak.mkL [3, 2, 1, 0] (by decide) ⟨⟨_, rfl, (CellsLe.refl _), rfl⟩, ⟨_, rfl, ⟨(AV.Le.refl _), (AV.Le.refl _), (AV.Le.refl _), (AV.Le.refl _), (AV.Le.refl _), (AV.Le.refl _), (AV.Le.refl _), (AV.Le.refl _), (AV.Le.refl _), (AV.Le.refl _), (AV.Le.refl _), (AV.Le.refl _), trivial⟩, rfl⟩, ⟨_, rfl, rfl⟩, ⟨_, rfl, rfl⟩, trivial⟩ ⟨AEv.tmp rfl, AEv.tmp rfl, trivial⟩) ?_
      rintro s115 ⟨n116, n117⟩ x119 h hx118
      unfold parse.Feed.body0 at h
      refine aw_seq ?_
      refine aw_seq ?_
      refine aw_region ?_
      refine ap (.ptr p70 0) rfl rfl rfl (pu_move rfl (AEv.tmp rfl)) ?_
      obtain ⟨r121, r121e, h⟩ := bind_some h
      refine aops_weak (weak_pick [1, 2, 3, 0] (by decide) rfl) ?_
      refine ac rfl rfl rfl (op_call (vs := [.ptr p70 0]) (H := [(p70, .cells [.str s115.c, .sl (.own n116) 1 (s115.c2.map AV.str), .int .i64 s115.c3, .int .i64 s115.c4, .bool s115.c5, .int .i64 s115.c6, .int .i64 s115.c7, .str s115.c8, .int .i64 s115.c9, .int .i64 s115.c10, .int .i64 s115.c11, .sl (.own n117) 2 (s115.c12.map api.Request.av)]), (n116, .spare), (n117, .spare)]) rfl call51 ⟨(AEv.tmp rfl), trivial⟩ (List.Perm.refl _) (parse.parser.step.ok r121e p70 n116 n117) ?_)
      rintro _ _ ⟨t122, t123, rfl, rfl⟩
      refine aops_nil ?_
      refine aw_cond (b := r121.1) (AEv.tmp rfl) (fun hb124 => ?_) (fun hb124 => ?_)
      · replace h := ite_t hb124 h
        refine aw_skip ?_
        refine aw_block ?_
        refine aw_skip ?_
        obtain rfl := some_of h
        exact ⟨_, (t122, t123), rfl, Weak.mkL [3, 0, 1, 2] (by decide) ⟨⟨_, rfl, (CellsLe.refl _), rfl⟩, ⟨_, rfl, (CellsLe.refl _), rfl⟩, ⟨_, rfl, rfl⟩, ⟨_, rfl, rfl⟩, trivial⟩ ⟨AEv.tmp rfl, AEv.tmp rfl, trivial⟩⟩
      · replace h := ite_fb hb124 h
        refine aw_exit ?_
        obtain rfl := some_of h
        have h := congrArg some (hx118 _ rfl)
        obtain rfl := some_of h
        exact ⟨(t122, t123), Weak.mkL [3, 0, 1, 2] (by decide) ⟨⟨_, rfl, (CellsLe.refl _), rfl⟩, ⟨_, rfl, (CellsLe.refl _), rfl⟩, ⟨_, rfl, rfl⟩, ⟨_, rfl, rfl⟩, trivial⟩ ⟨AEv.tmp rfl, AEv.tmp rfl, trivial⟩⟩
    · rintro ⟨n98, n99⟩
      have h := h100
      refine aw_seq ?_
      refine aw_region ?_
      refine ap (.ptr p70 0) rfl rfl rfl (pu_move rfl (AEv.tmp rfl)) ?_
      refine ap (.ptr p70 0) rfl rfl rfl (pu_move rfl (AEv.tmp rfl)) ?_
      refine ap (.ptr p70 0) rfl rfl rfl (pu_nilCheck rfl (AEv.tmp rfl) rfl) ?_
      refine ap (.ptr p70 7) rfl rfl rfl (pu_fieldAddr rfl underlying93 rfl sizeOf9 (by decide) (AEv.tmp rfl) rfl) ?_
      refine ac rfl rfl rfl (op_load1 (i := 1) rfl isAgg9 (AEv.tmp rfl) rfl rfl ?_)
      obtain ⟨r126, r126e, h⟩ := bind_some h
      refine ac rfl rfl rfl (op_call (vs := [.str s97.2.2.2.2.2.2.2.1]) (H := []) rfl call52 ⟨(AEv.tmp rfl), trivial⟩ (List.Perm.refl _) (strings.Clone.ok r126e) ?_)
      rintro _ _ ⟨rfl, rfl⟩
      refine ap (.ptr p70 0) rfl rfl rfl (pu_nilCheck rfl (AEv.tmp rfl) rfl) ?_
      refine ap (.ptr p70 0) rfl rfl rfl (pu_fieldAddr rfl underlying93 rfl sizeOf29 (by decide) (AEv.tmp rfl) rfl) ?_
      refine ap (.ptr p70 0) rfl rfl rfl (pu_fieldAddr rfl underlying29 rfl sizeOf9 (by decide) (AEv.tmp rfl) rfl) ?_
      refine ac0 rfl rfl (op_store (i := 1) (cs' := [.str r126, .sl (.own n98) 1 (s97.2.1.map AV.str), .int .i64 s97.2.2.1, .int .i64 s97.2.2.2.1, .bool s97.2.2.2.2.1, .int .i64 s97.2.2.2.2.2.1, .int .i64 s97.2.2.2.2.2.2.1, .str s97.2.2.2.2.2.2.2.1, .int .i64 s97.2.2.2.2.2.2.2.2.1, .int .i64 s97.2.2.2.2.2.2.2.2.2.1, .int .i64 s97.2.2.2.2.2.2.2.2.2.2.1, .sl (.own n99) 2 (s97.2.2.2.2.2.2.2.2.2.2.2.map api.Request.av)]) rfl sizeOf9 (AEv.tmp rfl) (v := .str r126) (AEv.tmp rfl) rfl rfl rfl (Nat.le_of_ble_eq_true rfl) rfl ?_)
      refine aops_nil ?_
      refine aw_seq ?_
      refine aw_plan (by decide +kernel) [([], some 49, [9]), ([0], some 50, [49]), ([1], some 51, [50]), ([2], some 52, [51]), ([], some 53, [9]), ([4], some 54, [53]), ([5], some 55, [54]), ([6], some 56, [55]), ([], some 57, [9]), ([8], some 58, [57]), ([9], some 59, [58]), ([10], some 60, [59]), ([11], some 61, [60]), ([3, 0, 1, 2, 3], none, [6, 52]), ([7, 13, 0, 1, 2, 3, 4, 5, 6, 7, 13], some 7, [56]), ([12, 14, 0, 1, 2, 3, 4, 5, 6, 7, 8, 9, 10, 11, 12, 13, 14], some 8, [61])] rfl [[], [0], [0, 1], [0, 1, 2], [], [4], [4, 5], [4, 5, 6], [], [8], [8, 9], [8, 9, 10], [8, 9, 10, 11], [0, 1, 2, 3], [0, 1, 2, 3, 4, 5, 6, 7, 13], [0, 1, 2, 3, 4, 5, 6, 7, 8, 9, 10, 11, 12, 13, 14]] [[], [], [], [(1, 0, false)], [], [], [], [(1, 0, false)], [], [], [], [], [(1, 0, false)], [(0, 0, true)], [], []] [[13], [], [], []] [[[(p66, .cells [.str ([] : List UInt8), .sl .full 1 (([] : List (List UInt8)).map AV.str), .int .i64 0, .int .i64 0, .bool false, .int .i64 0, .int .i64 0])], [(p66, .cells [.str r126, .sl (.own n98) 1 (s97.2.1.map AV.str), .int .i64 s97.2.2.1, .int .i64 s97.2.2.2.1, .bool s97.2.2.2.2.1, .int .i64 s97.2.2.2.2.2.1, .int .i64 s97.2.2.2.2.2.2.1])]], [[(p70, .cells [.str r126, .sl (.own n98) 1 (s97.2.1.map AV.str), .int .i64 s97.2.2.1, .int .i64 s97.2.2.2.1, .bool s97.2.2.2.2.1, .int .i64 s97.2.2.2.2.2.1, .int .i64 s97.2.2.2.2.2.2.1, .str s97.2.2.2.2.2.2.2.1, .int .i64 s97.2.2.2.2.2.2.2.2.1, .int .i64 s97.2.2.2.2.2.2.2.2.2.1, .int .i64 s97.2.2.2.2.2.2.2.2.2.2.1, .sl (.own n99) 2 (s97.2.2.2.2.2.2.2.2.2.2.2.map api.Request.av)])]], [[(n98, .spare)]], [[(n99, .spare)]]] [.ptr p70 0, .ptr p70 0, .ptr p70 0, .agg [.str r126, .sl (.own n98) 1 (s97.2.1.map AV.str), .int .i64 s97.2.2.1, .int .i64 s97.2.2.2.1, .bool s97.2.2.2.2.1, .int .i64 s97.2.2.2.2.2.1, .int .i64 s97.2.2.2.2.2.2.1], .ptr p70 0, .ptr p70 0, .ptr p70 11, .sl (.own n99) 2 (s97.2.2.2.2.2.2.2.2.2.2.2.map api.Request.av), .ptr p70 0, .ptr p70 0, .ptr p70 0, .ptr p70 6, .int .i64 s97.2.2.2.2.2.2.1, .un, .sl (.own n99) 2 (s97.2.2.2.2.2.2.2.2.2.2.2.map api.Request.av), .int .i64 s97.2.2.2.2.2.2.1] (by decide +kernel) rfl rfl ?_ ?_
      · refine ⟨⟨[9], rfl, stepg_pure rfl (pu_move rfl (AEv.tmp rfl))⟩, ?_⟩
        refine ⟨⟨[49], rfl, stepg_pure rfl (pu_nilCheck rfl (AEv.tmp rfl) rfl)⟩, ?_⟩
        refine ⟨⟨[50], rfl, stepg_pure rfl (pu_fieldAddr rfl underlying93 rfl sizeOf29 (by decide) (AEv.tmp rfl) rfl)⟩, ?_⟩
        refine ⟨⟨[51], rfl, stepg_plain rfl (op_loadN (i := 0) rfl isAgg29 sizeOf29 (AEv.tmp rfl) rfl (Nat.le_of_ble_eq_true rfl) rfl ⟨rfl, rfl⟩)⟩, ?_⟩
        refine ⟨⟨[9], rfl, stepg_pure rfl (pu_move rfl (AEv.tmp rfl))⟩, ?_⟩
        refine ⟨⟨[53], rfl, stepg_pure rfl (pu_nilCheck rfl (AEv.tmp rfl) rfl)⟩, ?_⟩
        refine ⟨⟨[54], rfl, stepg_pure rfl (pu_fieldAddr rfl underlying93 rfl sizeOf30 (by decide) (AEv.tmp rfl) rfl)⟩, ?_⟩
        refine ⟨⟨[55], rfl, stepg_plain rfl (op_load1 (i := 0) rfl isAgg30 (AEv.tmp rfl) rfl rfl ⟨rfl, rfl⟩)⟩, ?_⟩
        refine ⟨⟨[9], rfl, stepg_pure rfl (pu_move rfl (AEv.tmp rfl))⟩, ?_⟩
        refine ⟨⟨[57], rfl, stepg_pure rfl (pu_nilCheck rfl (AEv.tmp rfl) rfl)⟩, ?_⟩
        refine ⟨⟨[58], rfl, stepg_pure rfl (pu_fieldAddr rfl underlying93 rfl sizeOf29 (by decide) (AEv.tmp rfl) rfl)⟩, ?_⟩
        refine ⟨⟨[59], rfl, stepg_pure rfl (pu_fieldAddr rfl underlying29 rfl sizeOf27 (by decide) (AEv.tmp rfl) rfl)⟩, ?_⟩
        refine ⟨⟨[60], rfl, stepg_plain rfl (op_load1 (i := 0) rfl isAgg27 (AEv.tmp rfl) rfl rfl ⟨rfl, rfl⟩)⟩, ?_⟩
        refine ⟨⟨[6, 52], rfl, stepg_plain rfl (op_store (i := 0) (cs' := [.str r126, .sl (.own n98) 1 (s97.2.1.map AV.str), .int .i64 s97.2.2.1, .int .i64 s97.2.2.2.1, .bool s97.2.2.2.2.1, .int .i64 s97.2.2.2.2.2.1, .int .i64 s97.2.2.2.2.2.2.1]) rfl sizeOf29 (AEv.tmp rfl) (v := .agg [.str r126, .sl (.own n98) 1 (s97.2.1.map AV.str), .int .i64 s97.2.2.1, .int .i64 s97.2.2.2.1, .bool s97.2.2.2.2.1, .int .i64 s97.2.2.2.2.2.1, .int .i64 s97.2.2.2.2.2.2.1]) (AEv.tmp rfl) rfl rfl rfl (Nat.le_of_ble_eq_true rfl) rfl ⟨rfl, rfl⟩)⟩, ?_⟩
        refine ⟨⟨[56], rfl, stepg_pure rfl (pu_assign rfl (AEv.tmp rfl))⟩, ?_⟩
        refine ⟨⟨[61], rfl, stepg_pure rfl (pu_assign rfl (AEv.tmp rfl))⟩, ?_⟩
        trivial
      refine aw_ret ?_
      obtain rfl := some_of h
      exact ⟨[.agg [.str r126, .sl (.own n98) 1 (s97.2.1.map AV.str), .int .i64 s97.2.2.1, .int .i64 s97.2.2.2.1, .bool s97.2.2.2.2.1, .int .i64 s97.2.2.2.2.2.1, .int .i64 s97.2.2.2.2.2.2.1], .sl (.own n99) 2 (s97.2.2.2.2.2.2.2.2.2.2.2.map api.Request.av), .int .i64 s97.2.2.2.2.2.2.1], .tup [.agg [.str r126, .sl .no 1 (s97.2.1.map AV.str), .int .i64 s97.2.2.1, .int .i64 s97.2.2.2.1, .bool s97.2.2.2.2.1, .int .i64 s97.2.2.2.2.2.1, .int .i64 s97.2.2.2.2.2.2.1], .sl (.own n99) 2 (s97.2.2.2.2.2.2.2.2.2.2.2.map api.Request.av), .int .i64 s97.2.2.2.2.2.2.1], [(n99, .spare)], ⟨(CellOk.agg 0 (AEv.tmp rfl) rfl isAgg29 sizeOf29 (Nat.le_of_ble_eq_true rfl) rfl), (AEv.tmp rfl), (AEv.tmp rfl), trivial⟩, (AV.Le.tup ⟨(AV.Le.agg ⟨(AV.Le.refl _), (AV.Le.forget _ _ _), (AV.Le.refl _), (AV.Le.refl _), (AV.Le.refl _), (AV.Le.refl _), (AV.Le.refl _), trivial⟩), (AV.Le.refl _), (AV.Le.refl _), trivial⟩), Weak.mkL [3] (by decide) ⟨⟨_, rfl, rfl⟩, trivial⟩ trivial, ⟨n99, rfl, rfl⟩⟩

theorem mewsref05.texts.ok {a : List (List UInt8)} {b : List (List UInt8)} {r : Bool} (h : mewsref05.texts a b = some r) : Go.Lift.Spec prog 55 [.sl .no 1 (a.map AV.str), .sl .no 1 (b.map AV.str)] [] (fun v H => v = .bool r ∧ H = []) := by
  unfold mewsref05.texts at h
  refine Go.Lift.Spec.of_body (rs := [.tmp 4]) func55 rfl rfl (Nat.le_of_ble_eq_true rfl) rfl ?_
  refine aw_seq ?_
  refine aw_region ?_
  refine ap (.bool false) rfl rfl rfl (pu_assign rfl (AEv.bool _)) ?_
  refine aops_nil ?_
  refine aw_seq ?_
  refine aw_seq ?_
  refine aw_region ?_
  refine ap (.sl .no 1 (a.map AV.str)) rfl rfl rfl (pu_move rfl (AEv.tmp rfl)) ?_
  refine ap (.int .i64 (a.length : Int)) rfl rfl rfl (pu_lenM rfl underlying26 (AEv.tmp rfl)) ?_
  refine ap (.sl .no 1 (b.map AV.str)) rfl rfl rfl (pu_move rfl (AEv.tmp rfl)) ?_
  refine ap (.int .i64 (b.length : Int)) rfl rfl rfl (pu_lenM rfl underlying26 (AEv.tmp rfl)) ?_
  refine ap (.bool (!decide ((a.length : Int) = (b.length : Int)))) rfl rfl rfl (pu_int (v := .bool (!decide ((a.length : Int) = (b.length : Int)))) rfl rfl (AEv.tmp rfl) (AEv.tmp rfl) rfl) ?_
  refine aops_nil ?_
  refine aw_cond (b := (!decide ((a.length : Int) = (b.length : Int)))) (AEv.tmp rfl) (fun hb82 => ?_) (fun hb82 => ?_)
  · replace h := ite_f (ndec_t hb82) h
    refine aw_seq ?_
    refine aw_region ?_
    refine ap (.bool false) rfl rfl rfl (pu_assign rfl (AEv.bool _)) ?_
    refine aops_nil ?_
    refine aw_ret ?_
    obtain rfl := some_of h
    exact ⟨[.bool false], _, [], ⟨(AEv.tmp rfl), trivial⟩, (AV.Le.refl _), Weak.mkL [] (by decide) trivial trivial, ⟨rfl, rfl⟩⟩
  · replace h := ite_t (ndec_f hb82) h
    refine aw_skip ?_
    obtain ⟨s81, s81e, h61⟩ := bind_some h
    refine aw_join (σ := Unit) (ν := Unit) (fun u v => []) (fun u v => []) (fun u => s81 = .inl u) ?_ ?_
    · intro s60
      intro _
      rintro rfl
      have h := onSum_inl h61
      refine aw_seq ?_
      refine aw_region ?_
      refine ap (.bool true) rfl rfl rfl (pu_assign rfl (AEv.bool _)) ?_
      refine aops_nil ?_
      refine aw_ret ?_
      obtain rfl := some_of h
      exact ⟨[.bool true], _, [], ⟨(AEv.tmp rfl), trivial⟩, (AV.Le.refl _), Weak.mkL [] (by decide) trivial trivial, ⟨rfl, rfl⟩⟩
    · have h := s81e
      refine aw_seq ?_
      refine aw_region ?_
      refine ap (.int .i64 0) rfl rfl rfl (pu_assign rfl (AEv.int _ _)) ?_
      refine aops_nil ?_
      refine aw_block ?_
      refine aw_while (σ := mewsref05.texts.S0) (ν := Unit) (mewsref05.texts.body0 a b) (fun s73 v => [(0, .sl .no 1 (a.map AV.str)), (1, .sl .no 1 (b.map AV.str)), (5, .int .i64 s73.i)]) (fun s73 v => []) ⟨0⟩ () _ h (Weak.mkL [] (by decide) trivial ⟨AEv.tmp rfl, AEv.tmp rfl, AEv.tmp rfl, trivial⟩) ?_
      rintro s73 _ x75 h hx74
      unfold mewsref05.texts.body0 at h
      refine aw_seq ?_
      refine aw_seq ?_
      refine aw_region ?_
      refine ap (.int .i64 s73.i) rfl rfl rfl (pu_move rfl (AEv.tmp rfl)) ?_
      refine ap (.sl .no 1 (a.map AV.str)) rfl rfl rfl (pu_move rfl (AEv.tmp rfl)) ?_
      refine ap (.int .i64 (a.length : Int)) rfl rfl rfl (pu_lenM rfl underlying26 (AEv.tmp rfl)) ?_
      refine ap (.bool (decide (s73.i < (a.length : Int)))) rfl rfl rfl (pu_int (v := .bool (decide (s73.i < (a.length : Int)))) rfl rfl (AEv.tmp rfl) (AEv.tmp rfl) rfl) ?_
      refine aops_nil ?_
      refine aw_cond (b := decide (s73.i < (a.length : Int))) (AEv.tmp rfl) (fun hb80 => ?_) (fun hb80 => ?_)
      · replace h := ite_t (dec_t hb80) h
        refine aw_skip ?_
        refine aw_seq ?_
        refine aw_block ?_
        refine aw_seq ?_
        obtain ⟨c77, h⟩ := need_of h
        obtain ⟨c78, h⟩ := need_of h
        refine aw_plan (by decide +kernel) [([], some 17, [0]), ([], some 18, [5]), ([0, 1], some 19, [17, 18]), ([2], some 20, [19]), ([], some 21, [1]), ([], some 22, [5]), ([4, 5], some 23, [21, 22]), ([6], some 24, [23]), ([3, 7], some 25, [20, 24])] rfl [[], [], [0, 1], [0, 1, 2], [], [], [4, 5], [4, 5, 6], [0, 1, 2, 3, 4, 5, 6, 7]] [[], [], [], [], [], [], [], [], []] [] [] [.sl .no 1 (a.map AV.str), .int .i64 s73.i, .vptr [.str (ix a s73.i)], .str (ix a s73.i), .sl .no 1 (b.map AV.str), .int .i64 s73.i, .vptr [.str (ix b s73.i)], .str (ix b s73.i), .bool (!decide ((ix a s73.i) = (ix b s73.i)))] (by decide +kernel) rfl rfl ?_ ?_
        · refine ⟨⟨[0], rfl, stepg_pure rfl (pu_move rfl (AEv.tmp rfl))⟩, ?_⟩
          refine ⟨⟨[5], rfl, stepg_pure rfl (pu_move rfl (AEv.tmp rfl))⟩, ?_⟩
          refine ⟨⟨[17, 18], rfl, stepg_pure rfl (pu_indexAddrM rfl underlying26 sizeOf9 (AEv.tmp rfl) (AEv.tmp rfl) c77 rfl)⟩, ?_⟩
          refine ⟨⟨[19], rfl, stepg_plain rfl (op_loadV1 rfl isAgg9 (AEv.tmp rfl) rfl ⟨rfl, rfl⟩)⟩, ?_⟩
          refine ⟨⟨[1], rfl, stepg_pure rfl (pu_move rfl (AEv.tmp rfl))⟩, ?_⟩
          refine ⟨⟨[5], rfl, stepg_pure rfl (pu_move rfl (AEv.tmp rfl))⟩, ?_⟩
          refine ⟨⟨[21, 22], rfl, stepg_pure rfl (pu_indexAddrM rfl underlying26 sizeOf9 (AEv.tmp rfl) (AEv.tmp rfl) c78 rfl)⟩, ?_⟩
          refine ⟨⟨[23], rfl, stepg_plain rfl (op_loadV1 rfl isAgg9 (AEv.tmp rfl) rfl ⟨rfl, rfl⟩)⟩, ?_⟩
          refine ⟨⟨[20, 24], rfl, stepg_pure rfl (pu_str (v := .bool (!decide ((ix a s73.i) = (ix b s73.i)))) rfl rfl (AEv.tmp rfl) (AEv.tmp rfl) rfl)⟩, ?_⟩
          trivial
        refine aw_cond (b := (!decide ((ix a s73.i) = (ix b s73.i)))) (AEv.tmp rfl) (fun hb79 => ?_) (fun hb79 => ?_)
        · replace h := ite_f (ndec_t hb79) h
          refine aw_seq ?_
          refine aw_region ?_
          refine ap (.bool false) rfl rfl rfl (pu_assign rfl (AEv.bool _)) ?_
          refine aops_nil ?_
          refine aw_ret ?_
          obtain rfl := some_of h
          have h := congrArg some (hx74 _ rfl)
          obtain rfl := some_of h
          have h := onSum_inr h61
          obtain rfl := some_of h
          exact ⟨[.bool false], _, [], ⟨(AEv.tmp rfl), trivial⟩, (AV.Le.refl _), Weak.mkL [] (by decide) trivial trivial, ⟨rfl, rfl⟩⟩
        · replace h := ite_t (ndec_f hb79) h
          refine aw_skip ?_
          refine aw_region ?_
          refine ap (.int .i64 s73.i) rfl rfl rfl (pu_move rfl (AEv.tmp rfl)) ?_
          refine ap (.int .i64 (IntKind.wrap .i64 (s73.i + 1))) rfl rfl rfl (pu_int (v := .int .i64 (IntKind.wrap .i64 (s73.i + 1))) rfl rfl (AEv.tmp rfl) (AEv.int _ _) rfl) ?_
          refine ap (.int .i64 (IntKind.wrap .i64 (s73.i + 1))) rfl rfl rfl (pu_assign rfl (AEv.tmp rfl)) ?_
          refine aops_nil ?_
          obtain rfl := some_of h
          exact ⟨_, (), rfl, Weak.mkL [] (by decide) trivial ⟨AEv.tmp rfl, AEv.tmp rfl, (AEv.le (AEv.tmp rfl) (AV.Le.refl _)), trivial⟩⟩
      · replace h := ite_f (dec_f hb80) h
        refine aw_exit ?_
        obtain rfl := some_of h
        have h := congrArg some (hx74 _ rfl)
        exact ⟨(), (), (some_of h).symm, Weak.mkL [] (by decide) trivial trivial⟩

theorem mewsref05.Same.ok {a : List api.Request} {b : List api.Request} {r : Bool} (h : mewsref05.Same a b = some r) : Go.Lift.Spec prog 18 [.sl .no 2 (a.map api.Request.av), .sl .no 2 (b.map api.Request.av)] [] (fun v H => v = .bool r ∧ H = []) := by
  unfold mewsref05.Same at h
  refine Go.Lift.Spec.of_body (rs := [.tmp 4]) func18 rfl rfl (Nat.le_of_ble_eq_true rfl) rfl ?_
  refine aw_seq ?_
  refine aw_region ?_
  refine ap (.bool false) rfl rfl rfl (pu_assign rfl (AEv.bool _)) ?_
  refine aops_nil ?_
  refine aw_seq ?_
  refine aw_seq ?_
  refine aw_region ?_
  refine ap (.sl .no 2 (a.map api.Request.av)) rfl rfl rfl (pu_move rfl (AEv.tmp rfl)) ?_
  refine ap (.int .i64 (a.length : Int)) rfl rfl rfl (pu_lenM rfl underlying30 (AEv.tmp rfl)) ?_
  refine ap (.sl .no 2 (b.map api.Request.av)) rfl rfl rfl (pu_move rfl (AEv.tmp rfl)) ?_
  refine ap (.int .i64 (b.length : Int)) rfl rfl rfl (pu_lenM rfl underlying30 (AEv.tmp rfl)) ?_
  refine ap (.bool (!decide ((a.length : Int) = (b.length : Int)))) rfl rfl rfl (pu_int (v := .bool (!decide ((a.length : Int) = (b.length : Int)))) rfl rfl (AEv.tmp rfl) (AEv.tmp rfl) rfl) ?_
  refine aops_nil ?_
  refine aw_cond (b := (!decide ((a.length : Int) = (b.length : Int)))) (AEv.tmp rfl) (fun hb238 => ?_) (fun hb238 => ?_)
  · replace h := ite_f (ndec_t hb238) h
    refine aw_seq ?_
    refine aw_region ?_
    refine ap (.bool false) rfl rfl rfl (pu_assign rfl (AEv.bool _)) ?_
    refine aops_nil ?_
    refine aw_ret ?_
    obtain rfl := some_of h
    exact ⟨[.bool false], _, [], ⟨(AEv.tmp rfl), trivial⟩, (AV.Le.refl _), Weak.mkL [] (by decide) trivial trivial, ⟨rfl, rfl⟩⟩
  · replace h := ite_t (ndec_f hb238) h
    refine aw_skip ?_
    obtain ⟨s237, s237e, h178⟩ := bind_some h
    refine aw_join (σ := Unit) (ν := Unit) (fun u v => []) (fun u v => []) (fun u => s237 = .inl u) ?_ ?_
    · intro s177
      intro _
      rintro rfl
      have h := onSum_inl h178
      refine aw_seq ?_
      refine aw_region ?_
      refine ap (.bool true) rfl rfl rfl (pu_assign rfl (AEv.bool _)) ?_
      refine aops_nil ?_
      refine aw_ret ?_
      obtain rfl := some_of h
      exact ⟨[.bool true], _, [], ⟨(AEv.tmp rfl), trivial⟩, (AV.Le.refl _), Weak.mkL [] (by decide) trivial trivial, ⟨rfl, rfl⟩⟩
    · have h := s237e
      refine aw_seq ?_
      refine aw_region ?_
      refine ap (.int .i64 0) rfl rfl rfl (pu_assign rfl (AEv.int _ _)) ?_
      refine aops_nil ?_
      refine aw_block ?_
      refine aw_while (σ := mewsref05.Same.S0) (ν := Unit) (mewsref05.Same.body0 a b) (fun s216 v => [(0, .sl .no 2 (a.map api.Request.av)), (1, .sl .no 2 (b.map api.Request.av)), (5, .int .i64 s216.i)]) (fun s216 v => []) ⟨0⟩ () _ h (Weak.mkL [] (by decide) trivial ⟨AEv.tmp rfl, AEv.tmp rfl, AEv.tmp rfl, trivial⟩) ?_
      rintro s216 _ x218 h hx217
      unfold mewsref05.Same.body0 at h
      refine aw_seq ?_
      refine aw_seq ?_
      refine aw_region ?_
      refine ap (.int .i64 s216.i) rfl rfl rfl (pu_move rfl (AEv.tmp rfl)) ?_
      refine ap (.sl .no 2 (a.map api.Request.av)) rfl rfl rfl (pu_move rfl (AEv.tmp rfl)) ?_
      refine ap (.int .i64 (a.length : Int)) rfl rfl rfl (pu_lenM rfl underlying30 (AEv.tmp rfl)) ?_
      refine ap (.bool (decide (s216.i < (a.length : Int)))) rfl rfl rfl (pu_int (v := .bool (decide (s216.i < (a.length : Int)))) rfl rfl (AEv.tmp rfl) (AEv.tmp rfl) rfl) ?_
      refine aops_nil ?_
      refine aw_cond (b := decide (s216.i < (a.length : Int))) (AEv.tmp rfl) (fun hb236 => ?_) (fun hb236 => ?_)
      · replace h := ite_t (dec_t hb236) h
        refine aw_skip ?_
        refine aw_seq ?_
        refine aw_block ?_
        obtain ⟨s226, s226e, h227⟩ := bind_some h
        refine aw_meet (ν := Unit) (fun v => [(0, .sl .no 2 (a.map api.Request.av)), (1, .sl .no 2 (b.map api.Request.av)), (5, .int .i64 s216.i), (41, .bool s226)]) (fun v => []) ?_ ?_
        · have h := s226e
          obtain ⟨c229, h⟩ := need_of h
          obtain ⟨c230, h⟩ := need_of h
          rcases Bool.eq_false_or_eq_true (!decide ((ix a s216.i).Size = (ix b s216.i).Size)) with hb231 | hb231
          · replace h := ite_f (ndec_t hb231) h
            refine aw_plan (by decide +kernel) [([], some 17, [0]), ([], some 18, [5]), ([0, 1], some 19, [17, 18]), ([2], some 20, [19]), ([3], some 21, [20]), ([], some 22, [1]), ([], some 23, [5]), ([5, 6], some 24, [22, 23]), ([7], some 25, [24]), ([8], some 26, [25]), ([4, 9], some 27, [21, 26]), ([10], some 28, [27]), ([11], some 29, [0, 28]), ([11], some 30, [5, 28]), ([12, 13, 11], some 31, [29, 30, 28]), ([14, 11], some 32, [31, 28]), ([15, 11], some 33, [32, 28]), ([11], some 34, [1, 28]), ([11], some 35, [5, 28]), ([17, 18, 11], some 36, [34, 35, 28]), ([19, 11], some 37, [36, 28]), ([20, 11], some 38, [37, 28]), ([16, 21, 11, 11], some 39, [33, 38, 28]), ([22, 11], some 40, [39, 28]), ([11, 23], some 41, [28, 40])] rfl [[], [], [0, 1], [0, 1, 2], [0, 1, 2, 3], [], [], [5, 6], [5, 6, 7], [5, 6, 7, 8], [0, 1, 2, 3, 4, 5, 6, 7, 8, 9], [0, 1, 2, 3, 4, 5, 6, 7, 8, 9, 10], [0, 1, 2, 3, 4, 5, 6, 7, 8, 9, 10, 11], [0, 1, 2, 3, 4, 5, 6, 7, 8, 9, 10, 11], [0, 1, 2, 3, 4, 5, 6, 7, 8, 9, 10, 11, 12, 13], [0, 1, 2, 3, 4, 5, 6, 7, 8, 9, 10, 11, 12, 13, 14], [0, 1, 2, 3, 4, 5, 6, 7, 8, 9, 10, 11, 12, 13, 14, 15], [0, 1, 2, 3, 4, 5, 6, 7, 8, 9, 10, 11], [0, 1, 2, 3, 4, 5, 6, 7, 8, 9, 10, 11], [0, 1, 2, 3, 4, 5, 6, 7, 8, 9, 10, 11, 17, 18], [0, 1, 2, 3, 4, 5, 6, 7, 8, 9, 10, 11, 17, 18, 19], [0, 1, 2, 3, 4, 5, 6, 7, 8, 9, 10, 11, 17, 18, 19, 20], [0, 1, 2, 3, 4, 5, 6, 7, 8, 9, 10, 11, 12, 13, 14, 15, 16, 17, 18, 19, 20, 21], [0, 1, 2, 3, 4, 5, 6, 7, 8, 9, 10, 11, 12, 13, 14, 15, 16, 17, 18, 19, 20, 21, 22], [0, 1, 2, 3, 4, 5, 6, 7, 8, 9, 10, 11, 12, 13, 14, 15, 16, 17, 18, 19, 20, 21, 22, 23]] [[], [], [], [], [], [], [], [], [], [], [], [], [], [], [], [], [], [], [], [], [], [], [], [], []] [] [] [.sl .no 2 (a.map api.Request.av), .int .i64 s216.i, .vptr [.sl .no 1 ((ix a s216.i).Args.map AV.str), .int .i64 (ix a s216.i).Size], .vptr [.int .i64 (ix a s216.i).Size], .int .i64 (ix a s216.i).Size, .sl .no 2 (b.map api.Request.av), .int .i64 s216.i, .vptr [.sl .no 1 ((ix b s216.i).Args.map AV.str), .int .i64 (ix b s216.i).Size], .vptr [.int .i64 (ix b s216.i).Size], .int .i64 (ix b s216.i).Size, .bool (!decide ((ix a s216.i).Size = (ix b s216.i).Size)), .bool true, .lit undef, .lit undef, .lit undef, .lit undef, .lit undef, .lit undef, .lit undef, .lit undef, .lit undef, .lit undef, .lit undef, .lit undef, .bool true] (by decide +kernel) rfl rfl ?_ ?_
            · refine ⟨⟨[0], rfl, stepg_pure rfl (pu_move rfl (AEv.tmp rfl))⟩, ?_⟩
              refine ⟨⟨[5], rfl, stepg_pure rfl (pu_move rfl (AEv.tmp rfl))⟩, ?_⟩
              refine ⟨⟨[17, 18], rfl, stepg_pure rfl (pu_indexAddrM rfl underlying30 sizeOf44 (AEv.tmp rfl) (AEv.tmp rfl) c229 rfl)⟩, ?_⟩
              refine ⟨⟨[19], rfl, stepg_pure rfl (pu_fieldAddr rfl underlying44 rfl sizeOf3 (by decide) (AEv.tmp rfl) rfl)⟩, ?_⟩
              refine ⟨⟨[20], rfl, stepg_plain rfl (op_loadV1 rfl isAgg3 (AEv.tmp rfl) rfl ⟨rfl, rfl⟩)⟩, ?_⟩
              refine ⟨⟨[1], rfl, stepg_pure rfl (pu_move rfl (AEv.tmp rfl))⟩, ?_⟩
              refine ⟨⟨[5], rfl, stepg_pure rfl (pu_move rfl (AEv.tmp rfl))⟩, ?_⟩
              refine ⟨⟨[22, 23], rfl, stepg_pure rfl (pu_indexAddrM rfl underlying30 sizeOf44 (AEv.tmp rfl) (AEv.tmp rfl) c230 rfl)⟩, ?_⟩
              refine ⟨⟨[24], rfl, stepg_pure rfl (pu_fieldAddr rfl underlying44 rfl sizeOf3 (by decide) (AEv.tmp rfl) rfl)⟩, ?_⟩
              refine ⟨⟨[25], rfl, stepg_plain rfl (op_loadV1 rfl isAgg3 (AEv.tmp rfl) rfl ⟨rfl, rfl⟩)⟩, ?_⟩
              refine ⟨⟨[21, 26], rfl, stepg_pure rfl (pu_int (v := .bool (!decide ((ix a s216.i).Size = (ix b s216.i).Size))) rfl rfl (AEv.tmp rfl) (AEv.tmp rfl) rfl)⟩, ?_⟩
              refine ⟨⟨[27], rfl, (stepg_pure rfl (pu_move rfl (AEv.tmp rfl))).cast (congrArg AV.bool hb231)⟩, ?_⟩
              refine ⟨⟨[0, 28], rfl, stepg_pass rfl rfl rfl (by decide) rfl (by decide)⟩, ?_⟩
              refine ⟨⟨[5, 28], rfl, stepg_pass rfl rfl rfl (by decide) rfl (by decide)⟩, ?_⟩
              refine ⟨⟨[28, 29, 30], rfl, stepg_pass rfl rfl rfl (by decide) rfl (by decide)⟩, ?_⟩
              refine ⟨⟨[28, 31], rfl, stepg_pass rfl rfl rfl (by decide) rfl (by decide)⟩, ?_⟩
              refine ⟨⟨[28, 32], rfl, stepg_pass rfl rfl rfl (by decide) rfl (by decide)⟩, ?_⟩
              refine ⟨⟨[1, 28], rfl, stepg_pass rfl rfl rfl (by decide) rfl (by decide)⟩, ?_⟩
              refine ⟨⟨[5, 28], rfl, stepg_pass rfl rfl rfl (by decide) rfl (by decide)⟩, ?_⟩
              refine ⟨⟨[28, 34, 35], rfl, stepg_pass rfl rfl rfl (by decide) rfl (by decide)⟩, ?_⟩
              refine ⟨⟨[28, 36], rfl, stepg_pass rfl rfl rfl (by decide) rfl (by decide)⟩, ?_⟩
              refine ⟨⟨[28, 37], rfl, stepg_pass rfl rfl rfl (by decide) rfl (by decide)⟩, ?_⟩
              refine ⟨⟨[28, 33, 38], rfl, stepg_pass rfl rfl rfl (by decide) rfl (by decide)⟩, ?_⟩
              refine ⟨⟨[28, 39], rfl, stepg_pass rfl rfl rfl (by decide) rfl (by decide)⟩, ?_⟩
              refine ⟨⟨[28, 40], rfl, stepg_pure rfl (pu_pick (b := true) rfl (AEv.tmp rfl) (fun _ => (AEv.bool _)) (fun h => nomatch h))⟩, ?_⟩
              trivial
            obtain rfl := some_of h
            exact ⟨(), Weak.mkL [] (by decide) trivial ⟨AEv.tmp rfl, AEv.tmp rfl, AEv.tmp rfl, AEv.tmp rfl, trivial⟩⟩
          · replace h := ite_t (ndec_f hb231) h
            obtain ⟨c232, h⟩ := need_of h
            obtain ⟨c233, h⟩ := need_of h
            obtain ⟨r234, r234e, h⟩ := bind_some h
            refine aw_plan (by decide +kernel) [([], some 17, [0]), ([], some 18, [5]), ([0, 1], some 19, [17, 18]), ([2], some 20, [19]), ([3], some 21, [20]), ([], some 22, [1]), ([], some 23, [5]), ([5, 6], some 24, [22, 23]), ([7], some 25, [24]), ([8], some 26, [25]), ([4, 9], some 27, [21, 26]), ([10], some 28, [27]), ([11], some 29, [0, 28]), ([11], some 30, [5, 28]), ([12, 13, 11], some 31, [29, 30, 28]), ([14, 11], some 32, [31, 28]), ([15, 11], some 33, [32, 28]), ([11], some 34, [1, 28]), ([11], some 35, [5, 28]), ([17, 18, 11], some 36, [34, 35, 28]), ([19, 11], some 37, [36, 28]), ([20, 11], some 38, [37, 28]), ([16, 21, 11, 11], some 39, [33, 38, 28]), ([22, 11], some 40, [39, 28]), ([11, 23], some 41, [28, 40])] rfl [[], [], [0, 1], [0, 1, 2], [0, 1, 2, 3], [], [], [5, 6], [5, 6, 7], [5, 6, 7, 8], [0, 1, 2, 3, 4, 5, 6, 7, 8, 9], [0, 1, 2, 3, 4, 5, 6, 7, 8, 9, 10], [0, 1, 2, 3, 4, 5, 6, 7, 8, 9, 10, 11], [0, 1, 2, 3, 4, 5, 6, 7, 8, 9, 10, 11], [0, 1, 2, 3, 4, 5, 6, 7, 8, 9, 10, 11, 12, 13], [0, 1, 2, 3, 4, 5, 6, 7, 8, 9, 10, 11, 12, 13, 14], [0, 1, 2, 3, 4, 5, 6, 7, 8, 9, 10, 11, 12, 13, 14, 15], [0, 1, 2, 3, 4, 5, 6, 7, 8, 9, 10, 11], [0, 1, 2, 3, 4, 5, 6, 7, 8, 9, 10, 11], [0, 1, 2, 3, 4, 5, 6, 7, 8, 9, 10, 11, 17, 18], [0, 1, 2, 3, 4, 5, 6, 7, 8, 9, 10, 11, 17, 18, 19], [0, 1, 2, 3, 4, 5, 6, 7, 8, 9, 10, 11, 17, 18, 19, 20], [0, 1, 2, 3, 4, 5, 6, 7, 8, 9, 10, 11, 12, 13, 14, 15, 16, 17, 18, 19, 20, 21], [0, 1, 2, 3, 4, 5, 6, 7, 8, 9, 10, 11, 12, 13, 14, 15, 16, 17, 18, 19, 20, 21, 22], [0, 1, 2, 3, 4, 5, 6, 7, 8, 9, 10, 11, 12, 13, 14, 15, 16, 17, 18, 19, 20, 21, 22, 23]] [[], [], [], [], [], [], [], [], [], [], [], [], [], [], [], [], [], [], [], [], [], [], [], [], []] [] [] [.sl .no 2 (a.map api.Request.av), .int .i64 s216.i, .vptr [.sl .no 1 ((ix a s216.i).Args.map AV.str), .int .i64 (ix a s216.i).Size], .vptr [.int .i64 (ix a s216.i).Size], .int .i64 (ix a s216.i).Size, .sl .no 2 (b.map api.Request.av), .int .i64 s216.i, .vptr [.sl .no 1 ((ix b s216.i).Args.map AV.str), .int .i64 (ix b s216.i).Size], .vptr [.int .i64 (ix b s216.i).Size], .int .i64 (ix b s216.i).Size, .bool (!decide ((ix a s216.i).Size = (ix b s216.i).Size)), .bool false, .sl .no 2 (a.map api.Request.av), .int .i64 s216.i, .vptr [.sl .no 1 ((ix a s216.i).Args.map AV.str), .int .i64 (ix a s216.i).Size], .vptr [.sl .no 1 ((ix a s216.i).Args.map AV.str), .int .i64 (ix a s216.i).Size], .sl .no 1 ((ix a s216.i).Args.map AV.str), .sl .no 2 (b.map api.Request.av), .int .i64 s216.i, .vptr [.sl .no 1 ((ix b s216.i).Args.map AV.str), .int .i64 (ix b s216.i).Size], .vptr [.sl .no 1 ((ix b s216.i).Args.map AV.str), .int .i64 (ix b s216.i).Size], .sl .no 1 ((ix b s216.i).Args.map AV.str), .bool r234, .bool (!r234), .bool (!r234)] (by decide +kernel) rfl rfl ?_ ?_
            · refine ⟨⟨[0], rfl, stepg_pure rfl (pu_move rfl (AEv.tmp rfl))⟩, ?_⟩
              refine ⟨⟨[5], rfl, stepg_pure rfl (pu_move rfl (AEv.tmp rfl))⟩, ?_⟩
              refine ⟨⟨[17, 18], rfl, stepg_pure rfl (pu_indexAddrM rfl underlying30 sizeOf44 (AEv.tmp rfl) (AEv.tmp rfl) c229 rfl)⟩, ?_⟩
              refine ⟨⟨[19], rfl, stepg_pure rfl (pu_fieldAddr rfl underlying44 rfl sizeOf3 (by decide) (AEv.tmp rfl) rfl)⟩, ?_⟩
              refine ⟨⟨[20], rfl, stepg_plain rfl (op_loadV1 rfl isAgg3 (AEv.tmp rfl) rfl ⟨rfl, rfl⟩)⟩, ?_⟩
              refine ⟨⟨[1], rfl, stepg_pure rfl (pu_move rfl (AEv.tmp rfl))⟩, ?_⟩
              refine ⟨⟨[5], rfl, stepg_pure rfl (pu_move rfl (AEv.tmp rfl))⟩, ?_⟩
              refine ⟨⟨[22, 23], rfl, stepg_pure rfl (pu_indexAddrM rfl underlying30 sizeOf44 (AEv.tmp rfl) (AEv.tmp rfl) c230 rfl)⟩, ?_⟩
              refine ⟨⟨[24], rfl, stepg_pure rfl (pu_fieldAddr rfl underlying44 rfl sizeOf3 (by decide) (AEv.tmp rfl) rfl)⟩, ?_⟩
              refine ⟨⟨[25], rfl, stepg_plain rfl (op_loadV1 rfl isAgg3 (AEv.tmp rfl) rfl ⟨rfl, rfl⟩)⟩, ?_⟩
              refine ⟨⟨[21, 26], rfl, stepg_pure rfl (pu_int (v := .bool (!decide ((ix a s216.i).Size = (ix b s216.i).Size))) rfl rfl (AEv.tmp rfl) (AEv.tmp rfl) rfl)⟩, ?_⟩
              refine ⟨⟨[27], rfl, (stepg_pure rfl (pu_move rfl (AEv.tmp rfl))).cast (congrArg AV.bool hb231)⟩, ?_⟩
              refine ⟨⟨[0, 28], rfl, stepg_guardP rfl rfl rfl (by decide) rfl (pu_move rfl (AEv.tmp rfl))⟩, ?_⟩
              refine ⟨⟨[5, 28], rfl, stepg_guardP rfl rfl rfl (by decide) rfl (pu_move rfl (AEv.tmp rfl))⟩, ?_⟩
              refine ⟨⟨[28, 29, 30], rfl, stepg_guardP rfl rfl rfl (by decide) rfl (pu_indexAddrM rfl underlying30 sizeOf44 (AEv.tmp rfl) (AEv.tmp rfl) c232 rfl)⟩, ?_⟩
              refine ⟨⟨[28, 31], rfl, stepg_guardP rfl rfl rfl (by decide) rfl (pu_fieldAddr rfl underlying44 rfl sizeOf26 (by decide) (AEv.tmp rfl) rfl)⟩, ?_⟩
              refine ⟨⟨[28, 32], rfl, stepg_guard rfl rfl rfl (by decide) rfl (op_loadV1 rfl isAgg26 (AEv.tmp rfl) rfl ⟨rfl, rfl⟩)⟩, ?_⟩
              refine ⟨⟨[1, 28], rfl, stepg_guardP rfl rfl rfl (by decide) rfl (pu_move rfl (AEv.tmp rfl))⟩, ?_⟩
              refine ⟨⟨[5, 28], rfl, stepg_guardP rfl rfl rfl (by decide) rfl (pu_move rfl (AEv.tmp rfl))⟩, ?_⟩
              refine ⟨⟨[28, 34, 35], rfl, stepg_guardP rfl rfl rfl (by decide) rfl (pu_indexAddrM rfl underlying30 sizeOf44 (AEv.tmp rfl) (AEv.tmp rfl) c233 rfl)⟩, ?_⟩
              refine ⟨⟨[28, 36], rfl, stepg_guardP rfl rfl rfl (by decide) rfl (pu_fieldAddr rfl underlying44 rfl sizeOf26 (by decide) (AEv.tmp rfl) rfl)⟩, ?_⟩
              refine ⟨⟨[28, 37], rfl, stepg_guard rfl rfl rfl (by decide) rfl (op_loadV1 rfl isAgg26 (AEv.tmp rfl) rfl ⟨rfl, rfl⟩)⟩, ?_⟩
              refine ⟨⟨[28, 33, 38], rfl, stepg_guard rfl rfl rfl (by decide) rfl (op_call (vs := [.sl .no 1 ((ix a s216.i).Args.map AV.str), .sl .no 1 ((ix b s216.i).Args.map AV.str)]) (H := []) rfl call55 ⟨(AEv.tmp rfl), (AEv.tmp rfl), trivial⟩ (R := []) (List.Perm.refl _) (mewsref05.texts.ok r234e) (by rintro _ _ ⟨rfl, rfl⟩; exact ⟨rfl, rfl⟩))⟩, ?_⟩
              refine ⟨⟨[28, 39], rfl, stepg_guardP rfl rfl rfl (by decide) rfl (pu_not rfl (AEv.tmp rfl))⟩, ?_⟩
              refine ⟨⟨[28, 40], rfl, stepg_pure rfl (pu_pick (b := false) rfl (AEv.tmp rfl) (fun h => nomatch h) (fun _ => (AEv.tmp rfl)))⟩, ?_⟩
              trivial
            obtain rfl := some_of h
            exact ⟨(), Weak.mkL [] (by decide) trivial ⟨AEv.tmp rfl, AEv.tmp rfl, AEv.tmp rfl, AEv.tmp rfl, trivial⟩⟩
        · intro _
          have h := h227
          refine aw_cond (b := s226) (AEv.tmp rfl) (fun hb235 => ?_) (fun hb235 => ?_)
          · replace h := ite_t hb235 h
            refine aw_seq ?_
            refine aw_region ?_
            refine ap (.bool false) rfl rfl rfl (pu_assign rfl (AEv.bool _)) ?_
            refine aops_nil ?_
            refine aw_ret ?_
            obtain rfl := some_of h
            have h := congrArg some (hx217 _ rfl)
            obtain rfl := some_of h
            have h := onSum_inr h178
            obtain rfl := some_of h
            exact ⟨[.bool false], _, [], ⟨(AEv.tmp rfl), trivial⟩, (AV.Le.refl _), Weak.mkL [] (by decide) trivial trivial, ⟨rfl, rfl⟩⟩
          · replace h := ite_fb hb235 h
            refine aw_skip ?_
            refine aw_region ?_
            refine ap (.int .i64 s216.i) rfl rfl rfl (pu_move rfl (AEv.tmp rfl)) ?_
            refine ap (.int .i64 (IntKind.wrap .i64 (s216.i + 1))) rfl rfl rfl (pu_int (v := .int .i64 (IntKind.wrap .i64 (s216.i + 1))) rfl rfl (AEv.tmp rfl) (AEv.int _ _) rfl) ?_
            refine ap (.int .i64 (IntKind.wrap .i64 (s216.i + 1))) rfl rfl rfl (pu_assign rfl (AEv.tmp rfl)) ?_
            refine aops_nil ?_
            obtain rfl := some_of h
            exact ⟨_, (), rfl, Weak.mkL [] (by decide) trivial ⟨AEv.tmp rfl, AEv.tmp rfl, (AEv.le (AEv.tmp rfl) (AV.Le.refl _)), trivial⟩⟩
      · replace h := ite_f (dec_f hb236) h
        refine aw_exit ?_
        obtain rfl := some_of h
        have h := congrArg some (hx217 _ rfl)
        exact ⟨(), (), (some_of h).symm, Weak.mkL [] (by decide) trivial trivial⟩

theorem parse.Idle.ok {in_ : api.Input} {r : Bool} (h : parse.Idle in_ = some r) : Go.Lift.Spec prog 21 [.agg (api.Input.ct .no in_)] [] (fun v H => v = .bool r ∧ H = []) := by
  unfold parse.Idle at h
  refine Go.Lift.Spec.of_body (rs := [.tmp 2]) func21 rfl rfl (Nat.le_of_ble_eq_true rfl) rfl ?_
  refine aw_seq ?_
  refine aw_region ?_
  refine ac rfl rfl rfl (op_box (cs := (api.Input.ct .no in_)) (v := .agg (api.Input.ct .no in_)) rfl (AEv.tmp rfl) rfl rfl ?_)
  intro p9
  refine ap (.bool false) rfl rfl rfl (pu_assign rfl (AEv.bool _)) ?_
  refine aops_nil ?_
  obtain ⟨s12, s12e, h13⟩ := letO_of h
  refine aw_meet (ν := Unit) (fun v => [(2, .bool s12)]) (fun v => []) ?_ ?_
  · have h := s12e.symm
    refine aw_region ?_
    refine ap (.ptr p9 0) rfl rfl rfl (pu_fieldAddr rfl underlying29 rfl sizeOf9 (by decide) (AEv.tmp rfl) rfl) ?_
    refine ac rfl rfl rfl (op_load1 (i := 0) rfl isAgg9 (AEv.tmp rfl) rfl rfl ?_)
    refine ap (.bool (decide (in_.Rest = ([] : List UInt8)))) rfl rfl rfl (pu_str (v := .bool (decide (in_.Rest = ([] : List UInt8)))) rfl rfl (AEv.tmp rfl) (AEv.const rfl) rfl) ?_
    refine ap (.bool (decide (in_.Rest = ([] : List UInt8)))) rfl rfl rfl (pu_move rfl (AEv.tmp rfl)) ?_
    rcases Bool.eq_false_or_eq_true (decide (in_.Rest = ([] : List UInt8))) with hb15 | hb15
    · replace h := ite_t (dec_t hb15) h
      refine aops_known 6 rfl hb15 ?_
      refine agp (.ptr p9 3) rfl rfl rfl rfl rfl rfl rfl (pu_fieldAddr rfl underlying29 rfl sizeOf3 (by decide) (AEv.tmp rfl) rfl) ?_
      refine ag rfl rfl rfl rfl rfl rfl rfl (op_load1 (i := 0) rfl isAgg3 (AEv.tmp rfl) rfl rfl ?_)
      refine agp (.bool (decide (in_.Size = 0))) rfl rfl rfl rfl rfl rfl rfl (pu_int (v := .bool (decide (in_.Size = 0))) rfl rfl (AEv.tmp rfl) (AEv.int _ _) rfl) ?_
      refine ap (.bool (decide (in_.Size = 0))) rfl rfl rfl (pu_pick (b := true) rfl (AEv.tmp rfl) (fun _ => (AEv.tmp rfl)) (fun h => nomatch h)) ?_
      refine ap (.bool (decide (in_.Size = 0))) rfl rfl rfl (pu_move rfl (AEv.tmp rfl)) ?_
      rcases Bool.eq_false_or_eq_true (decide (in_.Size = 0)) with hb16 | hb16
      · replace h := ite_t (dec_t hb16) h
        refine aops_known 11 rfl hb16 ?_
        refine agp (.ptr p9 6) rfl rfl rfl rfl rfl rfl rfl (pu_fieldAddr rfl underlying29 rfl sizeOf27 (by decide) (AEv.tmp rfl) rfl) ?_
        refine ag rfl rfl rfl rfl rfl rfl rfl (op_load1 (i := 0) rfl isAgg27 (AEv.tmp rfl) rfl rfl ?_)
        refine agp (.bool (decide (in_.Dead = 0))) rfl rfl rfl rfl rfl rfl rfl (pu_int (v := .bool (decide (in_.Dead = 0))) rfl rfl (AEv.tmp rfl) (AEv.int _ _) rfl) ?_
        refine ap (.bool (decide (in_.Dead = 0))) rfl rfl rfl (pu_pick (b := true) rfl (AEv.tmp rfl) (fun _ => (AEv.tmp rfl)) (fun h => nomatch h)) ?_
        refine ap (.bool (decide (in_.Dead = 0))) rfl rfl rfl (pu_assign rfl (AEv.tmp rfl)) ?_
        refine aops_nil ?_
        subst h
        exact ⟨(), Weak.mkL [] (by decide) trivial ⟨(AEv.le (AEv.tmp rfl) (AV.Le.refl _)), trivial⟩⟩
      · replace h := ite_f (dec_f hb16) h
        refine aops_known 11 rfl hb16 ?_
        refine an rfl rfl rfl rfl rfl rfl rfl rfl ?_
        refine an rfl rfl rfl rfl rfl rfl rfl rfl ?_
        refine an rfl rfl rfl rfl rfl rfl rfl rfl ?_
        refine ap (.bool false) rfl rfl rfl (pu_pick (b := false) rfl (AEv.tmp rfl) (fun h => nomatch h) (fun _ => (AEv.bool _))) ?_
        refine ap (.bool false) rfl rfl rfl (pu_assign rfl (AEv.tmp rfl)) ?_
        refine aops_nil ?_
        subst h
        exact ⟨(), Weak.mkL [] (by decide) trivial ⟨AEv.tmp rfl, trivial⟩⟩
    · replace h := ite_f (dec_f hb15) h
      refine aops_known 6 rfl hb15 ?_
      refine an rfl rfl rfl rfl rfl rfl rfl rfl ?_
      refine an rfl rfl rfl rfl rfl rfl rfl rfl ?_
      refine an rfl rfl rfl rfl rfl rfl rfl rfl ?_
      refine ap (.bool false) rfl rfl rfl (pu_pick (b := false) rfl (AEv.tmp rfl) (fun h => nomatch h) (fun _ => (AEv.bool _))) ?_
      refine ap (.bool false) rfl rfl rfl (pu_move rfl (AEv.tmp rfl)) ?_
      refine an rfl rfl rfl rfl rfl rfl rfl rfl ?_
      refine an rfl rfl rfl rfl rfl rfl rfl rfl ?_
      refine an rfl rfl rfl rfl rfl rfl rfl rfl ?_
      refine ap (.bool false) rfl rfl rfl (pu_pick (b := false) rfl (AEv.tmp rfl) (fun h => nomatch h) (fun _ => (AEv.bool _))) ?_
      refine ap (.bool false) rfl rfl rfl (pu_assign rfl (AEv.tmp rfl)) ?_
      refine aops_nil ?_
      subst h
      exact ⟨(), Weak.mkL [] (by decide) trivial ⟨AEv.tmp rfl, trivial⟩⟩
  · intro _
    have h := h13
    refine aw_ret ?_
    obtain rfl := some_of h
    exact ⟨[.bool s12], _, [], ⟨(AEv.tmp rfl), trivial⟩, (AV.Le.refl _), Weak.mkL [] (by decide) trivial trivial, ⟨rfl, rfl⟩⟩

theorem mewslaw05.alive.ok  {r : Bool} (h : mewslaw05.alive = some r) : Go.Lift.Spec prog 14 [] [] (fun v H => v = .bool r ∧ H = []) := by
  unfold mewslaw05.alive at h
  refine Go.Lift.Spec.of_body (rs := [.tmp 0]) func14 rfl rfl (Nat.le_of_ble_eq_true rfl) rfl ?_
  refine aw_seq ?_
  refine aw_region ?_
  refine ap (.bool false) rfl rfl rfl (pu_assign rfl (AEv.bool _)) ?_
  refine aops_nil ?_
  refine aw_seq ?_
  refine aw_region ?_
  refine ap (.agg [.int .i64 9, .int .i64 9, .int .i64 9]) rfl rfl rfl (pu_build (zs := [.int .i64 0, .int .i64 0, .int .i64 0]) (szs := [1, 1, 1]) (aparts := [(0, .int .i64 9), (1, .int .i64 9), (2, .int .i64 9)]) (cs := [.int .i64 9, .int .i64 9, .int .i64 9]) rfl underlying23 zeroValue23 rfl ⟨sizeOf3, sizeOf3, sizeOf3, trivial⟩ ⟨rfl, (AEv.int _ _), ⟨rfl, (AEv.int _ _), ⟨rfl, (AEv.int _ _), trivial⟩⟩⟩ rfl) ?_
  refine ac rfl rfl rfl (op_alloc (cs := [.int .i64 0, .int .i64 0, .int .i64 0]) (v := .agg [.int .i64 0, .int .i64 0, .int .i64 0]) rfl zeroValue23 rfl rfl rfl ?_)
  intro p22
  refine ac0 rfl rfl (op_store (i := 0) (cs' := [.int .i64 9, .int .i64 9, .int .i64 9]) rfl sizeOf23 (AEv.tmp rfl) (v := .agg [.int .i64 9, .int .i64 9, .int .i64 9]) (AEv.tmp rfl) rfl rfl rfl (Nat.le_of_ble_eq_true rfl) rfl ?_)
  refine aops_nil ?_
  refine aw_seq ?_
  refine aw_region ?_
  refine ap (.agg [.str ([] : List UInt8), .sl .full 1 (([] : List (List UInt8)).map AV.str), .int .i64 0, .int .i64 0, .bool false, .int .i64 0, .int .i64 0]) rfl rfl rfl (pu_build (zs := [.str ([] : List UInt8), .sl .full 1 (([] : List (List UInt8)).map AV.str), .int .i64 0, .int .i64 0, .bool false, .int .i64 0, .int .i64 0]) (szs := [1, 1, 1, 1, 1, 1, 1]) (aparts := []) (cs := [.str ([] : List UInt8), .sl .full 1 (([] : List (List UInt8)).map AV.str), .int .i64 0, .int .i64 0, .bool false, .int .i64 0, .int .i64 0]) rfl underlying29 zeroValue29 rfl ⟨sizeOf9, sizeOf26, sizeOf3, sizeOf3, sizeOf4, sizeOf3, sizeOf27, trivial⟩ trivial rfl) ?_
  refine ac rfl rfl rfl (op_loadN (i := 0) rfl isAgg23 sizeOf23 (AEv.tmp rfl) rfl (Nat.le_of_ble_eq_true rfl) rfl ?_)
  obtain ⟨r23, r23e, h⟩ := bind_some h
  refine ac rfl rfl rfl (op_call (vs := [.agg [.str ([] : List UInt8), .sl .no 1 (([] : List (List UInt8)).map AV.str), .int .i64 0, .int .i64 0, .bool false, .int .i64 0, .int .i64 0], .str [42, 49, 13, 10, 36, 52, 13, 10, 80, 73], .agg [.int .i64 9, .int .i64 9, .int .i64 9]]) (H := []) rfl call15 ⟨(AEv.le (AEv.tmp rfl) (AV.Le.agg ⟨(AV.Le.refl _), (AV.Le.forget _ _ _), (AV.Le.refl _), (AV.Le.refl _), (AV.Le.refl _), (AV.Le.refl _), (AV.Le.refl _), trivial⟩)), (AEv.const rfl), (AEv.tmp rfl), trivial⟩ (List.Perm.refl _) (parse.Feed.ok r23e) ?_)
  rintro _ _ ⟨t24, rfl, rfl⟩
  refine ap (.tup [.agg (api.Input.ct .no r23.1), .sl (.own t24) 2 (r23.2.1.map api.Request.av), .int .i64 r23.2.2]) rfl rfl rfl (pu_move rfl (AEv.tmp rfl)) ?_
  refine ap (.agg (api.Input.ct .no r23.1)) rfl rfl rfl (pu_extract rfl (AEv.tmp rfl) (Nat.le_of_ble_eq_true rfl) rfl) ?_
  refine ap (.sl (.own t24) 2 (r23.2.1.map api.Request.av)) rfl rfl rfl (pu_extract rfl (AEv.tmp rfl) (Nat.le_of_ble_eq_true rfl) rfl) ?_
  refine ap (.int .i64 r23.2.2) rfl rfl rfl (pu_extract rfl (AEv.tmp rfl) (Nat.le_of_ble_eq_true rfl) rfl) ?_
  refine ac rfl rfl rfl (op_alloc (cs := [.str ([] : List UInt8), .sl .full 1 (([] : List (List UInt8)).map AV.str), .int .i64 0, .int .i64 0, .bool false, .int .i64 0, .int .i64 0]) (v := .agg [.str ([] : List UInt8), .sl .full 1 (([] : List (List UInt8)).map AV.str), .int .i64 0, .int .i64 0, .bool false, .int .i64 0, .int .i64 0]) rfl zeroValue29 rfl rfl rfl ?_)
  intro p25
  refine ac0 rfl rfl (op_store (i := 0) (cs' := (api.Input.ct .no r23.1)) rfl sizeOf29 (AEv.tmp rfl) (v := .agg (api.Input.ct .no r23.1)) (AEv.tmp rfl) rfl rfl rfl (Nat.le_of_ble_eq_true rfl) rfl ?_)
  refine ap (.sl (.own t24) 2 (r23.2.1.map api.Request.av)) rfl rfl rfl (pu_assign rfl (AEv.tmp rfl)) ?_
  refine ap (.int .i64 r23.2.2) rfl rfl rfl (pu_assign rfl (AEv.tmp rfl)) ?_
  refine aops_nil ?_
  refine aw_seq ?_
  refine aw_region ?_
  refine ac rfl rfl rfl (op_loadN (i := 0) rfl isAgg29 sizeOf29 (AEv.tmp rfl) rfl (Nat.le_of_ble_eq_true rfl) rfl ?_)
  refine ac rfl rfl rfl (op_loadN (i := 2) rfl isAgg23 sizeOf23 (AEv.tmp rfl) rfl (Nat.le_of_ble_eq_true rfl) rfl ?_)
  obtain ⟨r26, r26e, h⟩ := bind_some h
  refine ac rfl rfl rfl (op_call (vs := [.agg (api.Input.ct .no r23.1), .str [78, 71, 13, 10, 71, 69, 84, 32, 97, 10], .agg [.int .i64 9, .int .i64 9, .int .i64 9]]) (H := []) rfl call15 ⟨(AEv.tmp rfl), (AEv.const rfl), (AEv.tmp rfl), trivial⟩ (List.Perm.refl _) (parse.Feed.ok r26e) ?_)
  rintro _ _ ⟨t27, rfl, rfl⟩
  refine ap (.tup [.agg (api.Input.ct .no r26.1), .sl (.own t27) 2 (r26.2.1.map api.Request.av), .int .i64 r26.2.2]) rfl rfl rfl (pu_move rfl (AEv.tmp rfl)) ?_
  refine ap (.agg (api.Input.ct .no r26.1)) rfl rfl rfl (pu_extract rfl (AEv.tmp rfl) (Nat.le_of_ble_eq_true rfl) rfl) ?_
  refine ap (.sl (.own t27) 2 (r26.2.1.map api.Request.av)) rfl rfl rfl (pu_extract rfl (AEv.tmp rfl) (Nat.le_of_ble_eq_true rfl) rfl) ?_
  refine ap (.int .i64 r26.2.2) rfl rfl rfl (pu_extract rfl (AEv.tmp rfl) (Nat.le_of_ble_eq_true rfl) rfl) ?_
  refine ac0 rfl rfl (op_store (i := 1) (cs' := (api.Input.ct .no r26.1)) rfl sizeOf29 (AEv.tmp rfl) (v := .agg (api.Input.ct .no r26.1)) (AEv.tmp rfl) rfl rfl rfl (Nat.le_of_ble_eq_true rfl) rfl ?_)
  refine ap (.sl (.own t27) 2 (r26.2.1.map api.Request.av)) rfl rfl rfl (pu_assign rfl (AEv.tmp rfl)) ?_
  refine ap (.int .i64 r26.2.2) rfl rfl rfl (pu_assign rfl (AEv.tmp rfl)) ?_
  refine aops_nil ?_
  obtain ⟨s34, s34e, h35⟩ := bind_some h
  refine aw_meet (ν := Unit) (fun v => [(0, .bool s34)]) (fun v => []) ?_ ?_
  · have h := s34e
    refine aw_region ?_
    refine ap (.sl (.own t24) 2 (r23.2.1.map api.Request.av)) rfl rfl rfl (pu_move rfl (AEv.tmp rfl)) ?_
    refine ap (.int .i64 (r23.2.1.length : Int)) rfl rfl rfl (pu_lenM rfl underlying30 (AEv.tmp rfl)) ?_
    refine ap (.bool (decide ((r23.2.1.length : Int) = 0))) rfl rfl rfl (pu_int (v := .bool (decide ((r23.2.1.length : Int) = 0))) rfl rfl (AEv.tmp rfl) (AEv.int _ _) rfl) ?_
    refine ap (.bool (decide ((r23.2.1.length : Int) = 0))) rfl rfl rfl (pu_move rfl (AEv.tmp rfl)) ?_
    rcases Bool.eq_false_or_eq_true (decide ((r23.2.1.length : Int) = 0)) with hb37 | hb37
    · replace h := ite_t (dec_t hb37) h
      refine aops_known 25 rfl hb37 ?_
      refine agp (.int .i64 r23.2.2) rfl rfl rfl rfl rfl rfl rfl (pu_move rfl (AEv.tmp rfl)) ?_
      refine agp (.bool (decide (r23.2.2 = 0))) rfl rfl rfl rfl rfl rfl rfl (pu_int (v := .bool (decide (r23.2.2 = 0))) rfl rfl (AEv.tmp rfl) (AEv.int _ _) rfl) ?_
      refine ap (.bool (decide (r23.2.2 = 0))) rfl rfl rfl (pu_pick (b := true) rfl (AEv.tmp rfl) (fun _ => (AEv.tmp rfl)) (fun h => nomatch h)) ?_
      refine ap (.bool (decide (r23.2.2 = 0))) rfl rfl rfl (pu_move rfl (AEv.tmp rfl)) ?_
      rcases Bool.eq_false_or_eq_true (decide (r23.2.2 = 0)) with hb38 | hb38
      · replace h := ite_t (dec_t hb38) h
        refine aops_known 29 rfl hb38 ?_
        refine agp (.int .i64 r26.2.2) rfl rfl rfl rfl rfl rfl rfl (pu_move rfl (AEv.tmp rfl)) ?_
        refine agp (.bool (decide (r26.2.2 = 0))) rfl rfl rfl rfl rfl rfl rfl (pu_int (v := .bool (decide (r26.2.2 = 0))) rfl rfl (AEv.tmp rfl) (AEv.int _ _) rfl) ?_
        refine ap (.bool (decide (r26.2.2 = 0))) rfl rfl rfl (pu_pick (b := true) rfl (AEv.tmp rfl) (fun _ => (AEv.tmp rfl)) (fun h => nomatch h)) ?_
        refine ap (.bool (decide (r26.2.2 = 0))) rfl rfl rfl (pu_move rfl (AEv.tmp rfl)) ?_
        rcases Bool.eq_false_or_eq_true (decide (r26.2.2 = 0)) with hb39 | hb39
        · replace h := ite_t (dec_t hb39) h
          refine aops_known 33 rfl hb39 ?_
          refine agp (.sl (.own t27) 2 (r26.2.1.map api.Request.av)) rfl rfl rfl rfl rfl rfl rfl (pu_move rfl (AEv.tmp rfl)) ?_
          refine ag rfl rfl rfl rfl rfl rfl rfl (op_buildSlice (xs := ([[80, 73, 78, 71]] : List (List UInt8)).map AV.str) (aparts := [(0, .str [80, 73, 78, 71])]) rfl underlying26 sizeOf9 zeroValue9 (by decide) (by decide) ⟨rfl, (AEv.const rfl), trivial⟩ rfl rfl rfl ?_)
          refine agp (.agg [.sl .full 1 ([[80, 73, 78, 71]].map AV.str), .int .i64 14]) rfl rfl rfl rfl rfl rfl rfl (pu_build (zs := [.sl .full 1 (([] : List (List UInt8)).map AV.str), .int .i64 0]) (szs := [1, 1]) (aparts := [(0, .sl .full 1 ([[80, 73, 78, 71]].map AV.str)), (1, .int .i64 14)]) (cs := [.sl .full 1 ([[80, 73, 78, 71]].map AV.str), .int .i64 14]) rfl underlying44 zeroValue44 rfl ⟨sizeOf26, sizeOf3, trivial⟩ ⟨rfl, (AEv.tmp rfl), ⟨rfl, (AEv.int _ _), trivial⟩⟩ rfl) ?_
          refine ag rfl rfl rfl rfl rfl rfl rfl (op_buildSlice (xs := ([[71, 69, 84], [97]] : List (List UInt8)).map AV.str) (aparts := [(0, .str [71, 69, 84]), (1, .str [97])]) rfl underlying26 sizeOf9 zeroValue9 (by decide) (by decide) ⟨rfl, (AEv.const rfl), ⟨rfl, (AEv.const rfl), trivial⟩⟩ rfl rfl rfl ?_)
          refine agp (.agg [.sl .full 1 ([[71, 69, 84], [97]].map AV.str), .int .i64 6]) rfl rfl rfl rfl rfl rfl rfl (pu_build (zs := [.sl .full 1 (([] : List (List UInt8)).map AV.str), .int .i64 0]) (szs := [1, 1]) (aparts := [(0, .sl .full 1 ([[71, 69, 84], [97]].map AV.str)), (1, .int .i64 6)]) (cs := [.sl .full 1 ([[71, 69, 84], [97]].map AV.str), .int .i64 6]) rfl underlying44 zeroValue44 rfl ⟨sizeOf26, sizeOf3, trivial⟩ ⟨rfl, (AEv.tmp rfl), ⟨rfl, (AEv.int _ _), trivial⟩⟩ rfl) ?_
          refine ag rfl rfl rfl rfl rfl rfl rfl (op_buildSlice (xs := ([({ Args := [[80, 73, 78, 71]], Size := 14 } : api.Request), ({ Args := [[71, 69, 84], [97]], Size := 6 } : api.Request)] : List api.Request).map api.Request.av) (aparts := [(0, .agg [.sl .no 1 ([[80, 73, 78, 71]].map AV.str), .int .i64 14]), (1, .agg [.sl .no 1 ([[71, 69, 84], [97]].map AV.str), .int .i64 6])]) rfl underlying30 sizeOf44 zeroValue44 (by decide) (by decide) ⟨rfl, (AEv.le (AEv.tmp rfl) (AV.Le.agg ⟨(AV.Le.forget _ _ _), (AV.Le.refl _), trivial⟩)), ⟨rfl, (AEv.le (AEv.tmp rfl) (AV.Le.agg ⟨(AV.Le.forget _ _ _), (AV.Le.refl _), trivial⟩)), trivial⟩⟩ rfl rfl rfl ?_)
          obtain ⟨r40, r40e, h⟩ := bind_some h
          refine ag rfl rfl rfl rfl rfl rfl rfl (op_call (vs := [.sl .no 2 (r26.2.1.map api.Request.av), .sl .no 2 ([({ Args := [[80, 73, 78, 71]], Size := 14 } : api.Request), ({ Args := [[71, 69, 84], [97]], Size := 6 } : api.Request)].map api.Request.av)]) (H := []) rfl call18 ⟨(AEv.le (AEv.tmp rfl) (AV.Le.forget _ _ _)), (AEv.le (AEv.tmp rfl) (AV.Le.forget _ _ _)), trivial⟩ (List.Perm.refl _) (mewsref05.Same.ok r40e) ?_)
          rintro _ _ ⟨rfl, rfl⟩
          refine ap (.bool r40) rfl rfl rfl (pu_pick (b := true) rfl (AEv.tmp rfl) (fun _ => (AEv.tmp rfl)) (fun h => nomatch h)) ?_
          refine ap (.bool r40) rfl rfl rfl (pu_move rfl (AEv.tmp rfl)) ?_
          rcases Bool.eq_false_or_eq_true r40 with hb41 | hb41
          · replace h := ite_t hb41 h
            refine aops_known 42 rfl hb41 ?_
            refine ag rfl rfl rfl rfl rfl rfl rfl (op_loadN (i := 1) rfl isAgg29 sizeOf29 (AEv.tmp rfl) rfl (Nat.le_of_ble_eq_true rfl) rfl ?_)
            obtain ⟨r42, r42e, h⟩ := bind_some h
            refine ag rfl rfl rfl rfl rfl rfl rfl (op_call (vs := [.agg (api.Input.ct .no r26.1)]) (H := []) rfl call21 ⟨(AEv.tmp rfl), trivial⟩ (List.Perm.refl _) (parse.Idle.ok r42e) ?_)
            rintro _ _ ⟨rfl, rfl⟩
            refine ap (.bool r42) rfl rfl rfl (pu_pick (b := true) rfl (AEv.tmp rfl) (fun _ => (AEv.tmp rfl)) (fun h => nomatch h)) ?_
            refine ap (.bool r42) rfl rfl rfl (pu_assign rfl (AEv.tmp rfl)) ?_
            refine aops_nil ?_
            obtain rfl := some_of h
            exact ⟨(), Weak.mkL [] (by decide) trivial ⟨AEv.tmp rfl, trivial⟩⟩
          · replace h := ite_fb hb41 h
            refine aops_known 42 rfl hb41 ?_
            refine an rfl rfl rfl rfl rfl rfl rfl rfl ?_
            refine an rfl rfl rfl rfl rfl rfl rfl rfl ?_
            refine ap (.bool false) rfl rfl rfl (pu_pick (b := false) rfl (AEv.tmp rfl) (fun h => nomatch h) (fun _ => (AEv.bool _))) ?_
            refine ap (.bool false) rfl rfl rfl (pu_assign rfl (AEv.tmp rfl)) ?_
            refine aops_nil ?_
            obtain rfl := some_of h
            exact ⟨(), Weak.mkL [] (by decide) trivial ⟨AEv.tmp rfl, trivial⟩⟩
        · replace h := ite_f (dec_f hb39) h
          refine aops_known 33 rfl hb39 ?_
          refine an rfl rfl rfl rfl rfl rfl rfl rfl ?_
          refine an rfl rfl rfl rfl rfl rfl rfl rfl ?_
          refine an rfl rfl rfl rfl rfl rfl rfl rfl ?_
          refine an rfl rfl rfl rfl rfl rfl rfl rfl ?_
          refine an rfl rfl rfl rfl rfl rfl rfl rfl ?_
          refine an rfl rfl rfl rfl rfl rfl rfl rfl ?_
          refine an rfl rfl rfl rfl rfl rfl rfl rfl ?_
          refine ap (.bool false) rfl rfl rfl (pu_pick (b := false) rfl (AEv.tmp rfl) (fun h => nomatch h) (fun _ => (AEv.bool _))) ?_
          refine ap (.bool false) rfl rfl rfl (pu_move rfl (AEv.tmp rfl)) ?_
          refine an rfl rfl rfl rfl rfl rfl rfl rfl ?_
          refine an rfl rfl rfl rfl rfl rfl rfl rfl ?_
          refine ap (.bool false) rfl rfl rfl (pu_pick (b := false) rfl (AEv.tmp rfl) (fun h => nomatch h) (fun _ => (AEv.bool _))) ?_
          refine ap (.bool false) rfl rfl rfl (pu_assign rfl (AEv.tmp rfl)) ?_
          refine aops_nil ?_
          obtain rfl := some_of h
          exact ⟨(), Weak.mkL [] (by decide) trivial ⟨AEv.tmp rfl, trivial⟩⟩
      · replace h := ite_f (dec_f hb38) h
        refine aops_known 29 rfl hb38 ?_
        refine an rfl rfl rfl rfl rfl rfl rfl rfl ?_
        refine an rfl rfl rfl rfl rfl rfl rfl rfl ?_
        refine ap (.bool false) rfl rfl rfl (pu_pick (b := false) rfl (AEv.tmp rfl) (fun h => nomatch h) (fun _ => (AEv.bool _))) ?_
        refine ap (.bool false) rfl rfl rfl (pu_move rfl (AEv.tmp rfl)) ?_
        refine an rfl rfl rfl rfl rfl rfl rfl rfl ?_
        refine an rfl rfl rfl rfl rfl rfl rfl rfl ?_
        refine an rfl rfl rfl rfl rfl rfl rfl rfl ?_
        refine an rfl rfl rfl rfl rfl rfl rfl rfl ?_
        refine an rfl rfl rfl rfl rfl rfl rfl rfl ?_
        refine an rfl rfl rfl rfl rfl rfl rfl rfl ?_
        refine an rfl rfl rfl rfl rfl rfl rfl rfl ?_
        refine ap (.bool false) rfl rfl rfl (pu_pick (b := false) rfl (AEv.tmp rfl) (fun h => nomatch h) (fun _ => (AEv.bool _))) ?_
        refine ap (.bool false) rfl rfl rfl (pu_move rfl (AEv.tmp rfl)) ?_
        refine an rfl rfl rfl rfl rfl rfl rfl rfl ?_
        refine an rfl rfl rfl rfl rfl rfl rfl rfl ?_
        refine ap (.bool false) rfl rfl rfl (pu_pick (b := false) rfl (AEv.tmp rfl) (fun h => nomatch h) (fun _ => (AEv.bool _))) ?_
        refine ap (.bool false) rfl rfl rfl (pu_assign rfl (AEv.tmp rfl)) ?_
        refine aops_nil ?_
        obtain rfl := some_of h
        exact ⟨(), Weak.mkL [] (by decide) trivial ⟨AEv.tmp rfl, trivial⟩⟩
    · replace h := ite_f (dec_f hb37) h
      refine aops_known 25 rfl hb37 ?_
      refine an rfl rfl rfl rfl rfl rfl rfl rfl ?_
      refine an rfl rfl rfl rfl rfl rfl rfl rfl ?_
      refine ap (.bool false) rfl rfl rfl (pu_pick (b := false) rfl (AEv.tmp rfl) (fun h => nomatch h) (fun _ => (AEv.bool _))) ?_
      refine ap (.bool false) rfl rfl rfl (pu_move rfl (AEv.tmp rfl)) ?_
      refine an rfl rfl rfl rfl rfl rfl rfl rfl ?_
      refine an rfl rfl rfl rfl rfl rfl rfl rfl ?_
      refine ap (.bool false) rfl rfl rfl (pu_pick (b := false) rfl (AEv.tmp rfl) (fun h => nomatch h) (fun _ => (AEv.bool _))) ?_
      refine ap (.bool false) rfl rfl rfl (pu_move rfl (AEv.tmp rfl)) ?_
      refine an rfl rfl rfl rfl rfl rfl rfl rfl ?_
      refine an rfl rfl rfl rfl rfl rfl rfl rfl ?_
      refine an rfl rfl rfl rfl rfl rfl rfl rfl ?_
      refine an rfl rfl rfl rfl rfl rfl rfl rfl ?_
      refine an rfl rfl rfl rfl rfl rfl rfl rfl ?_
      refine an rfl rfl rfl rfl rfl rfl rfl rfl ?_
      refine an rfl rfl rfl rfl rfl rfl rfl rfl ?_
      refine ap (.bool false) rfl rfl rfl (pu_pick (b := false) rfl (AEv.tmp rfl) (fun h => nomatch h) (fun _ => (AEv.bool _))) ?_
      refine ap (.bool false) rfl rfl rfl (pu_move rfl (AEv.tmp rfl)) ?_
      refine an rfl rfl rfl rfl rfl rfl rfl rfl ?_
      refine an rfl rfl rfl rfl rfl rfl rfl rfl ?_
      refine ap (.bool false) rfl rfl rfl (pu_pick (b := false) rfl (AEv.tmp rfl) (fun h => nomatch h) (fun _ => (AEv.bool _))) ?_
      refine ap (.bool false) rfl rfl rfl (pu_assign rfl (AEv.tmp rfl)) ?_
      refine aops_nil ?_
      obtain rfl := some_of h
      exact ⟨(), Weak.mkL [] (by decide) trivial ⟨AEv.tmp rfl, trivial⟩⟩
  · intro _
    have h := h35
    refine aw_ret ?_
    obtain rfl := some_of h
    exact ⟨[.bool s34], _, [], ⟨(AEv.tmp rfl), trivial⟩, (AV.Le.refl _), Weak.mkL [] (by decide) trivial trivial, ⟨rfl, rfl⟩⟩

theorem mewsref05.between.ok {n_ : Int} {most : Int} {r : Int} (h : mewsref05.between n_ most = some r) : Go.Lift.Spec prog 56 [.int .i64 n_, .int .i64 most] [] (fun v H => v = .int .i64 r ∧ H = []) := by
  unfold mewsref05.between at h
  refine Go.Lift.Spec.of_body (rs := [.tmp 4]) func56 rfl rfl (Nat.le_of_ble_eq_true rfl) rfl ?_
  refine aw_seq ?_
  refine aw_region ?_
  refine ap (.int .i64 0) rfl rfl rfl (pu_assign rfl (AEv.int _ _)) ?_
  refine aops_nil ?_
  refine aw_seq ?_
  refine aw_seq ?_
  refine aw_region ?_
  refine ap (.int .i64 n_) rfl rfl rfl (pu_move rfl (AEv.tmp rfl)) ?_
  refine ap (.bool (decide (n_ < 1))) rfl rfl rfl (pu_int (v := .bool (decide (n_ < 1))) rfl rfl (AEv.tmp rfl) (AEv.int _ _) rfl) ?_
  refine aops_nil ?_
  refine aw_cond (b := decide (n_ < 1)) (AEv.tmp rfl) (fun hb4 => ?_) (fun hb4 => ?_)
  · replace h := ite_t (dec_t hb4) h
    refine aw_seq ?_
    refine aw_region ?_
    refine ap (.int .i64 1) rfl rfl rfl (pu_assign rfl (AEv.int _ _)) ?_
    refine aops_nil ?_
    refine aw_ret ?_
    obtain rfl := some_of h
    exact ⟨[.int .i64 1], _, [], ⟨(AEv.tmp rfl), trivial⟩, (AV.Le.refl _), Weak.mkL [] (by decide) trivial trivial, ⟨rfl, rfl⟩⟩
  · replace h := ite_f (dec_f hb4) h
    refine aw_skip ?_
    refine aw_seq ?_
    refine aw_seq ?_
    refine aw_region ?_
    refine ap (.int .i64 n_) rfl rfl rfl (pu_move rfl (AEv.tmp rfl)) ?_
    refine ap (.int .i64 most) rfl rfl rfl (pu_move rfl (AEv.tmp rfl)) ?_
    refine ap (.bool (decide (most < n_))) rfl rfl rfl (pu_int (v := .bool (decide (most < n_))) rfl rfl (AEv.tmp rfl) (AEv.tmp rfl) rfl) ?_
    refine aops_nil ?_
    refine aw_cond (b := decide (most < n_)) (AEv.tmp rfl) (fun hb3 => ?_) (fun hb3 => ?_)
    · replace h := ite_t (dec_t hb3) h
      refine aw_seq ?_
      refine aw_region ?_
      refine ap (.int .i64 most) rfl rfl rfl (pu_move rfl (AEv.tmp rfl)) ?_
      refine ap (.int .i64 most) rfl rfl rfl (pu_assign rfl (AEv.tmp rfl)) ?_
      refine aops_nil ?_
      refine aw_ret ?_
      obtain rfl := some_of h
      exact ⟨[.int .i64 most], _, [], ⟨(AEv.tmp rfl), trivial⟩, (AV.Le.refl _), Weak.mkL [] (by decide) trivial trivial, ⟨rfl, rfl⟩⟩
    · replace h := ite_f (dec_f hb3) h
      refine aw_skip ?_
      refine aw_seq ?_
      refine aw_region ?_
      refine ap (.int .i64 n_) rfl rfl rfl (pu_move rfl (AEv.tmp rfl)) ?_
      refine ap (.int .i64 n_) rfl rfl rfl (pu_assign rfl (AEv.tmp rfl)) ?_
      refine aops_nil ?_
      refine aw_ret ?_
      obtain rfl := some_of h
      exact ⟨[.int .i64 n_], _, [], ⟨(AEv.tmp rfl), trivial⟩, (AV.Le.refl _), Weak.mkL [] (by decide) trivial trivial, ⟨rfl, rfl⟩⟩

theorem mewsref05.Limits.ok {l : api.Limits} {r : api.Limits} (h : mewsref05.Limits l = some r) : Go.Lift.Spec prog 20 [.agg [.int .i64 l.Args, .int .i64 l.Bulk, .int .i64 l.Line]] [] (fun v H => v = .agg [.int .i64 r.Args, .int .i64 r.Bulk, .int .i64 r.Line] ∧ H = []) := by
  unfold mewsref05.Limits at h
  refine Go.Lift.Spec.of_body (rs := [.cell 2 23]) func20 rfl rfl (Nat.le_of_ble_eq_true rfl) rfl ?_
  refine aw_seq ?_
  refine aw_region ?_
  refine ac rfl rfl rfl (op_box (cs := [.int .i64 l.Args, .int .i64 l.Bulk, .int .i64 l.Line]) (v := .agg [.int .i64 l.Args, .int .i64 l.Bulk, .int .i64 l.Line]) rfl (AEv.tmp rfl) rfl rfl ?_)
  intro p6
  refine ac rfl rfl rfl (op_alloc (cs := [.int .i64 0, .int .i64 0, .int .i64 0]) (v := .agg [.int .i64 0, .int .i64 0, .int .i64 0]) rfl zeroValue23 rfl rfl rfl ?_)
  intro p7
  refine aops_nil ?_
  refine aw_seq ?_
  obtain ⟨r8, r8e, h⟩ := bind_some h
  obtain ⟨r9, r9e, h⟩ := bind_some h
  obtain ⟨r10, r10e, h⟩ := bind_some h
  refine aw_plan (by decide +kernel) [([], some 3, [1]), ([0], some 4, [3]), ([1], some 5, [4]), ([], some 6, [1]), ([3], some 7, [6]), ([4, 2], some 8, [7]), ([], some 9, [1]), ([6], some 10, [9]), ([7, 5], some 11, [10]), ([2, 5, 8], some 12, [5, 8, 11]), ([9, 8, 0, 1, 2, 3, 4, 5, 6, 7, 8, 9], none, [2, 12])] rfl [[], [0], [0, 1], [], [3], [0, 1, 2, 3, 4], [], [6], [0, 1, 2, 3, 4, 5, 6, 7], [0, 1, 2, 3, 4, 5, 6, 7, 8], [0, 1, 2, 3, 4, 5, 6, 7, 8, 9]] [[], [(1, 0, false)], [], [], [(1, 0, false)], [], [], [(1, 0, false)], [], [], [(0, 0, true)]] [[10], []] [[[(p7, .cells [.int .i64 0, .int .i64 0, .int .i64 0])], [(p7, .cells [.int .i64 r8, .int .i64 r9, .int .i64 r10])]], [[(p6, .cells [.int .i64 l.Args, .int .i64 l.Bulk, .int .i64 l.Line])]]] [.ptr p6 0, .int .i64 l.Args, .int .i64 r8, .ptr p6 1, .int .i64 l.Bulk, .int .i64 r9, .ptr p6 2, .int .i64 l.Line, .int .i64 r10, .agg [.int .i64 r8, .int .i64 r9, .int .i64 r10], .un] (by decide +kernel) rfl rfl ?_ ?_
  · refine ⟨⟨[1], rfl, stepg_pure rfl (pu_fieldAddr rfl underlying23 rfl sizeOf3 (by decide) (AEv.tmp rfl) rfl)⟩, ?_⟩
    refine ⟨⟨[3], rfl, stepg_plain rfl (op_load1 (i := 0) rfl isAgg3 (AEv.tmp rfl) rfl rfl ⟨rfl, rfl⟩)⟩, ?_⟩
    refine ⟨⟨[4], rfl, stepg_plain rfl (op_call (vs := [.int .i64 l.Args, .int .i64 65536]) (H := []) rfl call56 ⟨(AEv.tmp rfl), (AEv.int _ _), trivial⟩ (R := []) (List.Perm.refl _) (mewsref05.between.ok r8e) (by rintro _ _ ⟨rfl, rfl⟩; exact ⟨rfl, rfl⟩))⟩, ?_⟩
    refine ⟨⟨[1], rfl, stepg_pure rfl (pu_fieldAddr rfl underlying23 rfl sizeOf3 (by decide) (AEv.tmp rfl) rfl)⟩, ?_⟩
    refine ⟨⟨[6], rfl, stepg_plain rfl (op_load1 (i := 0) rfl isAgg3 (AEv.tmp rfl) rfl rfl ⟨rfl, rfl⟩)⟩, ?_⟩
    refine ⟨⟨[7], rfl, stepg_plain rfl (op_call (vs := [.int .i64 l.Bulk, .int .i64 1048576]) (H := []) rfl call56 ⟨(AEv.tmp rfl), (AEv.int _ _), trivial⟩ (R := []) (List.Perm.refl _) (mewsref05.between.ok r9e) (by rintro _ _ ⟨rfl, rfl⟩; exact ⟨rfl, rfl⟩))⟩, ?_⟩
    refine ⟨⟨[1], rfl, stepg_pure rfl (pu_fieldAddr rfl underlying23 rfl sizeOf3 (by decide) (AEv.tmp rfl) rfl)⟩, ?_⟩
    refine ⟨⟨[9], rfl, stepg_plain rfl (op_load1 (i := 0) rfl isAgg3 (AEv.tmp rfl) rfl rfl ⟨rfl, rfl⟩)⟩, ?_⟩
    refine ⟨⟨[10], rfl, stepg_plain rfl (op_call (vs := [.int .i64 l.Line, .int .i64 65536]) (H := []) rfl call56 ⟨(AEv.tmp rfl), (AEv.int _ _), trivial⟩ (R := []) (List.Perm.refl _) (mewsref05.between.ok r10e) (by rintro _ _ ⟨rfl, rfl⟩; exact ⟨rfl, rfl⟩))⟩, ?_⟩
    refine ⟨⟨[5, 8, 11], rfl, stepg_pure rfl (pu_build (zs := [.int .i64 0, .int .i64 0, .int .i64 0]) (szs := [1, 1, 1]) (aparts := [(0, .int .i64 r8), (1, .int .i64 r9), (2, .int .i64 r10)]) (cs := [.int .i64 r8, .int .i64 r9, .int .i64 r10]) rfl underlying23 zeroValue23 rfl ⟨sizeOf3, sizeOf3, sizeOf3, trivial⟩ ⟨rfl, (AEv.tmp rfl), ⟨rfl, (AEv.tmp rfl), ⟨rfl, (AEv.tmp rfl), trivial⟩⟩⟩ rfl)⟩, ?_⟩
    refine ⟨⟨[2, 12], rfl, stepg_plain rfl (op_store (i := 0) (cs' := [.int .i64 r8, .int .i64 r9, .int .i64 r10]) rfl sizeOf23 (AEv.tmp rfl) (v := .agg [.int .i64 r8, .int .i64 r9, .int .i64 r10]) (AEv.tmp rfl) rfl rfl rfl (Nat.le_of_ble_eq_true rfl) rfl ⟨rfl, rfl⟩)⟩, ?_⟩
    trivial
  refine aw_ret ?_
  obtain rfl := some_of h
  exact ⟨[.agg [.int .i64 r8, .int .i64 r9, .int .i64 r10]], _, [], ⟨(CellOk.agg 0 (AEv.tmp rfl) rfl isAgg23 sizeOf23 (Nat.le_of_ble_eq_true rfl) rfl), trivial⟩, (AV.Le.refl _), Weak.mkL [] (by decide) trivial trivial, ⟨rfl, rfl⟩⟩

theorem mewsref01.digits.rec.ok (kk : Nat) : ∀ {n_ : Int} {r : List UInt8} (h : mewsref01.digits.rec kk n_ = some r), Go.Lift.Spec prog 81 [.int .i64 n_] [] (fun v H => v = .str r ∧ H = []) := by
  induction kk with
  | zero => intro n_ r h; exact nomatch h
  | succ kk ih =>
    intro n_ r h
    rw [mewsref01.digits.rec.eq_2] at h
    refine Go.Lift.Spec.of_body (rs := [.tmp 2]) func81 rfl rfl (Nat.le_of_ble_eq_true rfl) rfl ?_
    refine aw_seq ?_
    refine aw_region ?_
    refine ap (.str ([] : List UInt8)) rfl rfl rfl (pu_assign rfl (AEv.const rfl)) ?_
    refine aops_nil ?_
    refine aw_seq ?_
    refine aw_region ?_
    refine ap (.str [48, 49, 50, 51, 52, 53, 54, 55, 56, 57]) rfl rfl rfl (pu_assign rfl (AEv.const rfl)) ?_
    refine aops_nil ?_
    refine aw_seq ?_
    refine aw_region ?_
    refine ap (.int .i64 n_) rfl rfl rfl (pu_move rfl (AEv.tmp rfl)) ?_
    refine ap (.int .i64 (n_.tmod 10)) rfl rfl rfl (pu_rem rfl (AEv.tmp rfl) (AEv.int _ _) (by decide)) ?_
    refine ap (.int .i64 (IntKind.wrap .i64 (0 - (n_.tmod 10)))) rfl rfl rfl (pu_neg rfl (AEv.tmp rfl)) ?_
    refine ap (.int .i64 (IntKind.wrap .i64 (0 - (n_.tmod 10)))) rfl rfl rfl (pu_assign rfl (AEv.tmp rfl)) ?_
    refine aops_nil ?_
    refine aw_seq ?_
    refine aw_seq ?_
    refine aw_region ?_
    refine ap (.int .i64 n_) rfl rfl rfl (pu_move rfl (AEv.tmp rfl)) ?_
    refine ap (.bool (decide ((-10) < n_))) rfl rfl rfl (pu_int (v := .bool (decide ((-10) < n_))) rfl rfl (AEv.tmp rfl) (AEv.int _ _) rfl) ?_
    refine aops_nil ?_
    refine aw_cond (b := decide ((-10) < n_)) (AEv.tmp rfl) (fun hb14 => ?_) (fun hb14 => ?_)
    · replace h := ite_t (dec_t hb14) h
      refine aw_seq ?_
      refine aw_region ?_
      refine ap (.str [48, 49, 50, 51, 52, 53, 54, 55, 56, 57]) rfl rfl rfl (pu_move rfl (AEv.tmp rfl)) ?_
      refine ap (.int .i64 (IntKind.wrap .i64 (0 - (n_.tmod 10)))) rfl rfl rfl (pu_move rfl (AEv.tmp rfl)) ?_
      refine ap (.int .i64 (IntKind.wrap .i64 (0 - (n_.tmod 10)))) rfl rfl rfl (pu_move rfl (AEv.tmp rfl)) ?_
      refine ap (.int .i64 (IntKind.wrap .i64 ((IntKind.wrap .i64 (0 - (n_.tmod 10))) + 1))) rfl rfl rfl (pu_int (v := .int .i64 (IntKind.wrap .i64 ((IntKind.wrap .i64 (0 - (n_.tmod 10))) + 1))) rfl rfl (AEv.tmp rfl) (AEv.int _ _) rfl) ?_
      obtain ⟨c8, h⟩ := need_of h
      obtain ⟨x9, x9e, h⟩ := letO_of h
      refine ap (.str x9) rfl rfl rfl (APure.eq (pu_strSliceM rfl underlying9 (AEv.tmp rfl) ⟨_, (AEv.tmp rfl)⟩ ⟨_, (AEv.tmp rfl)⟩ c8) (congrArg (AV.str) x9e.symm)) ?_
      refine ap (.str x9) rfl rfl rfl (pu_assign rfl (AEv.tmp rfl)) ?_
      refine aops_nil ?_
      refine aw_ret ?_
      obtain rfl := some_of h
      exact ⟨[.str x9], _, [], ⟨(AEv.tmp rfl), trivial⟩, (AV.Le.refl _), Weak.mkL [] (by decide) trivial trivial, ⟨rfl, rfl⟩⟩
    · replace h := ite_f (dec_f hb14) h
      refine aw_skip ?_
      refine aw_seq ?_
      obtain ⟨r10, r10e, h⟩ := bind_some h
      obtain ⟨c11, h⟩ := need_of h
      obtain ⟨x12, x12e, h⟩ := letO_of h
      obtain ⟨c13, h⟩ := need_of h
      refine aw_plan (by decide +kernel) [([], some 15, [0]), ([0], some 16, [15]), ([1], some 17, [16]), ([], some 18, [3]), ([], some 19, [4]), ([], some 20, [4]), ([5], some 21, [20]), ([3, 4, 6], some 22, [18, 19, 21]), ([2, 7], some 23, [17, 22]), ([8, 2, 0, 1, 2, 3, 4, 5, 6, 7, 8], some 2, [23])] rfl [[], [0], [0, 1], [], [], [], [5], [3, 4, 5, 6], [0, 1, 2, 3, 4, 5, 6, 7], [0, 1, 2, 3, 4, 5, 6, 7, 8]] [[], [], [], [], [], [], [], [], [], []] [] [] [.int .i64 n_, .int .i64 (IntKind.wrap .i64 (n_.tdiv 10)), .str r10, .str [48, 49, 50, 51, 52, 53, 54, 55, 56, 57], .int .i64 (IntKind.wrap .i64 (0 - (n_.tmod 10))), .int .i64 (IntKind.wrap .i64 (0 - (n_.tmod 10))), .int .i64 (IntKind.wrap .i64 ((IntKind.wrap .i64 (0 - (n_.tmod 10))) + 1)), .str x12, .str (r10 ++ x12), .str (r10 ++ x12)] (by decide +kernel) rfl rfl ?_ ?_
      · refine ⟨⟨[0], rfl, stepg_pure rfl (pu_move rfl (AEv.tmp rfl))⟩, ?_⟩
        refine ⟨⟨[15], rfl, stepg_pure rfl (pu_quo rfl (AEv.tmp rfl) (AEv.int _ _) (by decide))⟩, ?_⟩
        refine ⟨⟨[16], rfl, stepg_plain rfl (op_call (vs := [.int .i64 (IntKind.wrap .i64 (n_.tdiv 10))]) (H := []) rfl call81 ⟨(AEv.tmp rfl), trivial⟩ (R := []) (List.Perm.refl _) (ih r10e) (by rintro _ _ ⟨rfl, rfl⟩; exact ⟨rfl, rfl⟩))⟩, ?_⟩
        refine ⟨⟨[3], rfl, stepg_pure rfl (pu_move rfl (AEv.tmp rfl))⟩, ?_⟩
        refine ⟨⟨[4], rfl, stepg_pure rfl (pu_move rfl (AEv.tmp rfl))⟩, ?_⟩
        refine ⟨⟨[4], rfl, stepg_pure rfl (pu_move rfl (AEv.tmp rfl))⟩, ?_⟩
        refine ⟨⟨[20], rfl, stepg_pure rfl (pu_int (v := .int .i64 (IntKind.wrap .i64 ((IntKind.wrap .i64 (0 - (n_.tmod 10))) + 1))) rfl rfl (AEv.tmp rfl) (AEv.int _ _) rfl)⟩, ?_⟩
        refine ⟨⟨[18, 19, 21], rfl, stepg_pure rfl (APure.eq (pu_strSliceM rfl underlying9 (AEv.tmp rfl) ⟨_, (AEv.tmp rfl)⟩ ⟨_, (AEv.tmp rfl)⟩ c11) (congrArg (AV.str) x12e.symm))⟩, ?_⟩
        refine ⟨⟨[17, 22], rfl, stepg_pure rfl (pu_strAdd rfl (AEv.tmp rfl) (AEv.tmp rfl) c13)⟩, ?_⟩
        refine ⟨⟨[23], rfl, stepg_pure rfl (pu_assign rfl (AEv.tmp rfl))⟩, ?_⟩
        trivial
      refine aw_ret ?_
      obtain rfl := some_of h
      exact ⟨[.str (r10 ++ x12)], _, [], ⟨(AEv.tmp rfl), trivial⟩, (AV.Le.refl _), Weak.mkL [] (by decide) trivial trivial, ⟨rfl, rfl⟩⟩

theorem mewsref01.digits.ok {n_ : Int} {r : List UInt8} (h : mewsref01.digits n_ = some r) : Go.Lift.Spec prog 81 [.int .i64 n_] [] (fun v H => v = .str r ∧ H = []) := by
  obtain ⟨kk, hk⟩ := fixO_some h
  exact mewsref01.digits.rec.ok kk hk

theorem mewsref01.Text.ok {n_ : Int} {r : List UInt8} (h : mewsref01.Text n_ = some r) : Go.Lift.Spec prog 57 [.int .i64 n_] [] (fun v H => v = .str r ∧ H = []) := by
  unfold mewsref01.Text at h
  refine Go.Lift.Spec.of_body (rs := [.tmp 2]) func57 rfl rfl (Nat.le_of_ble_eq_true rfl) rfl ?_
  refine aw_seq ?_
  refine aw_region ?_
  refine ap (.str ([] : List UInt8)) rfl rfl rfl (pu_assign rfl (AEv.const rfl)) ?_
  refine aops_nil ?_
  refine aw_seq ?_
  refine aw_seq ?_
  refine aw_region ?_
  refine ap (.int .i64 n_) rfl rfl rfl (pu_move rfl (AEv.tmp rfl)) ?_
  refine ap (.bool (decide (n_ < 0))) rfl rfl rfl (pu_int (v := .bool (decide (n_ < 0))) rfl rfl (AEv.tmp rfl) (AEv.int _ _) rfl) ?_
  refine aops_nil ?_
  refine aw_cond (b := decide (n_ < 0)) (AEv.tmp rfl) (fun hb8 => ?_) (fun hb8 => ?_)
  · replace h := ite_t (dec_t hb8) h
    refine aw_seq ?_
    refine aw_region ?_
    refine ap (.int .i64 n_) rfl rfl rfl (pu_move rfl (AEv.tmp rfl)) ?_
    obtain ⟨r5, r5e, h⟩ := bind_some h
    refine ac rfl rfl rfl (op_call (vs := [.int .i64 n_]) (H := []) rfl call81 ⟨(AEv.tmp rfl), trivial⟩ (List.Perm.refl _) (mewsref01.digits.ok r5e) ?_)
    rintro _ _ ⟨rfl, rfl⟩
    obtain ⟨c6, h⟩ := need_of h
    refine ap (.str ([45] ++ r5)) rfl rfl rfl (pu_strAdd rfl (AEv.const rfl) (AEv.tmp rfl) c6) ?_
    refine ap (.str ([45] ++ r5)) rfl rfl rfl (pu_assign rfl (AEv.tmp rfl)) ?_
    refine aops_nil ?_
    refine aw_ret ?_
    obtain rfl := some_of h
    exact ⟨[.str ([45] ++ r5)], _, [], ⟨(AEv.tmp rfl), trivial⟩, (AV.Le.refl _), Weak.mkL [] (by decide) trivial trivial, ⟨rfl, rfl⟩⟩
  · replace h := ite_f (dec_f hb8) h
    refine aw_skip ?_
    refine aw_seq ?_
    refine aw_region ?_
    refine ap (.int .i64 n_) rfl rfl rfl (pu_move rfl (AEv.tmp rfl)) ?_
    refine ap (.int .i64 (IntKind.wrap .i64 (0 - n_))) rfl rfl rfl (pu_neg rfl (AEv.tmp rfl)) ?_
    obtain ⟨r7, r7e, h⟩ := bind_some h
    refine ac rfl rfl rfl (op_call (vs := [.int .i64 (IntKind.wrap .i64 (0 - n_))]) (H := []) rfl call81 ⟨(AEv.tmp rfl), trivial⟩ (List.Perm.refl _) (mewsref01.digits.ok r7e) ?_)
    rintro _ _ ⟨rfl, rfl⟩
    refine ap (.str r7) rfl rfl rfl (pu_assign rfl (AEv.tmp rfl)) ?_
    refine aops_nil ?_
    refine aw_ret ?_
    obtain rfl := some_of h
    exact ⟨[.str r7], _, [], ⟨(AEv.tmp rfl), trivial⟩, (AV.Le.refl _), Weak.mkL [] (by decide) trivial trivial, ⟨rfl, rfl⟩⟩

theorem mewsref05.Put.ok {args : List (List UInt8)} {r : List UInt8} (h : mewsref05.Put args = some r) : Go.Lift.Spec prog 22 [.sl .no 1 (args.map AV.str)] [] (fun v H => v = .str r ∧ H = []) := by
  unfold mewsref05.Put at h
  refine Go.Lift.Spec.of_body (rs := [.tmp 2]) func22 rfl rfl (Nat.le_of_ble_eq_true rfl) rfl ?_
  refine aw_seq ?_
  refine aw_region ?_
  refine ap (.str ([] : List UInt8)) rfl rfl rfl (pu_assign rfl (AEv.const rfl)) ?_
  refine aops_nil ?_
  refine aw_seq ?_
  refine aw_region ?_
  refine ap (.sl .no 1 (args.map AV.str)) rfl rfl rfl (pu_move rfl (AEv.tmp rfl)) ?_
  refine ap (.int .i64 (args.length : Int)) rfl rfl rfl (pu_lenM rfl underlying26 (AEv.tmp rfl)) ?_
  obtain ⟨r81, r81e, h⟩ := bind_some h
  refine ac rfl rfl rfl (op_call (vs := [.int .i64 (args.length : Int)]) (H := []) rfl call57 ⟨(AEv.tmp rfl), trivial⟩ (List.Perm.refl _) (mewsref01.Text.ok r81e) ?_)
  rintro _ _ ⟨rfl, rfl⟩
  obtain ⟨c82, h⟩ := need_of h
  refine ap (.str ([42] ++ r81)) rfl rfl rfl (pu_strAdd rfl (AEv.const rfl) (AEv.tmp rfl) c82) ?_
  obtain ⟨c83, h⟩ := need_of h
  refine ap (.str (([42] ++ r81) ++ [13, 10])) rfl rfl rfl (pu_strAdd rfl (AEv.tmp rfl) (AEv.const rfl) c83) ?_
  refine ap (.str (([42] ++ r81) ++ [13, 10])) rfl rfl rfl (pu_assign rfl (AEv.tmp rfl)) ?_
  refine aops_nil ?_
  obtain ⟨s121, s121e, h122⟩ := bind_some h
  refine aw_meet (ν := Unit) (fun v => [(3, .str s121)]) (fun v => []) ?_ ?_
  · have h := s121e
    refine aw_seq ?_
    refine aw_region ?_
    refine ap (.int .i64 0) rfl rfl rfl (pu_assign rfl (AEv.int _ _)) ?_
    refine aops_nil ?_
    refine aw_block ?_
    refine aw_while (σ := mewsref05.Put.S0) (ν := Unit) (mewsref05.Put.body0 args) (fun s147 v => [(0, .sl .no 1 (args.map AV.str)), (3, .str s147.s), (4, .int .i64 s147.i)]) (fun s147 v => []) ⟨([42] ++ r81) ++ [13, 10], 0⟩ () _ h (Weak.mkL [] (by decide) trivial ⟨AEv.tmp rfl, (AEv.le (AEv.tmp rfl) (AV.Le.refl _)), AEv.tmp rfl, trivial⟩) ?_
    rintro s147 _ x149 h hx148
    unfold mewsref05.Put.body0 at h
    refine aw_seq ?_
    refine aw_seq ?_
    refine aw_region ?_
    refine ap (.int .i64 s147.i) rfl rfl rfl (pu_move rfl (AEv.tmp rfl)) ?_
    refine ap (.sl .no 1 (args.map AV.str)) rfl rfl rfl (pu_move rfl (AEv.tmp rfl)) ?_
    refine ap (.int .i64 (args.length : Int)) rfl rfl rfl (pu_lenM rfl underlying26 (AEv.tmp rfl)) ?_
    refine ap (.bool (decide (s147.i < (args.length : Int)))) rfl rfl rfl (pu_int (v := .bool (decide (s147.i < (args.length : Int)))) rfl rfl (AEv.tmp rfl) (AEv.tmp rfl) rfl) ?_
    refine aops_nil ?_
    refine aw_cond (b := decide (s147.i < (args.length : Int))) (AEv.tmp rfl) (fun hb160 => ?_) (fun hb160 => ?_)
    · replace h := ite_t (dec_t hb160) h
      refine aw_skip ?_
      refine aw_seq ?_
      refine aw_block ?_
      obtain ⟨c151, h⟩ := need_of h
      obtain ⟨r152, r152e, h⟩ := bind_some h
      obtain ⟨c153, h⟩ := need_of h
      obtain ⟨c154, h⟩ := need_of h
      obtain ⟨c155, h⟩ := need_of h
      obtain ⟨c156, h⟩ := need_of h
      obtain ⟨x157, x157e, h⟩ := letO_of h
      obtain ⟨c158, h⟩ := need_of h
      obtain ⟨c159, h⟩ := need_of h
      refine aw_plan (by decide +kernel) [([], some 16, [3]), ([], some 17, [0]), ([], some 18, [4]), ([1, 2], some 19, [17, 18]), ([3], some 20, [19]), ([4], some 21, [20]), ([5], some 22, [21]), ([6], some 23, [22]), ([7], some 24, [23]), ([], some 25, [0]), ([], some 26, [4]), ([9, 10], some 27, [25, 26]), ([11], some 28, [27]), ([8, 12], some 29, [24, 28]), ([13], some 30, [29]), ([0, 14], some 31, [16, 30]), ([15, 6, 0, 1, 2, 3, 4, 5, 6, 7, 8, 9, 10, 11, 12, 13, 14, 15], some 3, [31])] rfl [[], [], [], [1, 2], [1, 2, 3], [1, 2, 3, 4], [1, 2, 3, 4, 5], [1, 2, 3, 4, 5, 6], [1, 2, 3, 4, 5, 6, 7], [], [], [9, 10], [9, 10, 11], [1, 2, 3, 4, 5, 6, 7, 8, 9, 10, 11, 12], [1, 2, 3, 4, 5, 6, 7, 8, 9, 10, 11, 12, 13], [0, 1, 2, 3, 4, 5, 6, 7, 8, 9, 10, 11, 12, 13, 14], [0, 1, 2, 3, 4, 5, 6, 7, 8, 9, 10, 11, 12, 13, 14, 15]] [[], [], [], [], [], [], [], [], [], [], [], [], [], [], [], [], []] [] [] [.str s147.s, .sl .no 1 (args.map AV.str), .int .i64 s147.i, .vptr [.str (ix args s147.i)], .str (ix args s147.i), .int .i64 ((ix args s147.i).length : Int), .str r152, .str ([36] ++ r152), .str (([36] ++ r152) ++ [13, 10]), .sl .no 1 (args.map AV.str), .int .i64 s147.i, .vptr [.str (ix args s147.i)], .str (ix args s147.i), .str x157, .str (x157 ++ [13, 10]), .str (s147.s ++ (x157 ++ [13, 10])), .str (s147.s ++ (x157 ++ [13, 10]))] (by decide +kernel) rfl rfl ?_ ?_
      · refine ⟨⟨[3], rfl, stepg_pure rfl (pu_move rfl (AEv.tmp rfl))⟩, ?_⟩
        refine ⟨⟨[0], rfl, stepg_pure rfl (pu_move rfl (AEv.tmp rfl))⟩, ?_⟩
        refine ⟨⟨[4], rfl, stepg_pure rfl (pu_move rfl (AEv.tmp rfl))⟩, ?_⟩
        refine ⟨⟨[17, 18], rfl, stepg_pure rfl (pu_indexAddrM rfl underlying26 sizeOf9 (AEv.tmp rfl) (AEv.tmp rfl) c151 rfl)⟩, ?_⟩
        refine ⟨⟨[19], rfl, stepg_plain rfl (op_loadV1 rfl isAgg9 (AEv.tmp rfl) rfl ⟨rfl, rfl⟩)⟩, ?_⟩
        refine ⟨⟨[20], rfl, stepg_pure rfl (pu_strLen rfl underlying9 (AEv.tmp rfl))⟩, ?_⟩
        refine ⟨⟨[21], rfl, stepg_plain rfl (op_call (vs := [.int .i64 ((ix args s147.i).length : Int)]) (H := []) rfl call57 ⟨(AEv.tmp rfl), trivial⟩ (R := []) (List.Perm.refl _) (mewsref01.Text.ok r152e) (by rintro _ _ ⟨rfl, rfl⟩; exact ⟨rfl, rfl⟩))⟩, ?_⟩
        refine ⟨⟨[22], rfl, stepg_pure rfl (pu_strAdd rfl (AEv.const rfl) (AEv.tmp rfl) c153)⟩, ?_⟩
        refine ⟨⟨[23], rfl, stepg_pure rfl (pu_strAdd rfl (AEv.tmp rfl) (AEv.const rfl) c154)⟩, ?_⟩
        refine ⟨⟨[0], rfl, stepg_pure rfl (pu_move rfl (AEv.tmp rfl))⟩, ?_⟩
        refine ⟨⟨[4], rfl, stepg_pure rfl (pu_move rfl (AEv.tmp rfl))⟩, ?_⟩
        refine ⟨⟨[25, 26], rfl, stepg_pure rfl (pu_indexAddrM rfl underlying26 sizeOf9 (AEv.tmp rfl) (AEv.tmp rfl) c155 rfl)⟩, ?_⟩
        refine ⟨⟨[27], rfl, stepg_plain rfl (op_loadV1 rfl isAgg9 (AEv.tmp rfl) rfl ⟨rfl, rfl⟩)⟩, ?_⟩
        refine ⟨⟨[24, 28], rfl, stepg_pure rfl (APure.eq (pu_strAdd rfl (AEv.tmp rfl) (AEv.tmp rfl) c156) (congrArg (AV.str) x157e.symm))⟩, ?_⟩
        refine ⟨⟨[29], rfl, stepg_pure rfl (pu_strAdd rfl (AEv.tmp rfl) (AEv.const rfl) c158)⟩, ?_⟩
        refine ⟨⟨[16, 30], rfl, stepg_pure rfl (pu_strAdd rfl (AEv.tmp rfl) (AEv.tmp rfl) c159)⟩, ?_⟩
        refine ⟨⟨[31], rfl, stepg_pure rfl (pu_assign rfl (AEv.tmp rfl))⟩, ?_⟩
        trivial
      refine aw_region ?_
      refine ap (.int .i64 s147.i) rfl rfl rfl (pu_move rfl (AEv.tmp rfl)) ?_
      refine ap (.int .i64 (IntKind.wrap .i64 (s147.i + 1))) rfl rfl rfl (pu_int (v := .int .i64 (IntKind.wrap .i64 (s147.i + 1))) rfl rfl (AEv.tmp rfl) (AEv.int _ _) rfl) ?_
      refine ap (.int .i64 (IntKind.wrap .i64 (s147.i + 1))) rfl rfl rfl (pu_assign rfl (AEv.tmp rfl)) ?_
      refine aops_nil ?_
      obtain rfl := some_of h
      exact ⟨_, (), rfl, Weak.mkL [] (by decide) trivial ⟨AEv.tmp rfl, (AEv.le (AEv.tmp rfl) (AV.Le.refl _)), (AEv.le (AEv.tmp rfl) (AV.Le.refl _)), trivial⟩⟩
    · replace h := ite_f (dec_f hb160) h
      refine aw_exit ?_
      obtain rfl := some_of h
      have h := congrArg some (hx148 _ rfl)
      obtain rfl := some_of h
      exact ⟨(), Weak.mkL [] (by decide) trivial ⟨AEv.tmp rfl, trivial⟩⟩
  · intro _
    have h := h122
    refine aw_seq ?_
    refine aw_region ?_
    refine ap (.str s121) rfl rfl rfl (pu_move rfl (AEv.tmp rfl)) ?_
    refine ap (.str s121) rfl rfl rfl (pu_assign rfl (AEv.tmp rfl)) ?_
    refine aops_nil ?_
    refine aw_ret ?_
    obtain rfl := some_of h
    exact ⟨[.str s121], _, [], ⟨(AEv.tmp rfl), trivial⟩, (AV.Le.refl _), Weak.mkL [] (by decide) trivial trivial, ⟨rfl, rfl⟩⟩

theorem mewslaw05.ParseCounts.ok {lines : List (List (List UInt8))} {l : api.Limits} {r : Bool} (h : mewslaw05.ParseCounts lines l = some r) : Go.Lift.Spec prog 5 [.sl .no 1 (lines.map av_List_List_UInt8), .agg [.int .i64 l.Args, .int .i64 l.Bulk, .int .i64 l.Line]] [] (fun v H => v = .bool r ∧ H = []) := by
  unfold mewslaw05.ParseCounts at h
  refine Go.Lift.Spec.of_body (rs := [.tmp 4]) func5 rfl rfl (Nat.le_of_ble_eq_true rfl) rfl ?_
  refine aw_seq ?_
  refine aw_region ?_
  refine ac rfl rfl rfl (op_box (cs := [.int .i64 l.Args, .int .i64 l.Bulk, .int .i64 l.Line]) (v := .agg [.int .i64 l.Args, .int .i64 l.Bulk, .int .i64 l.Line]) rfl (AEv.tmp rfl) rfl rfl ?_)
  intro p224
  refine ap (.bool false) rfl rfl rfl (pu_assign rfl (AEv.bool _)) ?_
  refine aops_nil ?_
  refine aw_seq ?_
  refine aw_seq ?_
  refine aw_region ?_
  refine ap (.sl .no 1 (lines.map av_List_List_UInt8)) rfl rfl rfl (pu_move rfl (AEv.tmp rfl)) ?_
  refine ap (.int .i64 (lines.length : Int)) rfl rfl rfl (pu_lenM rfl underlying41 (AEv.tmp rfl)) ?_
  refine ap (.bool (decide (30 < (lines.length : Int)))) rfl rfl rfl (pu_int (v := .bool (decide (30 < (lines.length : Int)))) rfl rfl (AEv.tmp rfl) (AEv.int _ _) rfl) ?_
  refine aops_nil ?_
  refine aw_cond (b := decide (30 < (lines.length : Int))) (AEv.tmp rfl) (fun hb446 => ?_) (fun hb446 => ?_)
  · replace h := ite_t (dec_t hb446) h
    refine aw_seq ?_
    refine aw_region ?_
    obtain ⟨r225, r225e, h⟩ := bind_some h
    refine ac rfl rfl rfl (op_call (vs := []) (H := []) rfl call14 trivial (List.Perm.refl _) (mewslaw05.alive.ok r225e) ?_)
    rintro _ _ ⟨rfl, rfl⟩
    refine ap (.bool r225) rfl rfl rfl (pu_assign rfl (AEv.tmp rfl)) ?_
    refine aops_nil ?_
    refine aw_ret ?_
    obtain rfl := some_of h
    exact ⟨[.bool r225], _, [], ⟨(AEv.tmp rfl), trivial⟩, (AV.Le.refl _), Weak.mkL [] (by decide) trivial trivial, ⟨rfl, rfl⟩⟩
  · replace h := ite_f (dec_f hb446) h
    refine aw_skip ?_
    refine aw_seq ?_
    refine aw_region ?_
    refine ac rfl rfl rfl (op_loadN (i := 0) rfl isAgg23 sizeOf23 (AEv.tmp rfl) rfl (Nat.le_of_ble_eq_true rfl) rfl ?_)
    obtain ⟨r226, r226e, h⟩ := bind_some h
    refine ac rfl rfl rfl (op_call (vs := [.agg [.int .i64 l.Args, .int .i64 l.Bulk, .int .i64 l.Line]]) (H := []) rfl call20 ⟨(AEv.tmp rfl), trivial⟩ (List.Perm.refl _) (mewsref05.Limits.ok r226e) ?_)
    rintro _ _ ⟨rfl, rfl⟩
    refine ac rfl rfl rfl (op_alloc (cs := [.int .i64 0, .int .i64 0, .int .i64 0]) (v := .agg [.int .i64 0, .int .i64 0, .int .i64 0]) rfl zeroValue23 rfl rfl rfl ?_)
    intro p227
    refine ac0 rfl rfl (op_store (i := 0) (cs' := [.int .i64 r226.Args, .int .i64 r226.Bulk, .int .i64 r226.Line]) rfl sizeOf23 (AEv.tmp rfl) (v := .agg [.int .i64 r226.Args, .int .i64 r226.Bulk, .int .i64 r226.Line]) (AEv.tmp rfl) rfl rfl rfl (Nat.le_of_ble_eq_true rfl) rfl ?_)
    refine aops_nil ?_
    refine aw_seq ?_
    refine aw_region ?_
    refine ap (.str ([] : List UInt8)) rfl rfl rfl (pu_assign rfl (AEv.const rfl)) ?_
    refine aops_nil ?_
    refine aw_seq ?_
    refine aw_region ?_
    refine ap (.int .i64 0) rfl rfl rfl (pu_assign rfl (AEv.int _ _)) ?_
    refine aops_nil ?_
    obtain ⟨s445, s445e, h289⟩ := bind_some h
    refine aw_join (σ := (List UInt8) × Int) (ν := Unit) (fun u v => [(0, .sl .no 1 (lines.map av_List_List_UInt8)), (3, .ptr p224 0), (5, .ptr p227 0), (6, .str u.1), (7, .int .i64 u.2)]) (fun u v => [(p224, .cells [.int .i64 l.Args, .int .i64 l.Bulk, .int .i64 l.Line]), (p227, .cells [.int .i64 r226.Args, .int .i64 r226.Bulk, .int .i64 r226.Line])]) (fun u => s445 = .inl u) ?_ ?_
    · intro s288
      intro _
      rintro rfl
      have h := onSum_inl h289
      refine aw_seq ?_
      refine aw_region ?_
      refine ap (.agg [.str ([] : List UInt8), .sl .full 1 (([] : List (List UInt8)).map AV.str), .int .i64 0, .int .i64 0, .bool false, .int .i64 0, .int .i64 0]) rfl rfl rfl (pu_build (zs := [.str ([] : List UInt8), .sl .full 1 (([] : List (List UInt8)).map AV.str), .int .i64 0, .int .i64 0, .bool false, .int .i64 0, .int .i64 0]) (szs := [1, 1, 1, 1, 1, 1, 1]) (aparts := []) (cs := [.str ([] : List UInt8), .sl .full 1 (([] : List (List UInt8)).map AV.str), .int .i64 0, .int .i64 0, .bool false, .int .i64 0, .int .i64 0]) rfl underlying29 zeroValue29 rfl ⟨sizeOf9, sizeOf26, sizeOf3, sizeOf3, sizeOf4, sizeOf3, sizeOf27, trivial⟩ trivial rfl) ?_
      refine ap (.str s288.1) rfl rfl rfl (pu_move rfl (AEv.tmp rfl)) ?_
      refine ac rfl rfl rfl (op_loadN (i := 0) rfl isAgg23 sizeOf23 (AEv.tmp rfl) rfl (Nat.le_of_ble_eq_true rfl) rfl ?_)
      obtain ⟨r351, r351e, h⟩ := bind_some h
      refine ac rfl rfl rfl (op_call (vs := [.agg [.str ([] : List UInt8), .sl .no 1 (([] : List (List UInt8)).map AV.str), .int .i64 0, .int .i64 0, .bool false, .int .i64 0, .int .i64 0], .str s288.1, .agg [.int .i64 l.Args, .int .i64 l.Bulk, .int .i64 l.Line]]) (H := []) rfl call15 ⟨(AEv.le (AEv.tmp rfl) (AV.Le.agg ⟨(AV.Le.refl _), (AV.Le.forget _ _ _), (AV.Le.refl _), (AV.Le.refl _), (AV.Le.refl _), (AV.Le.refl _), (AV.Le.refl _), trivial⟩)), (AEv.tmp rfl), (AEv.tmp rfl), trivial⟩ (List.Perm.refl _) (parse.Feed.ok r351e) ?_)
      rintro _ _ ⟨t352, rfl, rfl⟩
      refine ap (.tup [.agg (api.Input.ct .no r351.1), .sl (.own t352) 2 (r351.2.1.map api.Request.av), .int .i64 r351.2.2]) rfl rfl rfl (pu_move rfl (AEv.tmp rfl)) ?_
      refine ap (.agg (api.Input.ct .no r351.1)) rfl rfl rfl (pu_extract rfl (AEv.tmp rfl) (Nat.le_of_ble_eq_true rfl) rfl) ?_
      refine ap (.sl (.own t352) 2 (r351.2.1.map api.Request.av)) rfl rfl rfl (pu_extract rfl (AEv.tmp rfl) (Nat.le_of_ble_eq_true rfl) rfl) ?_
      refine ap (.int .i64 r351.2.2) rfl rfl rfl (pu_extract rfl (AEv.tmp rfl) (Nat.le_of_ble_eq_true rfl) rfl) ?_
      refine ac rfl rfl rfl (op_alloc (cs := [.str ([] : List UInt8), .sl .full 1 (([] : List (List UInt8)).map AV.str), .int .i64 0, .int .i64 0, .bool false, .int .i64 0, .int .i64 0]) (v := .agg [.str ([] : List UInt8), .sl .full 1 (([] : List (List UInt8)).map AV.str), .int .i64 0, .int .i64 0, .bool false, .int .i64 0, .int .i64 0]) rfl zeroValue29 rfl rfl rfl ?_)
      intro p353
      refine ac0 rfl rfl (op_store (i := 0) (cs' := (api.Input.ct .no r351.1)) rfl sizeOf29 (AEv.tmp rfl) (v := .agg (api.Input.ct .no r351.1)) (AEv.tmp rfl) rfl rfl rfl (Nat.le_of_ble_eq_true rfl) rfl ?_)
      refine ap (.sl (.own t352) 2 (r351.2.1.map api.Request.av)) rfl rfl rfl (pu_assign rfl (AEv.tmp rfl)) ?_
      refine ap (.int .i64 r351.2.2) rfl rfl rfl (pu_assign rfl (AEv.tmp rfl)) ?_
      refine aops_nil ?_
      refine aw_seq ?_
      refine aw_seq ?_
      refine aw_region ?_
      refine ap (.int .i64 r351.2.2) rfl rfl rfl (pu_move rfl (AEv.tmp rfl)) ?_
      refine ap (.bool (!decide (r351.2.2 = 0))) rfl rfl rfl (pu_int (v := .bool (!decide (r351.2.2 = 0))) rfl rfl (AEv.tmp rfl) (AEv.int _ _) rfl) ?_
      refine aops_nil ?_
      refine aw_cond (b := (!decide (r351.2.2 = 0))) (AEv.tmp rfl) (fun hb444 => ?_) (fun hb444 => ?_)
      · replace h := ite_f (ndec_t hb444) h
        obtain ⟨s357, s357e, h358⟩ := bind_some h
        refine aw_meet (ν := Unit) (fun v => [(4, .bool s357)]) (fun v => []) ?_ ?_
        · have h := s357e
          refine aw_region ?_
          refine ap (.ptr p353 0) rfl rfl rfl (pu_fieldAddr rfl underlying29 rfl sizeOf9 (by decide) (AEv.tmp rfl) rfl) ?_
          refine ac rfl rfl rfl (op_load1 (i := 0) rfl isAgg9 (AEv.tmp rfl) rfl rfl ?_)
          refine ap (.int .i64 (r351.1.Rest.length : Int)) rfl rfl rfl (pu_strLen rfl underlying9 (AEv.tmp rfl)) ?_
          refine ap (.bool (decide ((r351.1.Rest.length : Int) = 0))) rfl rfl rfl (pu_int (v := .bool (decide ((r351.1.Rest.length : Int) = 0))) rfl rfl (AEv.tmp rfl) (AEv.int _ _) rfl) ?_
          refine ap (.bool (decide ((r351.1.Rest.length : Int) = 0))) rfl rfl rfl (pu_move rfl (AEv.tmp rfl)) ?_
          rcases Bool.eq_false_or_eq_true (decide ((r351.1.Rest.length : Int) = 0)) with hb360 | hb360
          · replace h := ite_t (dec_t hb360) h
            refine aops_known 59 rfl hb360 ?_
            refine agp (.sl (.own t352) 2 (r351.2.1.map api.Request.av)) rfl rfl rfl rfl rfl rfl rfl (pu_move rfl (AEv.tmp rfl)) ?_
            refine agp (.int .i64 (r351.2.1.length : Int)) rfl rfl rfl rfl rfl rfl rfl (pu_lenM rfl underlying30 (AEv.tmp rfl)) ?_
            refine agp (.sl .no 1 (lines.map av_List_List_UInt8)) rfl rfl rfl rfl rfl rfl rfl (pu_move rfl (AEv.tmp rfl)) ?_
            refine agp (.int .i64 (lines.length : Int)) rfl rfl rfl rfl rfl rfl rfl (pu_lenM rfl underlying41 (AEv.tmp rfl)) ?_
            refine agp (.bool (decide ((r351.2.1.length : Int) ≤ (lines.length : Int)))) rfl rfl rfl rfl rfl rfl rfl (pu_int (v := .bool (decide ((r351.2.1.length : Int) ≤ (lines.length : Int)))) rfl rfl (AEv.tmp rfl) (AEv.tmp rfl) rfl) ?_
            refine ap (.bool (decide ((r351.2.1.length : Int) ≤ (lines.length : Int)))) rfl rfl rfl (pu_pick (b := true) rfl (AEv.tmp rfl) (fun _ => (AEv.tmp rfl)) (fun h => nomatch h)) ?_
            refine ap (.bool (decide ((r351.2.1.length : Int) ≤ (lines.length : Int)))) rfl rfl rfl (pu_move rfl (AEv.tmp rfl)) ?_
            rcases Bool.eq_false_or_eq_true (decide ((r351.2.1.length : Int) ≤ (lines.length : Int))) with hb361 | hb361
            · replace h := ite_t (dec_t hb361) h
              refine aops_known 66 rfl hb361 ?_
              obtain ⟨r362, r362e, h⟩ := bind_some h
              refine ag rfl rfl rfl rfl rfl rfl rfl (op_call (vs := []) (H := []) rfl call14 trivial (List.Perm.refl _) (mewslaw05.alive.ok r362e) ?_)
              rintro _ _ ⟨rfl, rfl⟩
              refine ap (.bool r362) rfl rfl rfl (pu_pick (b := true) rfl (AEv.tmp rfl) (fun _ => (AEv.tmp rfl)) (fun h => nomatch h)) ?_
              refine ap (.bool r362) rfl rfl rfl (pu_assign rfl (AEv.tmp rfl)) ?_
              refine aops_nil ?_
              obtain rfl := some_of h
              exact ⟨(), Weak.mkL [] (by decide) trivial ⟨AEv.tmp rfl, trivial⟩⟩
            · replace h := ite_f (dec_f hb361) h
              refine aops_known 66 rfl hb361 ?_
              refine an rfl rfl rfl rfl rfl rfl rfl rfl ?_
              refine ap (.bool false) rfl rfl rfl (pu_pick (b := false) rfl (AEv.tmp rfl) (fun h => nomatch h) (fun _ => (AEv.bool _))) ?_
              refine ap (.bool false) rfl rfl rfl (pu_assign rfl (AEv.tmp rfl)) ?_
              refine aops_nil ?_
              obtain rfl := some_of h
              exact ⟨(), Weak.mkL [] (by decide) trivial ⟨AEv.tmp rfl, trivial⟩⟩
          · replace h := ite_f (dec_f hb360) h
            refine aops_known 59 rfl hb360 ?_
            refine an rfl rfl rfl rfl rfl rfl rfl rfl ?_
            refine an rfl rfl rfl rfl rfl rfl rfl rfl ?_
            refine an rfl rfl rfl rfl rfl rfl rfl rfl ?_
            refine an rfl rfl rfl rfl rfl rfl rfl rfl ?_
            refine an rfl rfl rfl rfl rfl rfl rfl rfl ?_
            refine ap (.bool false) rfl rfl rfl (pu_pick (b := false) rfl (AEv.tmp rfl) (fun h => nomatch h) (fun _ => (AEv.bool _))) ?_
            refine ap (.bool false) rfl rfl rfl (pu_move rfl (AEv.tmp rfl)) ?_
            refine an rfl rfl rfl rfl rfl rfl rfl rfl ?_
            refine ap (.bool false) rfl rfl rfl (pu_pick (b := false) rfl (AEv.tmp rfl) (fun h => nomatch h) (fun _ => (AEv.bool _))) ?_
            refine ap (.bool false) rfl rfl rfl (pu_assign rfl (AEv.tmp rfl)) ?_
            refine aops_nil ?_
            obtain rfl := some_of h
            exact ⟨(), Weak.mkL [] (by decide) trivial ⟨AEv.tmp rfl, trivial⟩⟩
        · intro _
          have h := h358
          refine aw_ret ?_
          obtain rfl := some_of h
          exact ⟨[.bool s357], _, [], ⟨(AEv.tmp rfl), trivial⟩, (AV.Le.refl _), Weak.mkL [] (by decide) trivial trivial, ⟨rfl, rfl⟩⟩
      · replace h := ite_t (ndec_f hb444) h
        refine aw_skip ?_
        obtain ⟨s443, s443e, h397⟩ := bind_some h
        refine aw_join (σ := Int) (ν := Unit) (fun u v => [(6, .str s288.1), (7, .int .i64 u), (10, .ptr p353 0)]) (fun u v => [(p353, .cells (api.Input.ct .no r351.1))]) (fun u => s443 = .inl u) ?_ ?_
        · intro s396
          intro _
          rintro rfl
          have h := onSum_inl h397
          obtain ⟨s436, s436e, h437⟩ := bind_some h
          refine aw_meet (ν := Unit) (fun v => [(4, .bool s436)]) (fun v => []) ?_ ?_
          · have h := s436e
            refine aw_region ?_
            refine ap (.int .i64 s396) rfl rfl rfl (pu_move rfl (AEv.tmp rfl)) ?_
            refine ap (.str s288.1) rfl rfl rfl (pu_move rfl (AEv.tmp rfl)) ?_
            refine ap (.int .i64 (s288.1.length : Int)) rfl rfl rfl (pu_strLen rfl underlying9 (AEv.tmp rfl)) ?_
            refine ap (.bool (decide (s396 = (s288.1.length : Int)))) rfl rfl rfl (pu_int (v := .bool (decide (s396 = (s288.1.length : Int)))) rfl rfl (AEv.tmp rfl) (AEv.tmp rfl) rfl) ?_
            refine ap (.bool (decide (s396 = (s288.1.length : Int)))) rfl rfl rfl (pu_move rfl (AEv.tmp rfl)) ?_
            rcases Bool.eq_false_or_eq_true (decide (s396 = (s288.1.length : Int))) with hb439 | hb439
            · replace h := ite_t (dec_t hb439) h
              refine aops_known 96 rfl hb439 ?_
              refine ag rfl rfl rfl rfl rfl rfl rfl (op_loadN (i := 0) rfl isAgg29 sizeOf29 (AEv.tmp rfl) rfl (Nat.le_of_ble_eq_true rfl) rfl ?_)
              obtain ⟨r440, r440e, h⟩ := bind_some h
              refine ag rfl rfl rfl rfl rfl rfl rfl (op_call (vs := [.agg (api.Input.ct .no r351.1)]) (H := []) rfl call21 ⟨(AEv.tmp rfl), trivial⟩ (List.Perm.refl _) (parse.Idle.ok r440e) ?_)
              rintro _ _ ⟨rfl, rfl⟩
              refine ap (.bool r440) rfl rfl rfl (pu_pick (b := true) rfl (AEv.tmp rfl) (fun _ => (AEv.tmp rfl)) (fun h => nomatch h)) ?_
              refine ap (.bool r440) rfl rfl rfl (pu_move rfl (AEv.tmp rfl)) ?_
              rcases Bool.eq_false_or_eq_true r440 with hb441 | hb441
              · replace h := ite_t hb441 h
                refine aops_known 100 rfl hb441 ?_
                obtain ⟨r442, r442e, h⟩ := bind_some h
                refine ag rfl rfl rfl rfl rfl rfl rfl (op_call (vs := []) (H := []) rfl call14 trivial (List.Perm.refl _) (mewslaw05.alive.ok r442e) ?_)
                rintro _ _ ⟨rfl, rfl⟩
                refine ap (.bool r442) rfl rfl rfl (pu_pick (b := true) rfl (AEv.tmp rfl) (fun _ => (AEv.tmp rfl)) (fun h => nomatch h)) ?_
                refine ap (.bool r442) rfl rfl rfl (pu_assign rfl (AEv.tmp rfl)) ?_
                refine aops_nil ?_
                obtain rfl := some_of h
                exact ⟨(), Weak.mkL [] (by decide) trivial ⟨AEv.tmp rfl, trivial⟩⟩
              · replace h := ite_fb hb441 h
                refine aops_known 100 rfl hb441 ?_
                refine an rfl rfl rfl rfl rfl rfl rfl rfl ?_
                refine ap (.bool false) rfl rfl rfl (pu_pick (b := false) rfl (AEv.tmp rfl) (fun h => nomatch h) (fun _ => (AEv.bool _))) ?_
                refine ap (.bool false) rfl rfl rfl (pu_assign rfl (AEv.tmp rfl)) ?_
                refine aops_nil ?_
                obtain rfl := some_of h
                exact ⟨(), Weak.mkL [] (by decide) trivial ⟨AEv.tmp rfl, trivial⟩⟩
            · replace h := ite_f (dec_f hb439) h
              refine aops_known 96 rfl hb439 ?_
              refine an rfl rfl rfl rfl rfl rfl rfl rfl ?_
              refine an rfl rfl rfl rfl rfl rfl rfl rfl ?_
              refine ap (.bool false) rfl rfl rfl (pu_pick (b := false) rfl (AEv.tmp rfl) (fun h => nomatch h) (fun _ => (AEv.bool _))) ?_
              refine ap (.bool false) rfl rfl rfl (pu_move rfl (AEv.tmp rfl)) ?_
              refine an rfl rfl rfl rfl rfl rfl rfl rfl ?_
              refine ap (.bool false) rfl rfl rfl (pu_pick (b := false) rfl (AEv.tmp rfl) (fun h => nomatch h) (fun _ => (AEv.bool _))) ?_
              refine ap (.bool false) rfl rfl rfl (pu_assign rfl (AEv.tmp rfl)) ?_
              refine aops_nil ?_
              obtain rfl := some_of h
              exact ⟨(), Weak.mkL [] (by decide) trivial ⟨AEv.tmp rfl, trivial⟩⟩
          · intro _
            have h := h437
            refine aw_ret ?_
            obtain rfl := some_of h
            exact ⟨[.bool s436], _, [], ⟨(AEv.tmp rfl), trivial⟩, (AV.Le.refl _), Weak.mkL [] (by decide) trivial trivial, ⟨rfl, rfl⟩⟩
        · have h := s443e
          refine aw_seq ?_
          refine aw_region ?_
          refine ap (.sl (.own t352) 2 (r351.2.1.map api.Request.av)) rfl rfl rfl (pu_move rfl (AEv.tmp rfl)) ?_
          refine ap (.int .i64 (r351.2.1.length : Int)) rfl rfl rfl (pu_lenM rfl underlying30 (AEv.tmp rfl)) ?_
          refine ap (.int .i64 0) rfl rfl rfl (pu_move rfl (AEv.int _ _)) ?_
          refine aops_nil ?_
          refine aw_block ?_
          refine aw_while (σ := mewslaw05.ParseCounts.S2) (ν := Unit) (mewslaw05.ParseCounts.body2 r351 r226) (fun s419 v => [(5, .ptr p227 0), (6, .str s288.1), (7, .int .i64 s419.n), (10, .ptr p353 0), (69, .sl (.own t352) 2 (r351.2.1.map api.Request.av)), (70, .int .i64 (r351.2.1.length : Int)), (71, .int .i64 s419.t71)]) (fun s419 v => [(p227, .cells [.int .i64 r226.Args, .int .i64 r226.Bulk, .int .i64 r226.Line]), (p353, .cells (api.Input.ct .no r351.1)), (t352, .spare)]) ⟨s288.2, 0⟩ () _ h (Weak.mkL [3, 0, 1] (by decide) ⟨⟨_, rfl, (CellsLe.refl _), rfl⟩, ⟨_, rfl, (CellsLe.refl _), rfl⟩, ⟨_, rfl, rfl⟩, trivial⟩ ⟨AEv.tmp rfl, AEv.tmp rfl, AEv.tmp rfl, AEv.tmp rfl, AEv.tmp rfl, AEv.tmp rfl, AEv.tmp rfl, trivial⟩) ?_
          rintro s419 _ x421 h hx420
          unfold mewslaw05.ParseCounts.body2 at h
          refine aw_seq ?_
          refine aw_region ?_
          refine ap (.bool (decide (s419.t71 < (r351.2.1.length : Int)))) rfl rfl rfl (pu_int (v := .bool (decide (s419.t71 < (r351.2.1.length : Int)))) rfl rfl (AEv.tmp rfl) (AEv.tmp rfl) rfl) ?_
          refine aops_nil ?_
          refine aw_seq ?_
          refine aw_cond (b := decide (s419.t71 < (r351.2.1.length : Int))) (AEv.tmp rfl) (fun hb431 => ?_) (fun hb431 => ?_)
          · replace h := ite_t (dec_t hb431) h
            refine aw_skip ?_
            refine aw_seq ?_
            refine aw_block ?_
            refine aw_seq ?_
            refine aw_region ?_
            obtain ⟨c423, h⟩ := need_of h
            refine ap (.vptr [.sl .no 1 ((ix r351.2.1 s419.t71).Args.map AV.str), .int .i64 (ix r351.2.1 s419.t71).Size]) rfl rfl rfl (pu_indexAddrM rfl underlying30 sizeOf44 (AEv.tmp rfl) (AEv.tmp rfl) c423 rfl) ?_
            refine ac rfl rfl rfl (op_loadVN rfl isAgg44 sizeOf44 (AEv.tmp rfl) (Nat.le_of_ble_eq_true rfl) rfl ?_)
            refine ac rfl rfl rfl (op_alloc (cs := [.sl .full 1 (([] : List (List UInt8)).map AV.str), .int .i64 0]) (v := .agg [.sl .full 1 (([] : List (List UInt8)).map AV.str), .int .i64 0]) rfl zeroValue44 rfl rfl rfl ?_)
            intro p424
            refine ac0 rfl rfl (op_store (i := 0) (cs' := [.sl .no 1 ((ix r351.2.1 s419.t71).Args.map AV.str), .int .i64 (ix r351.2.1 s419.t71).Size]) rfl sizeOf44 (AEv.tmp rfl) (v := .agg [.sl .no 1 ((ix r351.2.1 s419.t71).Args.map AV.str), .int .i64 (ix r351.2.1 s419.t71).Size]) (AEv.tmp rfl) rfl rfl rfl (Nat.le_of_ble_eq_true rfl) rfl ?_)
            refine aops_nil ?_
            refine aw_seq ?_
            refine aw_region ?_
            refine ap (.int .i64 s419.n) rfl rfl rfl (pu_move rfl (AEv.tmp rfl)) ?_
            refine ap (.ptr p424 1) rfl rfl rfl (pu_fieldAddr rfl underlying44 rfl sizeOf3 (by decide) (AEv.tmp rfl) rfl) ?_
            refine ac rfl rfl rfl (op_load1 (i := 0) rfl isAgg3 (AEv.tmp rfl) rfl rfl ?_)
            refine ap (.int .i64 (IntKind.wrap .i64 (s419.n + (ix r351.2.1 s419.t71).Size))) rfl rfl rfl (pu_int (v := .int .i64 (IntKind.wrap .i64 (s419.n + (ix r351.2.1 s419.t71).Size))) rfl rfl (AEv.tmp rfl) (AEv.tmp rfl) rfl) ?_
            refine ap (.int .i64 (IntKind.wrap .i64 (s419.n + (ix r351.2.1 s419.t71).Size))) rfl rfl rfl (pu_assign rfl (AEv.tmp rfl)) ?_
            refine aops_nil ?_
            obtain ⟨s426, s426e, h427⟩ := letO_of h
            refine aw_meet (ν := Unit) (fun v => [(5, .ptr p227 0), (6, .str s288.1), (7, .int .i64 (IntKind.wrap .i64 (s419.n + (ix r351.2.1 s419.t71).Size))), (10, .ptr p353 0), (69, .sl (.own t352) 2 (r351.2.1.map api.Request.av)), (70, .int .i64 (r351.2.1.length : Int)), (71, .int .i64 s419.t71), (90, .bool s426)]) (fun v => [(p227, .cells [.int .i64 r226.Args, .int .i64 r226.Bulk, .int .i64 r226.Line]), (p353, .cells (api.Input.ct .no r351.1)), (t352, .spare)]) ?_ ?_
            · have h := s426e.symm
              refine aw_region ?_
              refine ap (.ptr p424 0) rfl rfl rfl (pu_fieldAddr rfl underlying44 rfl sizeOf26 (by decide) (AEv.tmp rfl) rfl) ?_
              refine ac rfl rfl rfl (op_load1 (i := 0) rfl isAgg26 (AEv.tmp rfl) rfl rfl ?_)
              refine ap (.int .i64 ((ix r351.2.1 s419.t71).Args.length : Int)) rfl rfl rfl (pu_lenM rfl underlying26 (AEv.tmp rfl)) ?_
              refine ap (.ptr p227 0) rfl rfl rfl (pu_fieldAddr rfl underlying23 rfl sizeOf3 (by decide) (AEv.tmp rfl) rfl) ?_
              refine ac rfl rfl rfl (op_load1 (i := 1) rfl isAgg3 (AEv.tmp rfl) rfl rfl ?_)
              refine ap (.bool (decide (r226.Args < ((ix r351.2.1 s419.t71).Args.length : Int)))) rfl rfl rfl (pu_int (v := .bool (decide (r226.Args < ((ix r351.2.1 s419.t71).Args.length : Int)))) rfl rfl (AEv.tmp rfl) (AEv.tmp rfl) rfl) ?_
              refine ap (.bool (decide (r226.Args < ((ix r351.2.1 s419.t71).Args.length : Int)))) rfl rfl rfl (pu_move rfl (AEv.tmp rfl)) ?_
              rcases Bool.eq_false_or_eq_true (decide (r226.Args < ((ix r351.2.1 s419.t71).Args.length : Int))) with hb429 | hb429
              · replace h := ite_t (dec_t hb429) h
                refine aops_known 85 rfl hb429 ?_
                refine an rfl rfl rfl rfl rfl rfl rfl rfl ?_
                refine an rfl rfl rfl rfl rfl rfl rfl rfl ?_
                refine an rfl rfl rfl rfl rfl rfl rfl rfl ?_
                refine an rfl rfl rfl rfl rfl rfl rfl rfl ?_
                refine ap (.bool true) rfl rfl rfl (pu_pick (b := true) rfl (AEv.tmp rfl) (fun _ => (AEv.bool _)) (fun h => nomatch h)) ?_
                refine aops_nil ?_
                subst h
                exact ⟨(), Weak.mkL [1, 2, 3] (by decide) ⟨⟨_, rfl, (CellsLe.refl _), rfl⟩, ⟨_, rfl, (CellsLe.refl _), rfl⟩, ⟨_, rfl, rfl⟩, trivial⟩ ⟨AEv.tmp rfl, AEv.tmp rfl, AEv.tmp rfl, AEv.tmp rfl, AEv.tmp rfl, AEv.tmp rfl, AEv.tmp rfl, AEv.tmp rfl, trivial⟩⟩
              · replace h := ite_f (dec_f hb429) h
                refine aops_known 85 rfl hb429 ?_
                refine agp (.ptr p424 0) rfl rfl rfl rfl rfl rfl rfl (pu_fieldAddr rfl underlying44 rfl sizeOf26 (by decide) (AEv.tmp rfl) rfl) ?_
                refine ag rfl rfl rfl rfl rfl rfl rfl (op_load1 (i := 0) rfl isAgg26 (AEv.tmp rfl) rfl rfl ?_)
                refine agp (.int .i64 ((ix r351.2.1 s419.t71).Args.length : Int)) rfl rfl rfl rfl rfl rfl rfl (pu_lenM rfl underlying26 (AEv.tmp rfl)) ?_
                refine agp (.bool (decide (((ix r351.2.1 s419.t71).Args.length : Int) = 0))) rfl rfl rfl rfl rfl rfl rfl (pu_int (v := .bool (decide (((ix r351.2.1 s419.t71).Args.length : Int) = 0))) rfl rfl (AEv.tmp rfl) (AEv.int _ _) rfl) ?_
                refine ap (.bool (decide (((ix r351.2.1 s419.t71).Args.length : Int) = 0))) rfl rfl rfl (pu_pick (b := false) rfl (AEv.tmp rfl) (fun h => nomatch h) (fun _ => (AEv.tmp rfl))) ?_
                refine aops_nil ?_
                subst h
                exact ⟨(), Weak.mkL [1, 2, 3] (by decide) ⟨⟨_, rfl, (CellsLe.refl _), rfl⟩, ⟨_, rfl, (CellsLe.refl _), rfl⟩, ⟨_, rfl, rfl⟩, trivial⟩ ⟨AEv.tmp rfl, AEv.tmp rfl, AEv.tmp rfl, AEv.tmp rfl, AEv.tmp rfl, AEv.tmp rfl, AEv.tmp rfl, (AEv.le (AEv.tmp rfl) (AV.Le.refl _)), trivial⟩⟩
            · intro _
              have h := h427
              refine aw_cond (b := s426) (AEv.tmp rfl) (fun hb430 => ?_) (fun hb430 => ?_)
              · replace h := ite_t hb430 h
                refine aw_seq ?_
                refine aw_region ?_
                refine ap (.bool false) rfl rfl rfl (pu_assign rfl (AEv.bool _)) ?_
                refine aops_nil ?_
                refine aw_ret ?_
                obtain rfl := some_of h
                have h := congrArg some (hx420 _ rfl)
                obtain rfl := some_of h
                have h := onSum_inr h397
                obtain rfl := some_of h
                exact ⟨[.bool false], _, [], ⟨(AEv.tmp rfl), trivial⟩, (AV.Le.refl _), Weak.mkL [] (by decide) trivial trivial, ⟨rfl, rfl⟩⟩
              · replace h := ite_fb hb430 h
                refine aw_skip ?_
                refine aw_region ?_
                refine ap (.int .i64 (IntKind.wrap .i64 (s419.t71 + 1))) rfl rfl rfl (pu_int (v := .int .i64 (IntKind.wrap .i64 (s419.t71 + 1))) rfl rfl (AEv.tmp rfl) (AEv.int _ _) rfl) ?_
                refine ap (.int .i64 (IntKind.wrap .i64 (s419.t71 + 1))) rfl rfl rfl (pu_move rfl (AEv.tmp rfl)) ?_
                refine aops_nil ?_
                obtain rfl := some_of h
                exact ⟨_, (), rfl, Weak.mkL [0, 1, 2] (by decide) ⟨⟨_, rfl, (CellsLe.refl _), rfl⟩, ⟨_, rfl, (CellsLe.refl _), rfl⟩, ⟨_, rfl, rfl⟩, trivial⟩ ⟨AEv.tmp rfl, AEv.tmp rfl, (AEv.le (AEv.tmp rfl) (AV.Le.refl _)), AEv.tmp rfl, AEv.tmp rfl, AEv.tmp rfl, (AEv.le (AEv.tmp rfl) (AV.Le.refl _)), trivial⟩⟩
          · replace h := ite_f (dec_f hb431) h
            refine aw_exit ?_
            obtain rfl := some_of h
            have h := congrArg some (hx420 _ rfl)
            exact ⟨s419.n, (), (some_of h).symm, Weak.mkL [1] (by decide) ⟨⟨_, rfl, (CellsLe.refl _), rfl⟩, trivial⟩ ⟨AEv.tmp rfl, AEv.tmp rfl, AEv.tmp rfl, trivial⟩⟩
    · have h := s445e
      refine aw_seq ?_
      refine aw_region ?_
      refine ap (.sl .no 1 (lines.map av_List_List_UInt8)) rfl rfl rfl (pu_move rfl (AEv.tmp rfl)) ?_
      refine ap (.int .i64 (lines.length : Int)) rfl rfl rfl (pu_lenM rfl underlying41 (AEv.tmp rfl)) ?_
      refine ap (.int .i64 0) rfl rfl rfl (pu_move rfl (AEv.int _ _)) ?_
      refine aops_nil ?_
      refine aw_block ?_
      refine aw_while (σ := mewslaw05.ParseCounts.S0) (ν := Unit) (mewslaw05.ParseCounts.body0 lines) (fun s329 v => [(0, .sl .no 1 (lines.map av_List_List_UInt8)), (3, .ptr p224 0), (5, .ptr p227 0), (6, .str s329.s), (7, .int .i64 s329.n), (21, .sl .no 1 (lines.map av_List_List_UInt8)), (22, .int .i64 (lines.length : Int)), (23, .int .i64 s329.t23)]) (fun s329 v => [(p224, .cells [.int .i64 l.Args, .int .i64 l.Bulk, .int .i64 l.Line]), (p227, .cells [.int .i64 r226.Args, .int .i64 r226.Bulk, .int .i64 r226.Line])]) ⟨([] : List UInt8), 0, 0⟩ () _ h (Weak.mkL [1, 0] (by decide) ⟨⟨_, rfl, (CellsLe.refl _), rfl⟩, ⟨_, rfl, (CellsLe.refl _), rfl⟩, trivial⟩ ⟨AEv.tmp rfl, AEv.tmp rfl, AEv.tmp rfl, AEv.tmp rfl, AEv.tmp rfl, AEv.tmp rfl, AEv.tmp rfl, AEv.tmp rfl, trivial⟩) ?_
      rintro s329 _ x331 h hx330
      unfold mewslaw05.ParseCounts.body0 at h
      refine aw_seq ?_
      refine aw_region ?_
      refine ap (.bool (decide (s329.t23 < (lines.length : Int)))) rfl rfl rfl (pu_int (v := .bool (decide (s329.t23 < (lines.length : Int)))) rfl rfl (AEv.tmp rfl) (AEv.tmp rfl) rfl) ?_
      refine aops_nil ?_
      refine aw_seq ?_
      refine aw_cond (b := decide (s329.t23 < (lines.length : Int))) (AEv.tmp rfl) (fun hb350 => ?_) (fun hb350 => ?_)
      · replace h := ite_t (dec_t hb350) h
        refine aw_skip ?_
        refine aw_seq ?_
        refine aw_block ?_
        refine aw_seq ?_
        refine aw_region ?_
        obtain ⟨c333, h⟩ := need_of h
        refine ap (.vptr [.sl .no 1 ((ix lines s329.t23).map AV.str)]) rfl rfl rfl (pu_indexAddrM rfl underlying41 sizeOf26 (AEv.tmp rfl) (AEv.tmp rfl) c333 rfl) ?_
        refine ac rfl rfl rfl (op_loadV1 rfl isAgg26 (AEv.tmp rfl) rfl ?_)
        refine ap (.sl .no 1 ((ix lines s329.t23).map AV.str)) rfl rfl rfl (pu_assign rfl (AEv.tmp rfl)) ?_
        refine aops_nil ?_
        refine aw_seq ?_
        obtain ⟨s336, s336e, h337⟩ := bind_some h
        refine aw_meet (ν := Unit) (fun v => [(0, .sl .no 1 (lines.map av_List_List_UInt8)), (3, .ptr p224 0), (5, .ptr p227 0), (6, .str s329.s), (7, .int .i64 s329.n), (9, .sl .no 1 ((ix lines s329.t23).map AV.str)), (21, .sl .no 1 (lines.map av_List_List_UInt8)), (22, .int .i64 (lines.length : Int)), (23, .int .i64 s329.t23), (33, .bool s336)]) (fun v => [(p224, .cells [.int .i64 l.Args, .int .i64 l.Bulk, .int .i64 l.Line]), (p227, .cells [.int .i64 r226.Args, .int .i64 r226.Bulk, .int .i64 r226.Line])]) ?_ ?_
        · have h := s336e
          refine aw_region ?_
          refine ap (.sl .no 1 ((ix lines s329.t23).map AV.str)) rfl rfl rfl (pu_move rfl (AEv.tmp rfl)) ?_
          obtain ⟨r339, r339e, h⟩ := bind_some h
          refine ac rfl rfl rfl (op_call (vs := [.sl .no 1 ((ix lines s329.t23).map AV.str)]) (H := []) rfl call13 ⟨(AEv.tmp rfl), trivial⟩ (List.Perm.refl _) (mewslaw05.far.ok r339e) ?_)
          rintro _ _ ⟨rfl, rfl⟩
          refine ap (.bool r339) rfl rfl rfl (pu_move rfl (AEv.tmp rfl)) ?_
          rcases Bool.eq_false_or_eq_true r339 with hb340 | hb340
          · replace h := ite_t hb340 h
            refine aops_known 29 rfl hb340 ?_
            refine an rfl rfl rfl rfl rfl rfl rfl rfl ?_
            refine an rfl rfl rfl rfl rfl rfl rfl rfl ?_
            refine an rfl rfl rfl rfl rfl rfl rfl rfl ?_
            refine ap (.bool true) rfl rfl rfl (pu_pick (b := true) rfl (AEv.tmp rfl) (fun _ => (AEv.bool _)) (fun h => nomatch h)) ?_
            refine aops_nil ?_
            obtain rfl := some_of h
            exact ⟨(), Weak.mkL [0, 1] (by decide) ⟨⟨_, rfl, (CellsLe.refl _), rfl⟩, ⟨_, rfl, (CellsLe.refl _), rfl⟩, trivial⟩ ⟨AEv.tmp rfl, AEv.tmp rfl, AEv.tmp rfl, AEv.tmp rfl, AEv.tmp rfl, AEv.tmp rfl, AEv.tmp rfl, AEv.tmp rfl, AEv.tmp rfl, AEv.tmp rfl, trivial⟩⟩
          · replace h := ite_fb hb340 h
            refine aops_known 29 rfl hb340 ?_
            refine agp (.str s329.s) rfl rfl rfl rfl rfl rfl rfl (pu_move rfl (AEv.tmp rfl)) ?_
            refine agp (.int .i64 (s329.s.length : Int)) rfl rfl rfl rfl rfl rfl rfl (pu_strLen rfl underlying9 (AEv.tmp rfl)) ?_
            refine agp (.bool (decide (5000 < (s329.s.length : Int)))) rfl rfl rfl rfl rfl rfl rfl (pu_int (v := .bool (decide (5000 < (s329.s.length : Int)))) rfl rfl (AEv.tmp rfl) (AEv.int _ _) rfl) ?_
            refine ap (.bool (decide (5000 < (s329.s.length : Int)))) rfl rfl rfl (pu_pick (b := false) rfl (AEv.tmp rfl) (fun h => nomatch h) (fun _ => (AEv.tmp rfl))) ?_
            refine aops_nil ?_
            obtain rfl := some_of h
            exact ⟨(), Weak.mkL [0, 1] (by decide) ⟨⟨_, rfl, (CellsLe.refl _), rfl⟩, ⟨_, rfl, (CellsLe.refl _), rfl⟩, trivial⟩ ⟨AEv.tmp rfl, AEv.tmp rfl, AEv.tmp rfl, AEv.tmp rfl, AEv.tmp rfl, AEv.tmp rfl, AEv.tmp rfl, AEv.tmp rfl, AEv.tmp rfl, (AEv.le (AEv.tmp rfl) (AV.Le.refl _)), trivial⟩⟩
        · intro _
          have h := h337
          refine aw_cond (b := s336) (AEv.tmp rfl) (fun hb349 => ?_) (fun hb349 => ?_)
          · replace h := ite_t hb349 h
            refine aw_seq ?_
            refine aw_region ?_
            obtain ⟨r341, r341e, h⟩ := bind_some h
            refine ac rfl rfl rfl (op_call (vs := []) (H := []) rfl call14 trivial (List.Perm.refl _) (mewslaw05.alive.ok r341e) ?_)
            rintro _ _ ⟨rfl, rfl⟩
            refine ap (.bool r341) rfl rfl rfl (pu_assign rfl (AEv.tmp rfl)) ?_
            refine aops_nil ?_
            refine aw_ret ?_
            obtain rfl := some_of h
            have h := congrArg some (hx330 _ rfl)
            obtain rfl := some_of h
            have h := onSum_inr h289
            obtain rfl := some_of h
            exact ⟨[.bool r341], _, [], ⟨(AEv.tmp rfl), trivial⟩, (AV.Le.refl _), Weak.mkL [] (by decide) trivial trivial, ⟨rfl, rfl⟩⟩
          · replace h := ite_fb hb349 h
            refine aw_skip ?_
            obtain ⟨s343, s343e, h344⟩ := letO_of h
            refine aw_meet (ν := Unit) (fun v => [(0, .sl .no 1 (lines.map av_List_List_UInt8)), (3, .ptr p224 0), (5, .ptr p227 0), (6, .str s329.s), (7, .int .i64 s343), (9, .sl .no 1 ((ix lines s329.t23).map AV.str)), (21, .sl .no 1 (lines.map av_List_List_UInt8)), (22, .int .i64 (lines.length : Int)), (23, .int .i64 s329.t23)]) (fun v => [(p224, .cells [.int .i64 l.Args, .int .i64 l.Bulk, .int .i64 l.Line]), (p227, .cells [.int .i64 r226.Args, .int .i64 r226.Bulk, .int .i64 r226.Line])]) ?_ ?_
            · have h := s343e.symm
              refine aw_seq ?_
              refine aw_region ?_
              refine ap (.sl .no 1 ((ix lines s329.t23).map AV.str)) rfl rfl rfl (pu_move rfl (AEv.tmp rfl)) ?_
              refine ap (.int .i64 ((ix lines s329.t23).length : Int)) rfl rfl rfl (pu_lenM rfl underlying26 (AEv.tmp rfl)) ?_
              refine ap (.bool (decide (((ix lines s329.t23).length : Int) = 0))) rfl rfl rfl (pu_int (v := .bool (decide (((ix lines s329.t23).length : Int) = 0))) rfl rfl (AEv.tmp rfl) (AEv.int _ _) rfl) ?_
              refine aops_nil ?_
              refine aw_cond (b := decide (((ix lines s329.t23).length : Int) = 0)) (AEv.tmp rfl) (fun hb346 => ?_) (fun hb346 => ?_)
              · replace h := ite_t (dec_t hb346) h
                refine aw_region ?_
                refine ap (.int .i64 s329.n) rfl rfl rfl (pu_move rfl (AEv.tmp rfl)) ?_
                refine ap (.int .i64 (IntKind.wrap .i64 (s329.n + 4))) rfl rfl rfl (pu_int (v := .int .i64 (IntKind.wrap .i64 (s329.n + 4))) rfl rfl (AEv.tmp rfl) (AEv.int _ _) rfl) ?_
                refine ap (.int .i64 (IntKind.wrap .i64 (s329.n + 4))) rfl rfl rfl (pu_assign rfl (AEv.tmp rfl)) ?_
                refine aops_nil ?_
                subst h
                exact ⟨(), Weak.mkL [0, 1] (by decide) ⟨⟨_, rfl, (CellsLe.refl _), rfl⟩, ⟨_, rfl, (CellsLe.refl _), rfl⟩, trivial⟩ ⟨AEv.tmp rfl, AEv.tmp rfl, AEv.tmp rfl, AEv.tmp rfl, (AEv.le (AEv.tmp rfl) (AV.Le.refl _)), AEv.tmp rfl, AEv.tmp rfl, AEv.tmp rfl, AEv.tmp rfl, trivial⟩⟩
              · replace h := ite_f (dec_f hb346) h
                refine aw_skip ?_
                subst h
                exact ⟨(), Weak.mkL [0, 1] (by decide) ⟨⟨_, rfl, (CellsLe.refl _), rfl⟩, ⟨_, rfl, (CellsLe.refl _), rfl⟩, trivial⟩ ⟨AEv.tmp rfl, AEv.tmp rfl, AEv.tmp rfl, AEv.tmp rfl, AEv.tmp rfl, AEv.tmp rfl, AEv.tmp rfl, AEv.tmp rfl, AEv.tmp rfl, trivial⟩⟩
            · intro _
              have h := h344
              refine aw_region ?_
              refine ap (.str s329.s) rfl rfl rfl (pu_move rfl (AEv.tmp rfl)) ?_
              refine ap (.sl .no 1 ((ix lines s329.t23).map AV.str)) rfl rfl rfl (pu_move rfl (AEv.tmp rfl)) ?_
              obtain ⟨r347, r347e, h⟩ := bind_some h
              refine ac rfl rfl rfl (op_call (vs := [.sl .no 1 ((ix lines s329.t23).map AV.str)]) (H := []) rfl call22 ⟨(AEv.tmp rfl), trivial⟩ (List.Perm.refl _) (mewsref05.Put.ok r347e) ?_)
              rintro _ _ ⟨rfl, rfl⟩
              obtain ⟨c348, h⟩ := need_of h
              refine ap (.str (s329.s ++ r347)) rfl rfl rfl (pu_strAdd rfl (AEv.tmp rfl) (AEv.tmp rfl) c348) ?_
              refine ap (.str (s329.s ++ r347)) rfl rfl rfl (pu_assign rfl (AEv.tmp rfl)) ?_
              refine aops_nil ?_
              refine aw_region ?_
              refine ap (.int .i64 (IntKind.wrap .i64 (s329.t23 + 1))) rfl rfl rfl (pu_int (v := .int .i64 (IntKind.wrap .i64 (s329.t23 + 1))) rfl rfl (AEv.tmp rfl) (AEv.int _ _) rfl) ?_
              refine ap (.int .i64 (IntKind.wrap .i64 (s329.t23 + 1))) rfl rfl rfl (pu_move rfl (AEv.tmp rfl)) ?_
              refine aops_nil ?_
              obtain rfl := some_of h
              exact ⟨_, (), rfl, Weak.mkL [0, 1] (by decide) ⟨⟨_, rfl, (CellsLe.refl _), rfl⟩, ⟨_, rfl, (CellsLe.refl _), rfl⟩, trivial⟩ ⟨AEv.tmp rfl, AEv.tmp rfl, AEv.tmp rfl, (AEv.le (AEv.tmp rfl) (AV.Le.refl _)), AEv.tmp rfl, AEv.tmp rfl, AEv.tmp rfl, (AEv.le (AEv.tmp rfl) (AV.Le.refl _)), trivial⟩⟩
      · replace h := ite_f (dec_f hb350) h
        refine aw_exit ?_
        obtain rfl := some_of h
        have h := congrArg some (hx330 _ rfl)
        exact ⟨(s329.s, s329.n), (), (some_of h).symm, Weak.mkL [0, 1] (by decide) ⟨⟨_, rfl, (CellsLe.refl _), rfl⟩, ⟨_, rfl, (CellsLe.refl _), rfl⟩, trivial⟩ ⟨AEv.tmp rfl, AEv.tmp rfl, AEv.tmp rfl, AEv.tmp rfl, AEv.tmp rfl, trivial⟩⟩

end Go.Pu
