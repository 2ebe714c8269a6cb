/- Printed by lift.py: the functions come to them. -/
import Derived.Test.YtmognhokagemiaaGreatLiftWS
import Derived.Test.YtmognhokagemiaaGreatRZK1
set_option maxRecDepth 100000
set_option maxHeartbeats 0
namespace Go.Pu
open Go.Lift Go.Proofs.Tryz Go.RowKit Go.Proofs

theorem parse.parser.line.ok {p_ r} (h : parse.parser.line p_ = some r) (o0 q0 q1 : Nat) : Sp prog 136 [.ptr o0 0] [(o0, .cells (parse.parser.ct (.own q0) (.own q1) p_)), (q0, .spare), (q1, .spare)] (fun v H => ∃ n0 n1, v = .bool r.1 ∧ H = [(o0, .cells [.str r.2.in_.Rest, .sl (.own n0) 1 (m3L r.2.in_.Args), .i r.2.in_.Left, .i r.2.in_.Size, .bool r.2.in_.Body, .i r.2.in_.Need, .i r.2.in_.Dead, .str r.2.s, .i r.2.l.Args, .i r.2.l.Bulk, .i r.2.l.Line, .sl (.own n1) 2 (m6L r.2.out)]), (n0, .spare), (n1, .spare)]) := by
 unfold parse.parser.line at h
 refine sb [.tmp 2] func136 Z (xr (xb [.ptr o0 0] Z fun p35 => xz (.bool false) Z (xe (xr (xl 0 isAgg182 Z (xa (.ptr o0 0) Z (pu_nilCheck Z (tm Z) Z) (xf (.ptr o0 7) underlying184 sizeOf9 Z (xl 1 isAgg9 Z ?_))))))))
 obtain ⟨r36, r36e, h⟩ := bind_some h
 refine xo (strings.IndexByte.ok r36e) call145 Z (xy Z (xe (aw_seq ?_)))
 obtain ⟨s39, s39e, h40⟩ := letO_of h
 refine aw_meet (ν := Unit) (fun v => [(1, .ptr p35 0), (3, .i r36), (35, .bool s39)]) (fun v => [(p35, .cells [.ptr o0 0]), (o0, .cells (parse.parser.ct (.own q0) (.own q1) p_)), (q0, .spare), (q1, .spare)]) ?_ ?_
 have h := s39e.symm
 rcases Bool.eq_false_or_eq_true (decide (r36 < 0)) with hb42 | hb42
 replace h := ite_t (dec_t hb42) h
 rcases Bool.eq_false_or_eq_true (decide (p_.l.Line < (p_.s.length : Int))) with hb43 | hb43
 replace h := ite_t (dec_t hb43) h
 refine aw_planR (by decide +kernel) [[], [], [], [(0, 0, false)], [], [], [(1, 0, false)], [], [(0, 0, false)], [], [], [], [(1, 0, false)], [], [], [], [], [], [], [], [], [], [], []] [[], [], [], []] [[[(p35, .cells [.ptr o0 0])]], [[(o0, .cells (parse.parser.ct (.own q0) (.own q1) p_))]], [[(q0, .spare)]], [[(q1, .spare)]]] [.i r36, bd (r36 < 0), .bool true, .ptr o0 0, .ptr o0 0, .ptr o0 7, .str p_.s, .i (p_.s.length : Int), .ptr o0 0, .ptr o0 0, .ptr o0 8, .ptr o0 10, .i p_.l.Line, bd (p_.l.Line < (p_.s.length : Int)), bd (p_.l.Line < (p_.s.length : Int)), .bool true, .lit undef, .lit undef, .lit undef, .lit undef, .lit undef, .lit undef, .lit undef, .bool true] (by decide +kernel) Z Z ?_ ?_
 exact ⟨ym Z Z Z, yp Z (pe Z), AStepG.cast (ym Z Z Z) (congrArg AV.bool hb42), yg Z Z (op_load1 (i := 0) Z isAgg182 (tm Z) Z Z ⟨Z, Z⟩), yq Z Z (pu_nilCheck Z (tm Z) Z), yq Z Z (fa Z underlying184 Z sizeOf9 Z Z Z), yg Z Z (op_load1 (i := 0) Z isAgg9 (tm Z) Z Z ⟨Z, Z⟩), yq Z Z (pu_strLen Z underlying9 (tm Z)), yg Z Z (op_load1 (i := 0) Z isAgg182 (tm Z) Z Z ⟨Z, Z⟩), yq Z Z (pu_nilCheck Z (tm Z) Z), yq Z Z (fa Z underlying184 Z sizeOf149 Z Z Z), yq Z Z (fa Z underlying149 Z sizeOf3 Z Z Z), yg Z Z (op_load1 (i := 0) Z isAgg3 (tm Z) Z Z ⟨Z, Z⟩), yq Z Z (pe Z), yp Z (pe Z), AStepG.cast (ym Z Z Z) (congrArg AV.bool hb43), yx Z Z Z, yx Z Z Z, yx Z Z Z, yx Z Z Z, yx Z Z Z, yx Z Z Z, yx Z Z Z, yp Z (pe Z), trivial⟩
 subst h
 exact ⟨(), wi [0, 1, 2, 3] Z⟩
 replace h := ite_f (dec_f hb43) h
 refine aw_planR (by decide +kernel) [[], [], [], [(0, 0, false)], [], [], [(1, 0, false)], [], [(0, 0, false)], [], [], [], [(1, 0, false)], [], [], [], [], [(0, 0, false)], [], [], [], [(1, 0, false)], [], []] [[], [], [], []] [[[(p35, .cells [.ptr o0 0])]], [[(o0, .cells (parse.parser.ct (.own q0) (.own q1) p_))]], [[(q0, .spare)]], [[(q1, .spare)]]] [.i r36, bd (r36 < 0), .bool true, .ptr o0 0, .ptr o0 0, .ptr o0 7, .str p_.s, .i (p_.s.length : Int), .ptr o0 0, .ptr o0 0, .ptr o0 8, .ptr o0 10, .i p_.l.Line, bd (p_.l.Line < (p_.s.length : Int)), bd (p_.l.Line < (p_.s.length : Int)), .bool false, .i r36, .ptr o0 0, .ptr o0 0, .ptr o0 8, .ptr o0 10, .i p_.l.Line, bd (p_.l.Line < r36), bd (p_.l.Line < r36)] (by decide +kernel) Z Z ?_ ?_
 exact ⟨ym Z Z Z, yp Z (pe Z), AStepG.cast (ym Z Z Z) (congrArg AV.bool hb42), yg Z Z (op_load1 (i := 0) Z isAgg182 (tm Z) Z Z ⟨Z, Z⟩), yq Z Z (pu_nilCheck Z (tm Z) Z), yq Z Z (fa Z underlying184 Z sizeOf9 Z Z Z), yg Z Z (op_load1 (i := 0) Z isAgg9 (tm Z) Z Z ⟨Z, Z⟩), yq Z Z (pu_strLen Z underlying9 (tm Z)), yg Z Z (op_load1 (i := 0) Z isAgg182 (tm Z) Z Z ⟨Z, Z⟩), yq Z Z (pu_nilCheck Z (tm Z) Z), yq Z Z (fa Z underlying184 Z sizeOf149 Z Z Z), yq Z Z (fa Z underlying149 Z sizeOf3 Z Z Z), yg Z Z (op_load1 (i := 0) Z isAgg3 (tm Z) Z Z ⟨Z, Z⟩), yq Z Z (pe Z), yp Z (pe Z), AStepG.cast (ym Z Z Z) (congrArg AV.bool hb43), yq Z Z (pe Z), yg Z Z (op_load1 (i := 0) Z isAgg182 (tm Z) Z Z ⟨Z, Z⟩), yq Z Z (pu_nilCheck Z (tm Z) Z), yq Z Z (fa Z underlying184 Z sizeOf149 Z Z Z), yq Z Z (fa Z underlying149 Z sizeOf3 Z Z Z), yg Z Z (op_load1 (i := 0) Z isAgg3 (tm Z) Z Z ⟨Z, Z⟩), yq Z Z (pe Z), yp Z (pe Z), trivial⟩
 subst h
 exact ⟨(), wi [0, 1, 2, 3] Z⟩
 replace h := ite_f (dec_f hb42) h
 refine aw_planR (by decide +kernel) [[], [], [], [], [], [], [], [], [], [], [], [], [], [], [], [], [], [(0, 0, false)], [], [], [], [(1, 0, false)], [], []] [[], [], [], []] [[[(p35, .cells [.ptr o0 0])]], [[(o0, .cells (parse.parser.ct (.own q0) (.own q1) p_))]], [[(q0, .spare)]], [[(q1, .spare)]]] [.i r36, bd (r36 < 0), .bool false, .lit undef, .lit undef, .lit undef, .lit undef, .lit undef, .lit undef, .lit undef, .lit undef, .lit undef, .lit undef, .lit undef, .bool false, .bool false, .i r36, .ptr o0 0, .ptr o0 0, .ptr o0 8, .ptr o0 10, .i p_.l.Line, bd (p_.l.Line < r36), bd (p_.l.Line < r36)] (by decide +kernel) Z Z ?_ ?_
 exact ⟨ym Z Z Z, yp Z (pe Z), AStepG.cast (ym Z Z Z) (congrArg AV.bool hb42), yx Z Z Z, yx Z Z Z, yx Z Z Z, yx Z Z Z, yx Z Z Z, yx Z Z Z, yx Z Z Z, yx Z Z Z, yx Z Z Z, yx Z Z Z, yx Z Z Z, yp Z (pe Z), ym Z Z Z, yq Z Z (pe Z), yg Z Z (op_load1 (i := 0) Z isAgg182 (tm Z) Z Z ⟨Z, Z⟩), yq Z Z (pu_nilCheck Z (tm Z) Z), yq Z Z (fa Z underlying184 Z sizeOf149 Z Z Z), yq Z Z (fa Z underlying149 Z sizeOf3 Z Z Z), yg Z Z (op_load1 (i := 0) Z isAgg3 (tm Z) Z Z ⟨Z, Z⟩), yq Z Z (pe Z), yp Z (pe Z), trivial⟩
 subst h
 exact ⟨(), wi [0, 1, 2, 3] Z⟩
 intro _
 have h := h40
 refine aw_cond (b := s39) (tm Z) (fun hb73 => ?_) (fun hb73 => ?_)
 replace h := ite_t hb73 h
 refine xr (xl 0 isAgg182 Z ?_)
 obtain ⟨r44, r44e, h⟩ := bind_some h
 refine aops_weak (weak_pick [1, 2, 3, 0] (by decide) Z) (xk (parse.parser.dies.ok r44e o0 q0 q1) call143 Z ?_)
 rintro _ _ ⟨t45, rfl, rfl⟩
 refine xy Z (xe (aw_claimCell 0 1 Z Z fun t46 => (aw_ret ?_)))
 cases h
 exact rt ⟨t46, t45, Z, Z⟩ Z (wi [1, 0, 2] Z)
 replace h := ite_fb hb73 h
 refine aw_skip (aw_seq (xr (xy Z (xz (bd (r36 < 0)) Z (xe (cd h Z (fun _ h => ?_) (fun _ h => ?_)))))))
 refine xr (xz (.bool false) Z (xe (aw_ret ?_)))
 cases h
 exact rt ⟨q0, q1, Z, Z⟩ Z (wi [1, 2, 3] Z)
 refine aw_skip (xr (xl 0 isAgg182 Z (xa (.ptr o0 0) Z (pu_nilCheck Z (tm Z) Z) (xf (.ptr o0 7) underlying184 sizeOf9 Z (xl 1 isAgg9 Z (xy Z ?_))))))
 obtain ⟨c47, h⟩ := need_of h
 refine xa (.str (sub p_.s 0 r36)) Z (pu_strSliceM Z underlying9 (tm Z) Z ⟨_, (tm Z)⟩ c47) ?_
 obtain ⟨r48, r48e, h⟩ := bind_some h
 refine xc Z (op_call (vs := [.str (sub p_.s 0 r36), .str [13]]) (H := []) Z call147 ⟨(tm Z), (AEv.const Z), trivial⟩ (List.Perm.refl _) (strings.TrimSuffix.ok r48e) ?_)
 rintro _ _ ⟨rfl, rfl⟩
 obtain ⟨r49, r49e, h⟩ := bind_some h
 refine xk (line.Split.ok r49e) call146 Z ?_
 rintro _ _ ⟨t50, rfl, rfl⟩
 refine xy Z (xz (.sl (.own t50) 1 (m3L r49.1)) Z (xz (.bool r49.2) Z (xy Z (xy Z (xe (xr (xa (.fn 148 [.ptr p35 0]) Z (pu_makeFunc Z ⟨(tm Z), trivial⟩) (xy Z ?_))))))))
 refine xe (aw_seq (aw_block (xr (xy Z (xz (.bool (!r49.2)) Z (xy Z (xe (cb h Z (fun _ h => ?_) (fun _ h => ?_)))))))))
 refine xr (xl 1 isAgg182 Z ?_)
 obtain ⟨r51, r51e, h⟩ := bind_some h
 refine aops_weak (weak_pick [2, 3, 4, 0, 1] (by decide) Z) (xk (parse.parser.dies.ok r51e o0 q0 q1) call143 Z ?_)
 rintro _ _ ⟨t52, rfl, rfl⟩
 refine xy Z (xe (aw_claimCell 0 1 Z Z fun t53 => (aw_ret ?_)))
 cases h
 exact rt ⟨t53, t52, Z, Z⟩ Z (wi [1, 0, 2] Z)
 refine xr (xy Z (xa (.i (r49.1.length : Int)) Z (pu_lenM Z underlying65 (tm Z)) (xl 1 isAgg182 Z (xa (.ptr o0 0) Z (pu_nilCheck Z (tm Z) Z) (xf (.ptr o0 8) underlying184 sizeOf149 Z (xf (.ptr o0 8) underlying149 sizeOf3 Z (xl 2 isAgg3 Z (xz (bd (p_.l.Args < (r49.1.length : Int))) Z ?_))))))))
 refine xy Z (xe (cd h Z (fun _ h => ?_) (fun _ h => ?_)))
 refine xr (xl 1 isAgg182 Z ?_)
 obtain ⟨r54, r54e, h⟩ := bind_some h
 refine aops_weak (weak_pick [2, 3, 4, 0, 1] (by decide) Z) (xk (parse.parser.dies.ok r54e o0 q0 q1) call143 Z ?_)
 rintro _ _ ⟨t55, rfl, rfl⟩
 refine xy Z (xe (aw_claimCell 0 1 Z Z fun t56 => (aw_ret ?_)))
 cases h
 exact rt ⟨t56, t55, Z, Z⟩ Z (wi [1, 0, 2] Z)
 refine xr (xy Z (xy Z ?_))
 obtain ⟨r57, r57e, h⟩ := bind_some h
 refine aops_weak (weak_pick [1, 2, 3, 4, 0] (by decide) Z) (xc Z (op_call (vs := [.sl .no 1 (m3L r49.1), .fn 148 [.ptr p35 0]]) (H := [(p35, .cells [.ptr o0 0]), (o0, .cells (parse.parser.ct (.own q0) (.own q1) p_)), (q0, .spare), (q1, .spare)]) Z call76 ⟨(AEv.le (tm Z) (AV.Le.forget _ _ _)), (tm Z), trivial⟩ (List.Perm.refl _) (slices.ContainsFunc_string_parse_parser_line_1.ok r57e p35 o0 q0 q1) ?_))
 rintro _ _ ⟨t58, t59, rfl, rfl⟩
 refine xy Z (xe (cb h Z (fun _ h => ?_) (fun _ h => ?_)))
 refine xr (xl 0 isAgg182 Z ?_)
 obtain ⟨r60, r60e, h⟩ := bind_some h
 refine aops_weak (weak_pick [1, 2, 3, 0, 4] (by decide) Z) (xk (parse.parser.dies.ok r60e o0 t58 t59) call143 Z ?_)
 rintro _ _ ⟨t61, rfl, rfl⟩
 refine xy Z (xe (aw_claimCell 0 1 Z Z fun t62 => (aw_ret ?_)))
 cases h
 exact rt ⟨t62, t61, Z, Z⟩ Z (wi [1, 0, 2] Z)
 refine aw_skip (xr (xl 0 isAgg182 Z (xy Z (xz (.i (w64 (r36 + 1))) Z ?_))))
 obtain ⟨r63, r63e, h⟩ := bind_some h
 refine aops_weak (weak_pick [1, 2, 3, 0, 4] (by decide) Z) (xk (parse.parser.past.ok r63e o0 t58 t59) call144 Z ?_)
 rintro _ _ ⟨t64, t65, rfl, rfl⟩
 refine xe (xr (xl 3 isAgg182 Z (xy Z ?_)))
 obtain ⟨r66, r66e, h⟩ := bind_some h
 refine xc Z (op_call (vs := [.ptr o0 0, .sl .no 1 (m3L r49.1)]) (H := [(o0, .cells (parse.parser.ct (.own t64) (.own t65) r63)), (t64, .spare), (t65, .spare)]) Z call137 ⟨(tm Z), (AEv.le (tm Z) (AV.Le.forget _ _ _)), trivial⟩ (List.Perm.refl _) (parse.parser.whole.ok r66e o0 t64 t65) ?_)
 rintro _ _ ⟨t67, rfl, rfl⟩
 refine xe (xr (xz (.bool true) Z (xe (aw_claimCell 0 1 Z Z fun t68 => (aw_ret ?_)))))
 cases h
 exact rt ⟨t68, t67, Z, Z⟩ Z (wi [1, 0, 2] Z)

theorem parse.parser.step.ok {p_ r} (h : parse.parser.step p_ = some r) (o0 q0 q1 : Nat) : Sp prog 121 [.ptr o0 0] [(o0, .cells (parse.parser.ct (.own q0) (.own q1) p_)), (q0, .spare), (q1, .spare)] (fun v H => ∃ n0 n1, v = .bool r.1 ∧ H = [(o0, .cells [.str r.2.in_.Rest, .sl (.own n0) 1 (m3L r.2.in_.Args), .i r.2.in_.Left, .i r.2.in_.Size, .bool r.2.in_.Body, .i r.2.in_.Need, .i r.2.in_.Dead, .str r.2.s, .i r.2.l.Args, .i r.2.l.Bulk, .i r.2.l.Line, .sl (.own n1) 2 (m6L r.2.out)]), (n0, .spare), (n1, .spare)]) := by
 unfold parse.parser.step at h
 refine sb [.tmp 2] func121 Z (xr (xz (.bool false) Z (xe (aw_seq (aw_block (xr (xy Z ?_)))))))
 refine xa (.ptr o0 0) Z (pu_nilCheck Z (tm Z) Z) (xf (.ptr o0 0) underlying184 sizeOf144 Z (xf (.ptr o0 4) underlying144 sizeOf4 Z (xl 0 isAgg4 Z (xy Z (xe (cb h Z (fun _ h => ?_) (fun _ h => ?_)))))))
 refine xr (xy Z ?_)
 obtain ⟨r50, r50e, h⟩ := bind_some h
 refine xk (parse.parser.body.ok r50e o0 q0 q1) call134 Z ?_
 rintro _ _ ⟨t51, t52, rfl, rfl⟩
 refine xy Z (xe (aw_ret ?_))
 cases h
 exact rt ⟨t51, t52, Z, Z⟩ Z (wi [0, 1, 2] Z)
 refine xr (xy Z (xa (.ptr o0 0) Z (pu_nilCheck Z (tm Z) Z) (xf (.ptr o0 0) underlying184 sizeOf144 Z (xf (.ptr o0 2) underlying144 sizeOf3 Z (xl 0 isAgg3 Z (xz (bd (0 < p_.in_.Left)) Z (xy Z (xe ?_))))))))
 refine aw_cond (b := decide (0 < p_.in_.Left)) (tm Z) (fun hb97 => ?_) (fun hb97 => ?_)
 replace h := ite_t (dec_t hb97) h
 refine xr (xy Z (xy Z (xa (.ptr o0 0) Z (pu_nilCheck Z (tm Z) Z) (xf (.ptr o0 8) underlying184 sizeOf149 Z (xf (.ptr o0 9) underlying149 sizeOf3 Z (xl 0 isAgg3 Z ?_))))))
 obtain ⟨r53, r53e, h⟩ := bind_some h
 refine xk (parse.parser.header.ok r53e o0 q0 q1) call135 Z ?_
 rintro _ _ ⟨t54, t55, rfl, rfl⟩
 refine xy Z (xz (.i r53.1) Z (xz (.bool r53.2.1) Z (xy Z (xy Z (xe ?_)))))
 obtain ⟨s57, s57e, h58⟩ := letO_of h
 refine aw_meet (ν := Unit) (fun v => [(4, .bool r53.2.1)]) (fun v => [(o0, .cells (parse.parser.ct (.own t54) (.own t55) { r53.2.2 with in_ := { r53.2.2.in_ with Body := s57.1, Need := s57.2 } })), (t54, .spare), (t55, .spare)]) ?_ ?_
 have h := s57e.symm
 refine xr (xy Z (xe (cb h Z (fun _ h => ?_) (fun _ h => ?_))))
 refine aw_region (xy Z (xy Z (xy Z (xa (.ptr o0 0) Z (pu_nilCheck Z (tm Z) Z) (xf (.ptr o0 0) underlying184 sizeOf144 Z (xf (.ptr o0 4) underlying144 sizeOf4 Z (xs 0 (parse.parser.ct (.own t54) (.own t55) { r53.2.2 with in_ := { r53.2.2.in_ with Body := true } }) sizeOf4 Z (xa (.ptr o0 0) Z (pu_nilCheck Z (tm Z) Z) (xf (.ptr o0 0) underlying184 sizeOf144 Z ?_)))))))))
 refine xf (.ptr o0 5) underlying144 sizeOf3 Z (xs 0 (parse.parser.ct (.own t54) (.own t55) { r53.2.2 with in_ := { r53.2.2.in_ with Body := true, Need := r53.1 } }) sizeOf3 Z (xe ?_))
 subst h
 exact ⟨(), wi [0, 1, 2] Z⟩
 refine aw_skip ?_
 subst h
 exact ⟨(), wi [0, 1, 2] Z⟩
 intro _
 have h := h58
 refine xr (xy Z (xy Z (xe (aw_ret ?_))))
 cases h
 exact rt ⟨t54, t55, Z, Z⟩ Z (wi [0, 1, 2] Z)
 replace h := ite_f (dec_f hb97) h
 refine xr (xy Z (xa (.ptr o0 0) Z (pu_nilCheck Z (tm Z) Z) (xf (.ptr o0 7) underlying184 sizeOf9 Z (xl 0 isAgg9 Z (xa (bd (p_.s = nS)) Z (pu_str (v := bd (p_.s = nS)) Z Z (tm Z) (AEv.const Z) Z) (xy Z (xe (cd h Z (fun _ h => ?_) (fun _ h => ?_)))))))))
 refine xr (xz (.bool false) Z (xe (aw_ret ?_)))
 cases h
 exact rt ⟨q0, q1, Z, Z⟩ Z (wi [0, 1, 2] Z)
 refine xr (xy Z (xa (.ptr o0 0) Z (pu_nilCheck Z (tm Z) Z) (xf (.ptr o0 7) underlying184 sizeOf9 Z (xl 0 isAgg9 Z ?_))))
 obtain ⟨c61, h⟩ := need_of h
 refine xa (.int .u8 (bix p_.s 0)) Z (pu_strIdxM Z underlying9 (tm Z) (AEv.int _ _) c61) (xz (bn ((bix p_.s 0) = 42)) Z (xy Z (xe (cn h Z (fun _ h => ?_) (fun _ h => ?_)))))
 refine xr (xy Z ?_)
 obtain ⟨r62, r62e, h⟩ := bind_some h
 refine xk (parse.parser.line.ok r62e o0 q0 q1) call136 Z ?_
 rintro _ _ ⟨t63, t64, rfl, rfl⟩
 refine xy Z (xe (aw_ret ?_))
 cases h
 exact rt ⟨t63, t64, Z, Z⟩ Z (wi [0, 1, 2] Z)
 refine aw_skip (xr (xy Z (xy Z (xa (.ptr o0 0) Z (pu_nilCheck Z (tm Z) Z) (xf (.ptr o0 8) underlying184 sizeOf149 Z (xf (.ptr o0 8) underlying149 sizeOf3 Z (xl 0 isAgg3 Z ?_)))))))
 obtain ⟨r65, r65e, h⟩ := bind_some h
 refine xk (parse.parser.header.ok r65e o0 q0 q1) call135 Z ?_
 rintro _ _ ⟨t66, t67, rfl, rfl⟩
 refine xy Z (xz (.i r65.1) Z (xz (.bool r65.2.1) Z (xy Z (xy Z (xe ?_)))))
 obtain ⟨s69, s69e, h70⟩ := letO_of h
 refine aw_meet (ν := Unit) (fun v => [(0, .ptr o0 0), (5, .i r65.1), (6, .bool r65.2.1)]) (fun v => [(o0, .cells (parse.parser.ct (.own t66) (.own t67) { r65.2.2 with in_ := { r65.2.2.in_ with Left := s69 } })), (t66, .spare), (t67, .spare)]) ?_ ?_
 have h := s69e.symm
 refine xr (xy Z (xe (cb h Z (fun _ h => ?_) (fun _ h => ?_))))
 refine aw_region (xy Z (xy Z (xa (.ptr o0 0) Z (pu_nilCheck Z (tm Z) Z) (xf (.ptr o0 0) underlying184 sizeOf144 Z (xf (.ptr o0 2) underlying144 sizeOf3 Z (xs 0 (parse.parser.ct (.own t66) (.own t67) { r65.2.2 with in_ := { r65.2.2.in_ with Left := r65.1 } }) sizeOf3 Z (xe ?_)))))))
 subst h
 exact ⟨(), wi [0, 1, 2] Z⟩
 refine aw_skip ?_
 subst h
 exact ⟨(), wi [0, 1, 2] Z⟩
 intro _
 have h := h70
 obtain ⟨s81, s81e, h84⟩ := bind_some h
 refine aw_meet (ν := Nat × Nat) (fun v => [(6, .bool r65.2.1)]) (fun v => [(o0, .cells [.str s81.1, .sl (.own v.1) 1 (m3L s81.2.1), .i s81.2.2.1, .i s81.2.2.2.1, .bool s81.2.2.2.2.1, .i s81.2.2.2.2.2.1, .i s81.2.2.2.2.2.2.1, .str s81.2.2.2.2.2.2.2.1, .i s81.2.2.2.2.2.2.2.2.1, .i s81.2.2.2.2.2.2.2.2.2.1, .i s81.2.2.2.2.2.2.2.2.2.2.1, .sl (.own v.2) 2 (m6L s81.2.2.2.2.2.2.2.2.2.2.2)]), (v.1, .spare), (v.2, .spare)]) ?_ ?_
 have h := s81e
 refine aw_upd ?_
 obtain ⟨s87, s87e, h88⟩ := letO_of h
 refine aw_meet (ν := Unit) (fun v => [(0, .ptr o0 0), (6, .bool r65.2.1), (78, .bool s87)]) (fun v => [(o0, .cells (parse.parser.ct (.own t66) (.own t67) { r65.2.2 with in_ := { r65.2.2.in_ with Left := s69 } })), (t66, .spare), (t67, .spare)]) ?_ ?_
 have h := s87e.symm
 refine aw_region (xy Z (xy Z ?_))
 rcases Bool.eq_false_or_eq_true r65.2.1 with hb90 | hb90
 replace h := ite_t hb90 h
 refine aops_known 75 Z hb90 (xq Z Z Z Z (xp (bd (r65.1 = 0)) Z Z (pe Z) (xz (bd (r65.1 = 0)) Z (xe ?_))))
 subst h
 exact ⟨(), wi [0, 1, 2] Z⟩
 replace h := ite_fb hb90 h
 refine aops_known 75 Z hb90 (xu Z (xu Z (xz (.bool false) Z (xe ?_))))
 subst h
 exact ⟨(), wi [0, 1, 2] Z⟩
 intro _
 have h := h88
 refine aw_cond (b := s87) (tm Z) (fun hb94 => ?_) (fun hb94 => ?_)
 replace h := ite_t hb94 h
 refine aw_region (xy Z ?_)
 obtain ⟨r91, r91e, h⟩ := bind_some h
 refine xc Z (op_call (vs := [.ptr o0 0, .sl .no 1 e2L]) (H := [(o0, .cells (parse.parser.ct (.own t66) (.own t67) { r65.2.2 with in_ := { r65.2.2.in_ with Left := s69 } })), (t66, .spare), (t67, .spare)]) Z call137 ⟨(tm Z), (AEv.le (AEv.nil 1 (by decide)) (AV.Le.forget _ _ _)), trivial⟩ (List.Perm.refl _) (parse.parser.whole.ok r91e o0 t66 t67) ?_)
 rintro _ _ ⟨t92, rfl, rfl⟩
 refine xe (upd_claimCell 0 1 Z Z fun t93 => (upd_done ?_))
 cases h
 exact ⟨(t93, t92), wi [1, 0, 2] Z⟩
 replace h := ite_fb hb94 h
 refine aw_skip (upd_done ?_)
 cases h
 exact ⟨(t66, t67), wi [0, 1, 2] Z⟩
 rintro ⟨n82, n83⟩
 have h := h84
 refine xr (xy Z (xy Z (xe (aw_ret ?_))))
 cases h
 exact rt ⟨n82, n83, Z, Z⟩ Z (wi [0, 1, 2] Z)

theorem parse.Feed.ok {in_ b l r} (h : parse.Feed in_ b l = some r) : Sp prog 99 [.agg (api.Input.ct .no in_), .str b, .agg [.i l.Args, .i l.Bulk, .i l.Line]] [] (fun v H => ∃ n0, v = .tup [.agg [.str r.1.Rest, .sl .no 1 (m3L r.1.Args), .i r.1.Left, .i r.1.Size, .bool r.1.Body, .i r.1.Need, .i r.1.Dead], .sl (.own n0) 2 (m6L r.2.1), .i r.2.2] ∧ H = [(n0, .spare)]) := by
 unfold parse.Feed at h
 refine sb [.cell 6 144, .tmp 7, .tmp 8] func99 Z (xr (xb (api.Input.ct .no in_) Z fun p64 => xb [.i l.Args, .i l.Bulk, .i l.Line] Z fun p65 => xA (.agg [.str nS, .sl .full 1 e2L, .i 0, .i 0, .bool false, .i 0, .i 0]) zeroValue144 Z fun p66 => xa (.sl .full 2 e4L) Z (pu_assign Z (AEv.nil 2 (by decide))) (xz (.i 0) Z (xe (aw_seq (xr (xf (.ptr p64 6) underlying144 sizeOf29 Z (xl 2 isAgg29 Z (xz (bn (in_.Dead = 0)) Z (xe ?_))))))))))
 refine aw_cond (b := (!decide (in_.Dead = 0))) (tm Z) (fun hb127 => ?_) (fun hb127 => ?_)
 replace h := ite_f (ndec_t hb127) h
 refine aw_seq (aw_planR (by decide +kernel) [[], [(2, 0, false)], [], [], [(2, 0, false)], [(0, 0, true)], [], []] [[5], [], []] [[[(p66, .cells [.str nS, .sl .full 1 e2L, .i 0, .i 0, .bool false, .i 0, .i 0])], [(p66, .cells [.str nS, .sl .full 1 e2L, .i 0, .i 0, .bool false, .i 0, .i in_.Dead])]], [[(p65, .cells [.i l.Args, .i l.Bulk, .i l.Line])]], [[(p64, .cells (api.Input.ct .no in_))]]] [.ptr p64 6, .i in_.Dead, .agg [.str nS, .sl .full 1 e2L, .i 0, .i 0, .bool false, .i 0, .i in_.Dead], .ptr p64 6, .i in_.Dead, .un, .sl .full 2 e4L, .i in_.Dead] (by decide +kernel) Z Z ?_ ?_)
 exact ⟨yp Z (fa Z underlying144 Z sizeOf29 Z Z Z), stepg_plain Z (op_load1 (i := 0) Z isAgg29 (tm Z) Z Z ⟨Z, Z⟩), yp Z (pu_build (zs := [.str nS, .sl .full 1 e2L, .i 0, .i 0, .bool false, .i 0, .i 0]) (szs := [1, 1, 1, 1, 1, 1, 1]) (aparts := [(6, .i in_.Dead)]) (cs := [.str nS, .sl .full 1 e2L, .i 0, .i 0, .bool false, .i 0, .i in_.Dead]) Z underlying144 zeroValue144 Z ⟨sizeOf9, sizeOf65, sizeOf3, sizeOf3, sizeOf4, sizeOf3, sizeOf29, trivial⟩ ⟨Z, (tm Z), trivial⟩ Z), yp Z (fa Z underlying144 Z sizeOf29 Z Z Z), stepg_plain Z (op_load1 (i := 0) Z isAgg29 (tm Z) Z Z ⟨Z, Z⟩), stepg_plain Z (op_store (i := 0) (cs' := [.str nS, .sl .full 1 e2L, .i 0, .i 0, .bool false, .i 0, .i in_.Dead]) Z sizeOf144 (tm Z) (v := .agg [.str nS, .sl .full 1 e2L, .i 0, .i 0, .bool false, .i 0, .i in_.Dead]) (tm Z) Z Z Z (nb Z) Z ⟨Z, Z⟩), yp Z (pu_assign Z (AEv.nil 2 (by decide))), ym Z Z Z, trivial⟩
 refine aw_claim 7 (tm Z) fun t67 => (aw_ret ?_)
 cases h
 exact rq [.agg [.str nS, .sl .full 1 e2L, .i 0, .i 0, .bool false, .i 0, .i in_.Dead], .sl (.own t67) 2 e4L, .i in_.Dead] ⟨t67, Z, Z⟩ (AV.Le.tup ⟨(AV.Le.agg ⟨vr, (AV.Le.forget _ _ _), vr, vr, vr, vr, vr, trivial⟩), vr, vr, trivial⟩) ⟨(CellOk.agg 1 (tm Z) Z isAgg144 sizeOf144 (nb Z) Z), (tm Z), (tm Z), trivial⟩ (wi [0] Z)
 replace h := ite_t (ndec_f hb127) h
 refine aw_skip (aw_seq ?_)
 obtain ⟨c68, h⟩ := need_of h
 obtain ⟨r69, r69e, h⟩ := bind_some h
 refine aw_reserve fun p70 => (aw_planR (by decide +kernel) [[(3, 0, false)], [], [(3, 0, false)], [], [], [(2, 0, false)], [], [], [(0, 0, true)], []] [[8], [], [], []] [[[(p70, .resv)], [(p70, .cells (parse.parser.ct .no .full ({ in_ := in_, s := in_.Rest ++ b, l := r69, out := ([] : List api.Request) } : parse.parser)))]], [[(p66, .cells [.str nS, .sl .full 1 e2L, .i 0, .i 0, .bool false, .i 0, .i 0])]], [[(p65, .cells [.i l.Args, .i l.Bulk, .i l.Line])]], [[(p64, .cells (api.Input.ct .no in_))]]] [.agg (api.Input.ct .no in_), .ptr p64 0, .str in_.Rest, .str b, .str (in_.Rest ++ b), .agg [.i l.Args, .i l.Bulk, .i l.Line], .agg [.i r69.Args, .i r69.Bulk, .i r69.Line], .agg (parse.parser.ct .no .full ({ in_ := in_, s := in_.Rest ++ b, l := r69, out := ([] : List api.Request) } : parse.parser)), .ptr p70 0, .ptr p70 0] (by decide +kernel) Z Z ?_ ?_)
 exact ⟨stepg_plain Z (op_loadN (i := 0) Z isAgg144 sizeOf144 (tm Z) Z (nb Z) Z ⟨Z, Z⟩), yp Z (fa Z underlying144 Z sizeOf9 Z Z Z), stepg_plain Z (op_load1 (i := 0) Z isAgg9 (tm Z) Z Z ⟨Z, Z⟩), ym Z Z Z, yp Z (pu_strAdd Z (tm Z) (tm Z) c68), stepg_plain Z (op_loadN (i := 0) Z isAgg149 sizeOf149 (tm Z) Z (nb Z) Z ⟨Z, Z⟩), stepg_plain Z (op_call (vs := [.agg [.i l.Args, .i l.Bulk, .i l.Line]]) (H := []) Z call119 ⟨(tm Z), trivial⟩ (R := []) (List.Perm.refl _) (parse.Limits.ok r69e) (by rintro _ _ ⟨rfl, rfl⟩; exact ⟨Z, Z⟩)), yp Z (pu_build (zs := [.str nS, .sl .full 1 e2L, .i 0, .i 0, .bool false, .i 0, .i 0, .str nS, .i 0, .i 0, .i 0, .sl .full 2 e4L]) (szs := [7, 1, 3, 1]) (aparts := [(0, .agg (api.Input.ct .no in_)), (1, .str (in_.Rest ++ b)), (2, .agg [.i r69.Args, .i r69.Bulk, .i r69.Line])]) (cs := [.str in_.Rest, .sl .no 1 (m3L in_.Args), .i in_.Left, .i in_.Size, .bool in_.Body, .i in_.Need, .i in_.Dead, .str (in_.Rest ++ b), .i r69.Args, .i r69.Bulk, .i r69.Line, .sl .full 2 e4L]) Z underlying184 zeroValue184 Z ⟨sizeOf144, sizeOf9, sizeOf149, sizeOf145, trivial⟩ ⟨Z, (tm Z), ⟨Z, (tm Z), ⟨Z, (tm Z), trivial⟩⟩⟩ Z), stepg_plain Z (aop_settleP (op_box (cs := (parse.parser.ct .no .full ({ in_ := in_, s := in_.Rest ++ b, l := r69, out := ([] : List api.Request) } : parse.parser))) (v := .agg (parse.parser.ct .no .full ({ in_ := in_, s := in_.Rest ++ b, l := r69, out := ([] : List api.Request) } : parse.parser))) Z (tm Z) Z Z fun t => ⟨t, Z, Z⟩) ⟨Z, Z⟩), ym Z Z Z, trivial⟩
 refine xr (xy Z (xy Z (xf (.ptr p64 1) underlying144 sizeOf65 Z (xl 3 isAgg65 Z ?_))))
 obtain ⟨r71, r71e, h⟩ := bind_some h
 refine xk (slices.Clone_string.ok r71e) call120 Z ?_
 rintro _ _ ⟨t72, rfl, rfl⟩
 refine xa (.ptr p70 0) Z (pu_nilCheck Z (tm Z) Z) (xf (.ptr p70 0) underlying184 sizeOf144 Z (xf (.ptr p70 1) underlying144 sizeOf65 Z (xs 1 (parse.parser.ct (.own t72) .full ({ in_ := { in_ with Args := r71 }, s := in_.Rest ++ b, l := r69, out := ([] : List api.Request) } : parse.parser)) sizeOf65 Z (xa (.ptr p70 0) Z (pu_nilCheck Z (tm Z) Z) (xf (.ptr p70 0) underlying184 sizeOf144 Z (xf (.ptr p70 0) underlying144 sizeOf9 Z (ac0 Z Z (op_store (i := 1) (cs' := (parse.parser.ct (.own t72) .full ({ in_ := { in_ with Rest := nS, Args := r71 }, s := in_.Rest ++ b, l := r69, out := ([] : List api.Request) } : parse.parser))) Z sizeOf9 (tm Z) (v := .str nS) (AEv.const Z) Z Z Z (nb Z) Z (xe ?_)))))))))
 obtain ⟨s97, s97e, h100⟩ := bind_some h
 refine aw_meet (ν := Nat × Nat) (fun v => [(6, .ptr p66 0), (9, .ptr p70 0)]) (fun v => [(p66, .cells [.str nS, .sl .full 1 e2L, .i 0, .i 0, .bool false, .i 0, .i 0]), (p70, .cells [.str s97.1, .sl (.own v.1) 1 (m3L s97.2.1), .i s97.2.2.1, .i s97.2.2.2.1, .bool s97.2.2.2.2.1, .i s97.2.2.2.2.2.1, .i s97.2.2.2.2.2.2.1, .str s97.2.2.2.2.2.2.2.1, .i s97.2.2.2.2.2.2.2.2.1, .i s97.2.2.2.2.2.2.2.2.2.1, .i s97.2.2.2.2.2.2.2.2.2.2.1, .sl (.own v.2) 2 (m6L s97.2.2.2.2.2.2.2.2.2.2.2)]), (v.1, .spare), (v.2, .spare)]) ?_ ?_
 have h := s97e
 refine aw_block (aw_claimCell 1 11 Z Z fun t125 => (aw_while (σ := parse.Feed.S0) (ν := Nat × Nat) (parse.Feed.body0 in_ l) (fun s115 v => [(6, .ptr p66 0), (9, .ptr p70 0)]) (fun s115 v => [(p66, .cells [.str nS, .sl .full 1 e2L, .i 0, .i 0, .bool false, .i 0, .i 0]), (p70, .cells [.str s115.c, .sl (.own v.1) 1 (m3L s115.c2), .i s115.c3, .i s115.c4, .bool s115.c5, .i s115.c6, .i s115.c7, .str s115.c8, .i s115.c9, .i s115.c10, .i s115.c11, .sl (.own v.2) 2 (m6L s115.c12)]), (v.1, .spare), (v.2, .spare)]) ⟨nS, r71, in_.Left, in_.Size, in_.Body, in_.Need, in_.Dead, in_.Rest ++ b, r69.Args, r69.Bulk, r69.Line, ([] : List api.Request)⟩ (t72, t125) _ h (wl [3, 2, 1, 0] Z ⟨⟨_, Z, cr, Z⟩, ⟨_, Z, ⟨vr, vr, vr, vr, vr, vr, vr, vr, vr, vr, vr, vr, trivial⟩, Z⟩, ⟨_, Z, Z⟩, ⟨_, Z, Z⟩, trivial⟩ ⟨tm Z, tm Z, trivial⟩) ?_))
 rintro s115 ⟨n116, n117⟩ x119 h hx118
 unfold parse.Feed.body0 at h
 refine aw_seq (xr (xy Z ?_))
 obtain ⟨r121, r121e, h⟩ := bind_some h
 refine aops_weak (weak_pick [1, 2, 3, 0] (by decide) Z) (xk (parse.parser.step.ok r121e p70 n116 n117) call121 Z ?_)
 rintro _ _ ⟨t122, t123, rfl, rfl⟩
 refine xe (cb h Z (fun _ h => ?_) (fun _ h => ?_))
 refine aw_skip (aw_block (aw_skip ?_))
 cases h
 exact ⟨_, (t122, t123), Z, wi [3, 0, 1, 2] Z⟩
 refine aw_exit ?_
 cases h
 cases congrArg some (hx118 _ rfl)
 exact ⟨(t122, t123), wi [3, 0, 1, 2] Z⟩
 rintro ⟨n98, n99⟩
 have h := h100
 refine xr (xy Z (xy Z (xa (.ptr p70 0) Z (pu_nilCheck Z (tm Z) Z) (xf (.ptr p70 7) underlying184 sizeOf9 Z (xl 1 isAgg9 Z ?_)))))
 obtain ⟨r126, r126e, h⟩ := bind_some h
 refine xo (strings.Clone.ok r126e) call122 Z (xa (.ptr p70 0) Z (pu_nilCheck Z (tm Z) Z) (xf (.ptr p70 0) underlying184 sizeOf144 Z (xf (.ptr p70 0) underlying144 sizeOf9 Z (xs 1 [.str r126, .sl (.own n98) 1 (m3L s97.2.1), .i s97.2.2.1, .i s97.2.2.2.1, .bool s97.2.2.2.2.1, .i s97.2.2.2.2.2.1, .i s97.2.2.2.2.2.2.1, .str s97.2.2.2.2.2.2.2.1, .i s97.2.2.2.2.2.2.2.2.1, .i s97.2.2.2.2.2.2.2.2.2.1, .i s97.2.2.2.2.2.2.2.2.2.2.1, .sl (.own n99) 2 (m6L s97.2.2.2.2.2.2.2.2.2.2.2)] sizeOf9 Z (xe (aw_seq (aw_planR (by decide +kernel) [[], [], [], [(1, 0, false)], [], [], [], [(1, 0, false)], [], [], [], [], [(1, 0, false)], [(0, 0, true)], [], []] [[13], [], [], []] [[[(p66, .cells [.str nS, .sl .full 1 e2L, .i 0, .i 0, .bool false, .i 0, .i 0])], [(p66, .cells [.str r126, .sl (.own n98) 1 (m3L s97.2.1), .i s97.2.2.1, .i s97.2.2.2.1, .bool s97.2.2.2.2.1, .i s97.2.2.2.2.2.1, .i s97.2.2.2.2.2.2.1])]], [[(p70, .cells [.str r126, .sl (.own n98) 1 (m3L s97.2.1), .i s97.2.2.1, .i s97.2.2.2.1, .bool s97.2.2.2.2.1, .i s97.2.2.2.2.2.1, .i s97.2.2.2.2.2.2.1, .str s97.2.2.2.2.2.2.2.1, .i s97.2.2.2.2.2.2.2.2.1, .i s97.2.2.2.2.2.2.2.2.2.1, .i s97.2.2.2.2.2.2.2.2.2.2.1, .sl (.own n99) 2 (m6L s97.2.2.2.2.2.2.2.2.2.2.2)])]], [[(n98, .spare)]], [[(n99, .spare)]]] [.ptr p70 0, .ptr p70 0, .ptr p70 0, .agg [.str r126, .sl (.own n98) 1 (m3L s97.2.1), .i s97.2.2.1, .i s97.2.2.2.1, .bool s97.2.2.2.2.1, .i s97.2.2.2.2.2.1, .i s97.2.2.2.2.2.2.1], .ptr p70 0, .ptr p70 0, .ptr p70 11, .sl (.own n99) 2 (m6L s97.2.2.2.2.2.2.2.2.2.2.2), .ptr p70 0, .ptr p70 0, .ptr p70 0, .ptr p70 6, .i s97.2.2.2.2.2.2.1, .un, .sl (.own n99) 2 (m6L s97.2.2.2.2.2.2.2.2.2.2.2), .i s97.2.2.2.2.2.2.1] (by decide +kernel) Z Z ?_ ?_)))))))
 exact ⟨ym Z Z Z, yp Z (pu_nilCheck Z (tm Z) Z), yp Z (fa Z underlying184 Z sizeOf144 Z Z Z), stepg_plain Z (op_loadN (i := 0) Z isAgg144 sizeOf144 (tm Z) Z (nb Z) Z ⟨Z, Z⟩), ym Z Z Z, yp Z (pu_nilCheck Z (tm Z) Z), yp Z (fa Z underlying184 Z sizeOf145 Z Z Z), stepg_plain Z (op_load1 (i := 0) Z isAgg145 (tm Z) Z Z ⟨Z, Z⟩), ym Z Z Z, yp Z (pu_nilCheck Z (tm Z) Z), yp Z (fa Z underlying184 Z sizeOf144 Z Z Z), yp Z (fa Z underlying144 Z sizeOf29 Z Z Z), stepg_plain Z (op_load1 (i := 0) Z isAgg29 (tm Z) Z Z ⟨Z, Z⟩), stepg_plain Z (op_store (i := 0) (cs' := [.str r126, .sl (.own n98) 1 (m3L s97.2.1), .i s97.2.2.1, .i s97.2.2.2.1, .bool s97.2.2.2.2.1, .i s97.2.2.2.2.2.1, .i s97.2.2.2.2.2.2.1]) Z sizeOf144 (tm Z) (v := .agg [.str r126, .sl (.own n98) 1 (m3L s97.2.1), .i s97.2.2.1, .i s97.2.2.2.1, .bool s97.2.2.2.2.1, .i s97.2.2.2.2.2.1, .i s97.2.2.2.2.2.2.1]) (tm Z) Z Z Z (nb Z) Z ⟨Z, Z⟩), ym Z Z Z, ym Z Z Z, trivial⟩
 refine aw_ret ?_
 cases h
 exact rq [.agg [.str r126, .sl (.own n98) 1 (m3L s97.2.1), .i s97.2.2.1, .i s97.2.2.2.1, .bool s97.2.2.2.2.1, .i s97.2.2.2.2.2.1, .i s97.2.2.2.2.2.2.1], .sl (.own n99) 2 (m6L s97.2.2.2.2.2.2.2.2.2.2.2), .i s97.2.2.2.2.2.2.1] ⟨n99, Z, Z⟩ (AV.Le.tup ⟨(AV.Le.agg ⟨vr, (AV.Le.forget _ _ _), vr, vr, vr, vr, vr, trivial⟩), vr, vr, trivial⟩) ⟨(CellOk.agg 0 (tm Z) Z isAgg144 sizeOf144 (nb Z) Z), (tm Z), (tm Z), trivial⟩ (wi [3] Z)

theorem parse.Idle.ok {in_ r} (h : parse.Idle in_ = some r) : Sp prog 100 [.agg (api.Input.ct .no in_)] [] (fun v H => v = .bool r ∧ H = []) := by
 unfold parse.Idle at h
 refine sb [.tmp 2] func100 Z (xr (xb (api.Input.ct .no in_) Z fun p9 => xz (.bool false) Z (xe ?_)))
 obtain ⟨s12, s12e, h13⟩ := letO_of h
 refine aw_meet (ν := Unit) (fun v => [(2, .bool s12)]) (fun v => []) ?_ ?_
 have h := s12e.symm
 refine aw_region (xf (.ptr p9 0) underlying144 sizeOf9 Z (xl 0 isAgg9 Z (xa (bd (in_.Rest = nS)) Z (pu_str (v := bd (in_.Rest = nS)) Z Z (tm Z) (AEv.const Z) Z) (xy Z ?_))))
 rcases Bool.eq_false_or_eq_true (decide (in_.Rest = nS)) with hb15 | hb15
 replace h := ite_t (dec_t hb15) h
 refine aops_known 6 Z hb15 (xp (.ptr p9 3) Z Z (fa Z underlying144 Z sizeOf3 Z Z Z) (xg Z Z (op_load1 (i := 0) Z isAgg3 (tm Z) Z Z (xp (bd (in_.Size = 0)) Z Z (pe Z) (xz (bd (in_.Size = 0)) Z (xy Z ?_))))))
 rcases Bool.eq_false_or_eq_true (decide (in_.Size = 0)) with hb16 | hb16
 replace h := ite_t (dec_t hb16) h
 refine aops_known 11 Z hb16 (xp (.ptr p9 6) Z Z (fa Z underlying144 Z sizeOf29 Z Z Z) (xg Z Z (op_load1 (i := 0) Z isAgg29 (tm Z) Z Z (xp (bd (in_.Dead = 0)) Z Z (pe Z) (xz (bd (in_.Dead = 0)) Z (xy Z (xe ?_)))))))
 subst h
 exact ⟨(), wi [] Z⟩
 replace h := ite_f (dec_f hb16) h
 refine aops_known 11 Z hb16 (xu Z (xu Z (xu Z (xz (.bool false) Z (xy Z (xe ?_))))))
 subst h
 exact ⟨(), wi [] Z⟩
 replace h := ite_f (dec_f hb15) h
 refine aops_known 6 Z hb15 (xu Z (xu Z (xu Z (xz (.bool false) Z (xy Z (xu Z (xu Z (xu Z (xz (.bool false) Z ?_)))))))))
 refine xy Z (xe ?_)
 subst h
 exact ⟨(), wi [] Z⟩
 intro _
 have h := h13
 refine aw_ret ?_
 cases h
 exact rt ⟨Z, Z⟩ Z w0

theorem unit.read.ok {s_ r} (h : unit.read s_ = some r) : Sp prog 84 [.str s_] [] (fun v H => v = .tup [.agg [.sl .no 1 (m4L r.1.Cmds)], .bool r.2] ∧ H = []) := by
 unfold unit.read at h
 refine sb [.cell 2 68, .tmp 3] func84 Z (xr (xA (.agg [.sl .full 1 e5L]) zeroValue68 Z fun p75 => xz (.bool false) Z (xe (xr (xa (.agg [.str nS, .sl .full 1 e2L, .i 0, .i 0, .bool false, .i 0, .i 0]) Z (pu_build (zs := [.str nS, .sl .full 1 e2L, .i 0, .i 0, .bool false, .i 0, .i 0]) (szs := [1, 1, 1, 1, 1, 1, 1]) (aparts := []) (cs := [.str nS, .sl .full 1 e2L, .i 0, .i 0, .bool false, .i 0, .i 0]) Z underlying144 zeroValue144 Z ⟨sizeOf9, sizeOf65, sizeOf3, sizeOf3, sizeOf4, sizeOf3, sizeOf29, trivial⟩ trivial Z) (xy Z (xa (.agg [.i 65536, .i 1048576, .i 1]) Z (pu_build (zs := [.i 0, .i 0, .i 0]) (szs := [1, 1, 1]) (aparts := [(0, .i 65536), (1, .i 1048576), (2, .i 1)]) (cs := [.i 65536, .i 1048576, .i 1]) Z underlying149 zeroValue149 Z ⟨sizeOf3, sizeOf3, sizeOf3, trivial⟩ ⟨Z, (AEv.int _ _), ⟨Z, (AEv.int _ _), ⟨Z, (AEv.int _ _), trivial⟩⟩⟩ Z) ?_)))))))
 obtain ⟨r76, r76e, h⟩ := bind_some h
 refine xc Z (op_call (vs := [.agg [.str nS, .sl .no 1 e2L, .i 0, .i 0, .bool false, .i 0, .i 0], .str s_, .agg [.i 65536, .i 1048576, .i 1]]) (H := []) Z call99 ⟨(AEv.le (tm Z) (AV.Le.agg ⟨vr, (AV.Le.forget _ _ _), vr, vr, vr, vr, vr, trivial⟩)), (tm Z), (tm Z), trivial⟩ (List.Perm.refl _) (parse.Feed.ok r76e) ?_)
 rintro _ _ ⟨t77, rfl, rfl⟩
 refine xy Z (xz (.agg (api.Input.ct .no r76.1)) Z (xz (.sl (.own t77) 2 (m6L r76.2.1)) Z (xz (.i r76.2.2) Z (xA (.agg [.str nS, .sl .full 1 e2L, .i 0, .i 0, .bool false, .i 0, .i 0]) zeroValue144 Z fun p78 => xs 0 (api.Input.ct .no r76.1) sizeOf144 Z (xy Z (xy Z (xe (xr (xA (.agg [.sl .full 1 e5L]) zeroValue68 Z fun p79 => xe ?_)))))))))
 obtain ⟨s104, s104e, h106⟩ := bind_some h
 refine aw_meet (ν := Nat) (fun v => [(0, .str s_), (2, .ptr p75 0), (4, .ptr p78 0), (7, .ptr p79 0)]) (fun v => [(p75, .cells [.sl .full 1 e5L]), (p78, .cells (api.Input.ct .no r76.1)), (p79, .cells [.sl (.own v) 1 (m4L s104)]), (v, .spare)]) ?_ ?_
 have h := s104e
 refine xr (xy Z (xa (.i (r76.2.1.length : Int)) Z (pu_lenM Z underlying145 (tm Z)) (xz (.i 0) Z (xe (aw_block (aw_claimCell 0 0 Z Z fun t131 => (aw_while (σ := unit.read.S0) (ν := Nat) (unit.read.body0 r76) (fun s121 v => [(0, .str s_), (2, .ptr p75 0), (4, .ptr p78 0), (7, .ptr p79 0), (20, .sl (.own t77) 2 (m6L r76.2.1)), (21, .i (r76.2.1.length : Int)), (22, .i s121.t22)]) (fun s121 v => [(p75, .cells [.sl .full 1 e5L]), (p78, .cells (api.Input.ct .no r76.1)), (p79, .cells [.sl (.own v) 1 (m4L s121.c)]), (t77, .spare), (v, .spare)]) ⟨0, ([] : List (List (List UInt8)))⟩ t131 _ h (wi [4, 2, 1, 3, 0] Z) ?_)))))))
 rintro s121 n122 x124 h hx123
 unfold unit.read.body0 at h
 refine xr (xz (bd (s121.t22 < (r76.2.1.length : Int))) Z (xe (aw_seq (cd h Z (fun _ h => ?_) (fun _ h => ?_)))))
 refine aw_skip (aw_seq (aw_block (aw_seq (aw_region ?_))))
 obtain ⟨c126, h⟩ := need_of h
 refine xa (.vptr [.sl .no 1 (m3L (ix r76.2.1 s121.t22).Args), .i (ix r76.2.1 s121.t22).Size]) Z (pu_indexAddrM Z underlying145 sizeOf151 (tm Z) (tm Z) c126 Z) (xc Z (op_loadVN Z isAgg151 sizeOf151 (tm Z) (nb Z) Z (xA (.agg [.sl .full 1 e2L, .i 0]) zeroValue151 Z fun p127 => xs 0 [.sl .no 1 (m3L (ix r76.2.1 s121.t22).Args), .i (ix r76.2.1 s121.t22).Size] sizeOf151 Z (xe (aw_region (xf (.ptr p79 0) underlying68 sizeOf66 Z (xl 3 isAgg66 Z (xf (.ptr p127 0) underlying151 sizeOf65 Z (xl 0 isAgg65 Z (xc Z (op_buildSlice (xs := ([(ix r76.2.1 s121.t22).Args] : List (List (List UInt8))).map av_List_List_UInt8) (aparts := [(0, .sl .no 1 (m3L (ix r76.2.1 s121.t22).Args))]) Z underlying66 sizeOf65 zeroValue65 (by decide) (by decide) ⟨Z, (tm Z), trivial⟩ Z Z Z ?_)))))))))))
 obtain ⟨c128, h⟩ := need_of h
 refine xc Z (op_appendOM (q := 5) Z underlying66 underlying66 (.inl Z) typeInfo65 Z Z Z (by decide) (tm Z) Z (given_sl (tm Z)) c128 ?_)
 intro t129
 refine xf (.ptr p79 0) underlying68 sizeOf66 Z (xs 3 [.sl (.own t129) 1 (m4L (s121.c ++ [(ix r76.2.1 s121.t22).Args]))] sizeOf66 Z (xe (aw_region (xz (.i (w64 (s121.t22 + 1))) Z (xy Z (xe ?_))))))
 cases h
 exact ⟨_, t129, Z, wi [1, 2, 3, 4, 5] Z⟩
 refine aw_exit ?_
 cases h
 cases congrArg some (hx123 _ rfl)
 exact ⟨n122, wi [0, 1, 2, 4] Z⟩
 intro n105
 have h := h106
 refine aw_seq ?_
 obtain ⟨s135, s135e, h136⟩ := bind_some h
 refine aw_meet (ν := Unit) (fun v => [(0, .str s_), (2, .ptr p75 0), (7, .ptr p79 0), (41, .bool s135)]) (fun v => [(p75, .cells [.sl .full 1 e5L]), (p79, .cells [.sl (.own n105) 1 (m4L s104)]), (n105, .spare)]) ?_ ?_
 have h := s135e
 refine aw_region (xL 1 isAgg144 sizeOf144 Z ?_)
 obtain ⟨r138, r138e, h⟩ := bind_some h
 refine xo (parse.Idle.ok r138e) call100 Z (xz (.bool (!r138)) Z (xy Z ?_))
 rcases Bool.eq_false_or_eq_true (!r138) with hb139 | hb139
 replace h := ite_t hb139 h
 refine aops_known 37 Z hb139 (xu Z (xu Z (xu Z (xz (.bool true) Z (xe ?_)))))
 cases h
 exact ⟨(), wi [0, 2, 3] Z⟩
 replace h := ite_fb hb139 h
 refine aops_known 37 Z hb139 (xg Z Z (op_loadN (i := 2) Z isAgg68 sizeOf68 (tm Z) Z (nb Z) Z ?_))
 obtain ⟨r140, r140e, h⟩ := bind_some h
 refine xg Z Z (op_call (vs := [.agg [.sl .no 1 (m4L s104)]]) (H := []) Z call50 ⟨(AEv.le (tm Z) (AV.Le.agg ⟨(AV.Le.forget _ _ _), trivial⟩)), trivial⟩ (List.Perm.refl _) (unit.may.ok r140e) ?_)
 rintro _ _ ⟨rfl, rfl⟩
 refine xp (.bool (!r140)) Z Z (pe Z) (xz (.bool (!r140)) Z (xe ?_))
 cases h
 exact ⟨(), wi [0, 2, 3] Z⟩
 intro _
 have h := h136
 refine aw_cond (b := s135) (tm Z) (fun hb148 => ?_) (fun hb148 => ?_)
 replace h := ite_t hb148 h
 refine xr (xa (.agg [.sl .full 1 e5L]) Z (pu_build (zs := [.sl .full 1 e5L]) (szs := [1]) (aparts := []) (cs := [.sl .full 1 e5L]) Z underlying68 zeroValue68 Z ⟨sizeOf66, trivial⟩ trivial Z) (xs 0 [.sl .full 1 e5L] sizeOf68 Z (xz (.bool false) Z (xe (aw_ret ?_)))))
 cases h
 exact rq [.agg [.sl .full 1 e5L], .bool false] ⟨Z, Z⟩ (AV.Le.tup ⟨(AV.Le.agg ⟨(AV.Le.forget _ _ _), trivial⟩), vr, trivial⟩) ⟨(CellOk.agg 0 (tm Z) Z isAgg68 sizeOf68 (nb Z) Z), (tm Z), trivial⟩ w0
 replace h := ite_fb hb148 h
 refine aw_skip (xr (xL 1 isAgg68 sizeOf68 Z ?_))
 obtain ⟨r141, r141e, h⟩ := bind_some h
 refine xc Z (op_call (vs := [.agg [.sl .no 1 (m4L s104)]]) (H := []) Z call51 ⟨(AEv.le (tm Z) (AV.Le.agg ⟨(AV.Le.forget _ _ _), trivial⟩)), trivial⟩ (List.Perm.refl _) (unit.load.ok r141e) ?_)
 rintro _ _ ⟨rfl, rfl⟩
 refine xy Z (xz (.str r141.1) Z (xz (.bool r141.2) Z (xy Z (xy Z (xe (aw_seq ?_))))))
 obtain ⟨s143, s143e, h144⟩ := letO_of h
 refine aw_meet (ν := Unit) (fun v => [(2, .ptr p75 0), (7, .ptr p79 0), (54, .bool s143)]) (fun v => [(p75, .cells [.sl .full 1 e5L]), (p79, .cells [.sl (.own n105) 1 (m4L s104)]), (n105, .spare)]) ?_ ?_
 have h := s143e.symm
 refine aw_region (xy Z (xz (.bool (!r141.2)) Z (xy Z ?_)))
 rcases Bool.eq_false_or_eq_true (!r141.2) with hb146 | hb146
 replace h := ite_t hb146 h
 refine aops_known 50 Z hb146 (xu Z (xu Z (xu Z (xz (.bool true) Z (xe ?_)))))
 subst h
 exact ⟨(), wi [0, 1, 2] Z⟩
 replace h := ite_fb hb146 h
 refine aops_known 50 Z hb146 (xq Z Z Z Z (xq Z Z Z Z (xp (bn (r141.1 = s_)) Z Z (pu_str (v := bn (r141.1 = s_)) Z Z (tm Z) (tm Z) Z) (xz (bn (r141.1 = s_)) Z (xe ?_)))))
 subst h
 exact ⟨(), wi [0, 1, 2] Z⟩
 intro _
 have h := h144
 refine aw_cond (b := s143) (tm Z) (fun hb147 => ?_) (fun hb147 => ?_)
 replace h := ite_t hb147 h
 refine xr (xa (.agg [.sl .full 1 e5L]) Z (pu_build (zs := [.sl .full 1 e5L]) (szs := [1]) (aparts := []) (cs := [.sl .full 1 e5L]) Z underlying68 zeroValue68 Z ⟨sizeOf66, trivial⟩ trivial Z) (xs 0 [.sl .full 1 e5L] sizeOf68 Z (xz (.bool false) Z (xe (aw_ret ?_)))))
 cases h
 exact rq [.agg [.sl .full 1 e5L], .bool false] ⟨Z, Z⟩ (AV.Le.tup ⟨(AV.Le.agg ⟨(AV.Le.forget _ _ _), trivial⟩), vr, trivial⟩) ⟨(CellOk.agg 0 (tm Z) Z isAgg68 sizeOf68 (nb Z) Z), (tm Z), trivial⟩ w0
 replace h := ite_fb hb147 h
 refine aw_skip (xr (xL 1 isAgg68 sizeOf68 Z (xs 0 [.sl (.own n105) 1 (m4L s104)] sizeOf68 Z (xz (.bool true) Z (xe (aw_ret ?_))))))
 cases h
 exact rq [.agg [.sl (.own n105) 1 (m4L s104)], .bool true] ⟨Z, Z⟩ (AV.Le.tup ⟨(AV.Le.agg ⟨(AV.Le.forget _ _ _), trivial⟩), vr, trivial⟩) ⟨(CellOk.agg 0 (tm Z) Z isAgg68 sizeOf68 (nb Z) Z), (tm Z), trivial⟩ w0

theorem unit.Take.ok {s_ r} (h : unit.Take s_ = some r) : Sp prog 57 [.str s_] [] (fun v H => v = .tup [.agg [.sl .no 1 (m4L r.1.Cmds)], .i r.2.1, .i r.2.2] ∧ H = []) := by
 unfold unit.Take at h
 refine sb [.cell 2 68, .tmp 3, .tmp 4] func57 Z (xr (xA (.agg [.sl .full 1 e5L]) zeroValue68 Z fun p22 => xz (.i 0) Z (xz (.i 0) Z (xe (aw_seq (aw_block (xr (xy Z (xa (bd (s_ = nS)) Z (pu_str (v := bd (s_ = nS)) Z Z (tm Z) (AEv.const Z) Z) (xy Z ?_))))))))))
 refine xe (cd h Z (fun _ h => ?_) (fun _ h => ?_))
 refine xr (xa (.agg [.sl .full 1 e5L]) Z (pu_build (zs := [.sl .full 1 e5L]) (szs := [1]) (aparts := []) (cs := [.sl .full 1 e5L]) Z underlying68 zeroValue68 Z ⟨sizeOf66, trivial⟩ trivial Z) (xs 0 [.sl .full 1 e5L] sizeOf68 Z (xz (.i 0) Z (xz (.i 4) Z (xe (aw_ret ?_))))))
 cases h
 exact rq [.agg [.sl .full 1 e5L], .i 0, .i 4] ⟨Z, Z⟩ (AV.Le.tup ⟨(AV.Le.agg ⟨(AV.Le.forget _ _ _), trivial⟩), vr, vr, trivial⟩) ⟨(CellOk.agg 0 (tm Z) Z isAgg68 sizeOf68 (nb Z) Z), (tm Z), (tm Z), trivial⟩ w0
 refine xr (xy Z ?_)
 obtain ⟨c23, h⟩ := need_of h
 refine xa (.int .u8 (bix s_ 0)) Z (pu_strIdxM Z underlying9 (tm Z) (AEv.int _ _) c23) (xz (bn ((bix s_ 0) = 85)) Z (xy Z (xe (cn h Z (fun _ h => ?_) (fun _ h => ?_)))))
 refine xr (xa (.agg [.sl .full 1 e5L]) Z (pu_build (zs := [.sl .full 1 e5L]) (szs := [1]) (aparts := []) (cs := [.sl .full 1 e5L]) Z underlying68 zeroValue68 Z ⟨sizeOf66, trivial⟩ trivial Z) (xs 0 [.sl .full 1 e5L] sizeOf68 Z (xz (.i 0) Z (xz (.i 5) Z (xe (aw_ret ?_))))))
 cases h
 exact rq [.agg [.sl .full 1 e5L], .i 0, .i 5] ⟨Z, Z⟩ (AV.Le.tup ⟨(AV.Le.agg ⟨(AV.Le.forget _ _ _), trivial⟩), vr, vr, trivial⟩) ⟨(CellOk.agg 0 (tm Z) Z isAgg68 sizeOf68 (nb Z) Z), (tm Z), (tm Z), trivial⟩ w0
 refine xr (xy Z (xa (.i (s_.length : Int)) Z (pu_strLen Z underlying9 (tm Z)) (xz (bd ((s_.length : Int) < 5)) Z (xy Z (xe (cd h Z (fun _ h => ?_) (fun _ h => ?_)))))))
 refine xr (xa (.agg [.sl .full 1 e5L]) Z (pu_build (zs := [.sl .full 1 e5L]) (szs := [1]) (aparts := []) (cs := [.sl .full 1 e5L]) Z underlying68 zeroValue68 Z ⟨sizeOf66, trivial⟩ trivial Z) (xs 0 [.sl .full 1 e5L] sizeOf68 Z (xz (.i 0) Z (xz (.i 4) Z (xe (aw_ret ?_))))))
 cases h
 exact rq [.agg [.sl .full 1 e5L], .i 0, .i 4] ⟨Z, Z⟩ (AV.Le.tup ⟨(AV.Le.agg ⟨(AV.Le.forget _ _ _), trivial⟩), vr, vr, trivial⟩) ⟨(CellOk.agg 0 (tm Z) Z isAgg68 sizeOf68 (nb Z) Z), (tm Z), (tm Z), trivial⟩ w0
 refine aw_skip (aw_seq ?_)
 obtain ⟨c24, h⟩ := need_of h
 obtain ⟨c25, h⟩ := need_of h
 obtain ⟨x26, x26e, h⟩ := letO_of h
 obtain ⟨c27, h⟩ := need_of h
 obtain ⟨x28, x28e, h⟩ := letO_of h
 obtain ⟨c29, h⟩ := need_of h
 obtain ⟨x30, x30e, h⟩ := letO_of h
 refine aw_planR (by decide +kernel) [[], [], [], [], [], [], [], [], [], [], [], [], [], [], [], [], [], [], []] [[]] [[[(p22, .cells [.sl .full 1 e5L])]]] [.str s_, .int .u8 (bix s_ 1), .i (w64 (bix s_ 1)), .str s_, .int .u8 (bix s_ 2), .i (w64 (bix s_ 2)), .i (w64 ((w64 (bix s_ 2)) * 2 ^ min (Int.toNat 8) (IntKind.bits .i64))), .i x26, .str s_, .int .u8 (bix s_ 3), .i (w64 (bix s_ 3)), .i (w64 ((w64 (bix s_ 3)) * 2 ^ min (Int.toNat 16) (IntKind.bits .i64))), .i x28, .str s_, .int .u8 (bix s_ 4), .i (w64 (bix s_ 4)), .i (w64 ((w64 (bix s_ 4)) * 2 ^ min (Int.toNat 24) (IntKind.bits .i64))), .i x30, .i x30] (by decide +kernel) Z Z ?_ ?_
 exact ⟨ym Z Z Z, yp Z (pu_strIdxM Z underlying9 (tm Z) (AEv.int _ _) c24), yp Z (pu_conv Z underlying5 underlying3 (tm Z)), ym Z Z Z, yp Z (pu_strIdxM Z underlying9 (tm Z) (AEv.int _ _) c25), yp Z (pu_conv Z underlying5 underlying3 (tm Z)), yp Z (pu_shl Z (tm Z) (AEv.int _ _) (by decide)), yp Z (APure.eq (pe Z) (congrArg (AV.int .i64) x26e.symm)), ym Z Z Z, yp Z (pu_strIdxM Z underlying9 (tm Z) (AEv.int _ _) c27), yp Z (pu_conv Z underlying5 underlying3 (tm Z)), yp Z (pu_shl Z (tm Z) (AEv.int _ _) (by decide)), yp Z (APure.eq (pe Z) (congrArg (AV.int .i64) x28e.symm)), ym Z Z Z, yp Z (pu_strIdxM Z underlying9 (tm Z) (AEv.int _ _) c29), yp Z (pu_conv Z underlying5 underlying3 (tm Z)), yp Z (pu_shl Z (tm Z) (AEv.int _ _) (by decide)), yp Z (APure.eq (pe Z) (congrArg (AV.int .i64) x30e.symm)), ym Z Z Z, trivial⟩
 refine aw_seq (aw_block (xr (xy Z (xz (bd (4194304 < x30)) Z (xy Z (xe (cd h Z (fun _ h => ?_) (fun _ h => ?_))))))))
 refine xr (xa (.agg [.sl .full 1 e5L]) Z (pu_build (zs := [.sl .full 1 e5L]) (szs := [1]) (aparts := []) (cs := [.sl .full 1 e5L]) Z underlying68 zeroValue68 Z ⟨sizeOf66, trivial⟩ trivial Z) (xs 0 [.sl .full 1 e5L] sizeOf68 Z (xz (.i 0) Z (xz (.i 6) Z (xe (aw_ret ?_))))))
 cases h
 exact rq [.agg [.sl .full 1 e5L], .i 0, .i 6] ⟨Z, Z⟩ (AV.Le.tup ⟨(AV.Le.agg ⟨(AV.Le.forget _ _ _), trivial⟩), vr, vr, trivial⟩) ⟨(CellOk.agg 0 (tm Z) Z isAgg68 sizeOf68 (nb Z) Z), (tm Z), (tm Z), trivial⟩ w0
 refine xr (xy Z (xa (.i (s_.length : Int)) Z (pu_strLen Z underlying9 (tm Z)) (xy Z (xz (.i (w64 (x30 + 9))) Z (xz (bd ((s_.length : Int) < (w64 (x30 + 9)))) Z (xy Z (xe (cd h Z (fun _ h => ?_) (fun _ h => ?_)))))))))
 refine xr (xa (.agg [.sl .full 1 e5L]) Z (pu_build (zs := [.sl .full 1 e5L]) (szs := [1]) (aparts := []) (cs := [.sl .full 1 e5L]) Z underlying68 zeroValue68 Z ⟨sizeOf66, trivial⟩ trivial Z) (xs 0 [.sl .full 1 e5L] sizeOf68 Z (xz (.i 0) Z (xz (.i 4) Z (xe (aw_ret ?_))))))
 cases h
 exact rq [.agg [.sl .full 1 e5L], .i 0, .i 4] ⟨Z, Z⟩ (AV.Le.tup ⟨(AV.Le.agg ⟨(AV.Le.forget _ _ _), trivial⟩), vr, vr, trivial⟩) ⟨(CellOk.agg 0 (tm Z) Z isAgg68 sizeOf68 (nb Z) Z), (tm Z), (tm Z), trivial⟩ w0
 refine xr (xy Z (xy Z (xz (.i (w64 (x30 + 9))) Z ?_)))
 obtain ⟨c31, h⟩ := need_of h
 refine xa (.str (sub s_ 0 (w64 (x30 + 9)))) Z (pu_strSliceM Z underlying9 (tm Z) Z ⟨_, (tm Z)⟩ c31) ?_
 obtain ⟨r32, r32e, h⟩ := bind_some h
 refine xo (crc.Fits.ok r32e) call83 Z (xz (.bool (!r32)) Z (xy Z (xe (cb h Z (fun _ h => ?_) (fun _ h => ?_)))))
 refine xr (xa (.agg [.sl .full 1 e5L]) Z (pu_build (zs := [.sl .full 1 e5L]) (szs := [1]) (aparts := []) (cs := [.sl .full 1 e5L]) Z underlying68 zeroValue68 Z ⟨sizeOf66, trivial⟩ trivial Z) (xs 0 [.sl .full 1 e5L] sizeOf68 Z (xz (.i 0) Z (xz (.i 14) Z (xe (aw_ret ?_))))))
 cases h
 exact rq [.agg [.sl .full 1 e5L], .i 0, .i 14] ⟨Z, Z⟩ (AV.Le.tup ⟨(AV.Le.agg ⟨(AV.Le.forget _ _ _), trivial⟩), vr, vr, trivial⟩) ⟨(CellOk.agg 0 (tm Z) Z isAgg68 sizeOf68 (nb Z) Z), (tm Z), (tm Z), trivial⟩ w0
 refine aw_skip (xr (xy Z (xy Z (xz (.i (w64 (5 + x30))) Z ?_))))
 obtain ⟨c33, h⟩ := need_of h
 refine xa (.str (sub s_ 5 (w64 (5 + x30)))) Z (pu_strSliceM Z underlying9 (tm Z) ⟨_, (AEv.int _ _)⟩ ⟨_, (tm Z)⟩ c33) ?_
 obtain ⟨r34, r34e, h⟩ := bind_some h
 refine xo (unit.read.ok r34e) call84 Z (xy Z (xz (.agg [.sl .no 1 (m4L r34.1.Cmds)]) Z (xz (.bool r34.2) Z (xA (.agg [.sl .full 1 e5L]) zeroValue68 Z fun p35 => xs 0 [.sl .no 1 (m4L r34.1.Cmds)] sizeOf68 Z (xy Z (xe (aw_seq (xr (xy Z (xz (.bool (!r34.2)) Z (xe (cb h Z (fun _ h => ?_) (fun _ h => ?_)))))))))))))
 refine xr (xa (.agg [.sl .full 1 e5L]) Z (pu_build (zs := [.sl .full 1 e5L]) (szs := [1]) (aparts := []) (cs := [.sl .full 1 e5L]) Z underlying68 zeroValue68 Z ⟨sizeOf66, trivial⟩ trivial Z) (xs 1 [.sl .full 1 e5L] sizeOf68 Z (xz (.i 0) Z (xz (.i 5) Z (xe (aw_ret ?_))))))
 cases h
 exact rq [.agg [.sl .full 1 e5L], .i 0, .i 5] ⟨Z, Z⟩ (AV.Le.tup ⟨(AV.Le.agg ⟨(AV.Le.forget _ _ _), trivial⟩), vr, vr, trivial⟩) ⟨(CellOk.agg 1 (tm Z) Z isAgg68 sizeOf68 (nb Z) Z), (tm Z), (tm Z), trivial⟩ w0
 refine aw_skip (xr (xL 0 isAgg68 sizeOf68 Z (xy Z (xz (.i (w64 (x30 + 9))) Z (xs 1 [.sl .no 1 (m4L r34.1.Cmds)] sizeOf68 Z (xy Z (xz (.i 0) Z (xe ?_))))))))
 refine aw_ret ?_
 cases h
 exact rq [.agg [.sl .no 1 (m4L r34.1.Cmds)], .i (w64 (x30 + 9)), .i 0] ⟨Z, Z⟩ (AV.Le.tup cr) ⟨(CellOk.agg 1 (tm Z) Z isAgg68 sizeOf68 (nb Z) Z), (tm Z), (tm Z), trivial⟩ w0

theorem unit.All.ok {s_ r} (h : unit.All s_ = some r) : Sp prog 27 [.str s_] [] (fun v H => ∃ n0, v = .tup [.sl (.own n0) 1 (m7L r.1), .i r.2] ∧ H = [(n0, .spare)]) := by
 unfold unit.All at h
 refine sb [.tmp 2, .tmp 3] func27 Z (xr (xa (.sl .full 1 e6L) Z (pu_assign Z (AEv.nil 1 (by decide))) (xz (.i 0) Z (xe (xr (xa (.sl .full 1 e6L) Z (pu_assign Z (AEv.nil 1 (by decide))) (xe ?_)))))))
 refine xr (xz (.i 0) Z (xe (aw_block (aw_claim 4 (tm Z) fun t54 => (aw_while (σ := unit.All.S0) (ν := Nat) (unit.All.body0 s_) (fun s43 v => [(0, .str s_), (4, .sl (.own v) 1 (m7L s43.l)), (5, .i s43.at_)]) (fun s43 v => [(v, .spare)]) ⟨([] : List api.Unit), 0⟩ t54 _ h (wi [0] Z) ?_)))))
 rintro s43 n44 x46 h hx45
 unfold unit.All.body0 at h
 refine aw_block (xr (xy Z (xy Z ?_)))
 obtain ⟨c48, h⟩ := need_of h
 refine xa (.str (sub s_ s43.at_ (s_.length : Int))) Z (pu_strSliceM Z underlying9 (tm Z) ⟨_, (tm Z)⟩ Z c48) ?_
 obtain ⟨r49, r49e, h⟩ := bind_some h
 refine xo (unit.Take.ok r49e) call57 Z (xy Z (xz (.agg [.sl .no 1 (m4L r49.1.Cmds)]) Z (xz (.i r49.2.1) Z (xz (.i r49.2.2) Z (xA (.agg [.sl .full 1 e5L]) zeroValue68 Z fun p50 => xs 0 [.sl .no 1 (m4L r49.1.Cmds)] sizeOf68 Z (xy Z (xy Z (xe (aw_seq (xr (xy Z (xz (bn (r49.2.2 = 0)) Z (xe ?_)))))))))))))
 refine aw_cond (b := (!decide (r49.2.2 = 0))) (tm Z) (fun hb53 => ?_) (fun hb53 => ?_)
 replace h := ite_f (ndec_t hb53) h
 refine xr (xy Z (xy Z (xy Z (xy Z (xe (aw_ret ?_))))))
 cases h
 cases congrArg some (hx45 _ rfl)
 exact rt ⟨n44, Z, Z⟩ Z (wi [1] Z)
 replace h := ite_t (ndec_f hb53) h
 refine aw_skip (xr (xy Z (xL 0 isAgg68 sizeOf68 Z (xc Z (op_buildSlice (xs := ([r49.1] : List api.Unit).map api.Unit.av) (aparts := [(0, .agg [.sl .no 1 (m4L r49.1.Cmds)])]) Z underlying28 sizeOf68 zeroValue68 (by decide) (by decide) ⟨Z, (tm Z), trivial⟩ Z Z Z ?_)))))
 obtain ⟨c51, h⟩ := need_of h
 refine xc Z (op_appendOM (q := 1) Z underlying28 underlying28 (.inl Z) typeInfo68 Z Z Z (by decide) (tm Z) Z (given_sl (tm Z)) c51 ?_)
 intro t52
 refine xy Z (xe (aw_region (xy Z (xy Z (xz (.i (w64 (s43.at_ + r49.2.1))) Z (xy Z (xe ?_)))))))
 cases h
 exact ⟨_, t52, Z, wi [1] Z⟩

theorem slices.IndexFunc_api_File_v_disk_find_1.ok {s_ b1_ r} (h : slices.IndexFunc_api_File_v_disk_find_1 s_ b1_ = some r) (o0 o1 : Nat) : Sp prog 69 [.vec o0, .fn 70 [.ptr o1 0]] [(o0, .vec 3 (m0L s_)), (o1, .cells [.str b1_])] (fun v H => v = .i r ∧ H = [(o0, .vec 3 (m0L s_)), (o1, .cells [.str b1_])]) := by
 unfold slices.IndexFunc_api_File_v_disk_find_1 at h
 refine sb [.tmp 4] func69 Z (xr (xz (.i 0) Z (xe ?_)))
 obtain ⟨s92, s92e, h69⟩ := bind_some h
 refine aw_join (σ := Unit) (ν := Unit) (fun u v => []) (fun u v => [(o0, .vec 3 (m0L s_)), (o1, .cells [.str b1_])]) (fun u => s92 = .inl u) ?_ ?_
 intro s68
 intro _
 rintro rfl
 have h := onSum_inl h69
 refine xr (xz (.i (-1)) Z (xe (aw_ret ?_)))
 cases h
 exact rt ⟨Z, Z⟩ Z (wi [0, 1] Z)
 have h := s92e
 refine xr (xy Z (xc Z (op_lenVecM (i := 0) Z underlying22 (tm Z) Z (xz (.i 0) Z (xe (aw_block (aw_while (σ := slices.IndexFunc_api_File_v_disk_find_1.S0) (ν := Unit) (slices.IndexFunc_api_File_v_disk_find_1.body0 s_ b1_) (fun s83 v => [(0, .vec o0), (1, .fn 70 [.ptr o1 0]), (7, .i (s_.length : Int)), (8, .i s83.t8)]) (fun s83 v => [(o0, .vec 3 (m0L s_)), (o1, .cells [.str b1_])]) ⟨0⟩ () _ h (wi [0, 1] Z) ?_)))))))
 rintro s83 _ x85 h hx84
 unfold slices.IndexFunc_api_File_v_disk_find_1.body0 at h
 refine xr (xz (bd (s83.t8 < (s_.length : Int))) Z (xe (aw_seq (cd h Z (fun _ h => ?_) (fun _ h => ?_)))))
 refine aw_skip (aw_seq (aw_block (xr (xy Z (xy Z (xe (aw_seq (aw_region ?_))))))))
 refine xy Z (xy Z (xy Z ?_))
 obtain ⟨c87, h⟩ := need_of h
 refine xc Z (op_indexAddrVecM Z underlying22 sizeOf60 (tm Z) (j := 0) Z (tm Z) c87 ?_)
 obtain ⟨c88, h⟩ := need_of h
 refine xc Z (op_loadENM (i := 0) (sz := 3) Z isAgg60 sizeOf60 (tm Z) Z c88 (by decide) Z ?_)
 obtain ⟨r89, r89e, h⟩ := bind_some h
 refine aops_weak (weak_pick [1, 0] (by decide) Z) (xc Z (op_callV (vs := [.agg [.str (ix s_ s83.t8).Name, .str (ix s_ s83.t8).Data, .i (ix s_ s83.t8).Synced]]) (H := [(o1, .cells [.str b1_])]) Z (tm Z) call70 ⟨(tm Z), trivial⟩ (List.Perm.refl _) (disk.find_1.ok r89e o1) ?_))
 rintro _ _ ⟨rfl, rfl⟩
 refine xe (cb h Z (fun _ h => ?_) (fun _ h => ?_))
 refine xr (xy Z (xy Z (xe (aw_ret ?_))))
 cases h
 cases congrArg some (hx84 _ rfl)
 cases onSum_inr h69
 exact rt ⟨Z, Z⟩ Z (wi [1, 0] Z)
 refine aw_skip (aw_region (xz (.i (w64 (s83.t8 + 1))) Z (xy Z (xe ?_))))
 cases h
 exact ⟨_, (), Z, wi [1, 0] Z⟩
 refine aw_exit ?_
 cases h
 have h := congrArg some (hx84 _ rfl)
 exact ⟨(), (), (some_of h).symm, wi [0, 1] Z⟩

theorem disk.find_v.ok {d name r} (h : disk.find_v d name = some r) (o0 o1 : Nat) : Sp prog 41 [.agg [.vec o0, .vec o1], .str name] [(o0, .vec 3 (m0L d.Files)), (o1, .vec 3 (m1L d.Faults))] (fun v H => v = .i r ∧ H = [(o0, .vec 3 (m0L d.Files)), (o1, .vec 3 (m1L d.Faults))]) := by
 unfold disk.find_v at h
 refine sb [.tmp 4] func41 Z (xr (xb [.vec o0, .vec o1] Z fun p4 => xb [.str name] Z fun p5 => xz (.i 0) Z (xe (xr (xf (.ptr p4 0) underlying25 sizeOf22 Z (xl 1 isAgg22 Z (xa (.fn 70 [.ptr p5 0]) Z (pu_makeFunc Z ⟨(tm Z), trivial⟩) ?_)))))))
 obtain ⟨r6, r6e, h⟩ := bind_some h
 refine aops_weak (weak_pick [2, 0, 1, 3] (by decide) Z) (xo (slices.IndexFunc_api_File_v_disk_find_1.ok r6e o0 p5) call69 Z (xy Z (xe (aw_ret ?_))))
 cases h
 exact rt ⟨Z, Z⟩ Z (wi [0, 3] Z)

theorem disk.safe.ok {f r} (h : disk.safe f = some r) : Sp prog 42 [.agg [.str f.Name, .str f.Data, .i f.Synced]] [] (fun v H => v = .i r ∧ H = []) := by
 unfold disk.safe at h
 refine sb [.tmp 2] func42 Z (xr (xb [.str f.Name, .str f.Data, .i f.Synced] Z fun p2 => xz (.i 0) Z (xe (xr (xf (.ptr p2 2) underlying60 sizeOf3 Z (xl 0 isAgg3 Z (xa (.i (if f.Synced < 0 then 0 else f.Synced)) Z (pu_max2 Z (tm Z) (AEv.int _ _)) (xf (.ptr p2 1) underlying60 sizeOf9 Z (xl 0 isAgg9 Z (xa (.i (f.Data.length : Int)) Z (pu_strLen Z underlying9 (tm Z)) ?_))))))))))
 refine xa (.i (if (f.Data.length : Int) < (if f.Synced < 0 then 0 else f.Synced) then (f.Data.length : Int) else (if f.Synced < 0 then 0 else f.Synced))) Z (pu_min2 Z (tm Z) (tm Z)) (xy Z (xe (aw_ret ?_)))
 cases h
 exact rt ⟨Z, Z⟩ Z w0

theorem disk.Cut.ok {d name n_ r} (h : disk.Cut d name n_ = some r) : Sp prog 28 [.agg [.sl .no 3 (m0L d.Files), .sl .no 3 (m1L d.Faults)], .str name, .i n_] [] (fun v H => ∃ n0 n1, v = .tup [.agg [.vec n0, .vec n1], .i r.2] ∧ H = [(n0, .vec 3 (m0L r.1.Files)), (n1, .vec 3 (m1L r.1.Faults))]) := by
 unfold disk.Cut at h
 refine sb [.cell 6 25, .tmp 7] func28 Z (xr (xb [.sl .no 3 (m0L d.Files), .sl .no 3 (m1L d.Faults)] Z fun p16 => xA (.agg [.sl .full 3 e0L, .sl .full 3 e1L]) zeroValue25 Z fun p17 => xz (.i 0) Z (xe (xr (xL 1 isAgg25 sizeOf25 Z ?_)))))
 obtain ⟨r18, r18e, h⟩ := bind_some h
 refine xk (disk.own.ok r18e) call54 Z ?_
 rintro _ _ ⟨t19, t20, rfl, rfl⟩
 refine xs 3 [.vec t19, .vec t20] sizeOf25 Z (xe (xr (xL 3 isAgg25 sizeOf25 Z (xy Z ?_))))
 obtain ⟨r21, r21e, h⟩ := bind_some h
 refine xo (disk.find_v.ok r21e t19 t20) call41 Z (xy Z (xe (aw_seq (xr (xy Z (xz (bd (r21 < 0)) Z (xe (cd h Z (fun _ h => ?_) (fun _ h => ?_)))))))))
 refine xr (xL 3 isAgg25 sizeOf25 Z (xs 2 [.vec t19, .vec t20] sizeOf25 Z (xz (.i 8) Z (xe (aw_ret ?_)))))
 cases h
 exact rq [.agg [.vec t19, .vec t20], .i 8] ⟨t19, t20, Z, Z⟩ (AV.Le.tup cr) ⟨(CellOk.agg 2 (tm Z) Z isAgg25 sizeOf25 (nb Z) Z), (tm Z), trivial⟩ (wi [0, 1] Z)
 refine aw_skip (xr (xf (.ptr p16 0) underlying25 sizeOf22 Z (xl 3 isAgg22 Z (xy Z ?_))))
 obtain ⟨c22, h⟩ := need_of h
 refine xc Z (op_indexAddrVecM Z underlying22 sizeOf60 (tm Z) (j := 0) Z (tm Z) c22 (xy Z (xe (aw_seq ?_))))
 obtain ⟨c23, h⟩ := need_of h
 obtain ⟨c24, h⟩ := need_of h
 obtain ⟨c25, h⟩ := need_of h
 obtain ⟨c26, h⟩ := need_of h
 refine aw_planR (by decide +kernel) [[], [], [], [], [(0, 0, false)], [], [], [], [], [], [(0, 0, false)], [], [], [], [], [], [(0, 0, true)]] [[16], [], [], []] [[[(t19, .vec 3 (m0L r18.Files))], [(t19, .vec 3 (m0L (upd r18.Files r21 { (ix r18.Files r21) with Data := sub (ix r18.Files r21).Data 0 (if ((ix r18.Files r21).Data.length : Int) < (if n_ < 0 then 0 else n_) then ((ix r18.Files r21).Data.length : Int) else (if n_ < 0 then 0 else n_)) })))]], [[(t20, .vec 3 (m1L r18.Faults))]], [[(p17, .cells [.sl .full 3 e0L, .sl .full 3 e1L])]], [[(p16, .cells [.vec t19, .vec t20])]]] [.eptr t19 (r21).toNat 0, .eptr t19 (r21).toNat 0, .eptr t19 (r21).toNat 0, .eptr t19 (r21).toNat 1, .str (ix r18.Files r21).Data, .i n_, .i (if n_ < 0 then 0 else n_), .eptr t19 (r21).toNat 0, .eptr t19 (r21).toNat 0, .eptr t19 (r21).toNat 1, .str (ix r18.Files r21).Data, .i ((ix r18.Files r21).Data.length : Int), .i (if ((ix r18.Files r21).Data.length : Int) < (if n_ < 0 then 0 else n_) then ((ix r18.Files r21).Data.length : Int) else (if n_ < 0 then 0 else n_)), .str (sub (ix r18.Files r21).Data 0 (if ((ix r18.Files r21).Data.length : Int) < (if n_ < 0 then 0 else n_) then ((ix r18.Files r21).Data.length : Int) else (if n_ < 0 then 0 else n_))), .eptr t19 (r21).toNat 0, .eptr t19 (r21).toNat 1, .un] (by decide +kernel) Z Z ?_ ?_
 exact ⟨ym Z Z Z, ym Z Z Z, yp Z (pu_nilCheck Z (tm Z) Z), yp Z (fa Z underlying60 Z sizeOf9 Z Z Z), stepg_plain Z (op_loadE1M (i := 0) (sz := 3) Z isAgg9 (tm Z) Z c23 (by decide) Z ⟨Z, Z⟩), ym Z Z Z, yp Z (pu_max2 Z (tm Z) (AEv.int _ _)), ym Z Z Z, yp Z (pu_nilCheck Z (tm Z) Z), yp Z (fa Z underlying60 Z sizeOf9 Z Z Z), stepg_plain Z (op_loadE1M (i := 0) (sz := 3) Z isAgg9 (tm Z) Z c24 (by decide) Z ⟨Z, Z⟩), yp Z (pu_strLen Z underlying9 (tm Z)), yp Z (pu_min2 Z (tm Z) (tm Z)), yp Z (pu_strSliceM Z underlying9 (tm Z) Z ⟨_, (tm Z)⟩ c25), yp Z (pu_nilCheck Z (tm Z) Z), yp Z (fa Z underlying60 Z sizeOf9 Z Z Z), stepg_plain Z (op_storeEM (i := 0) (sz := 3) (y' := { (ix r18.Files r21) with Data := sub (ix r18.Files r21).Data 0 (if ((ix r18.Files r21).Data.length : Int) < (if n_ < 0 then 0 else n_) then ((ix r18.Files r21).Data.length : Int) else (if n_ < 0 then 0 else n_)) }) Z sizeOf9 (tm Z) (v := .str (sub (ix r18.Files r21).Data 0 (if ((ix r18.Files r21).Data.length : Int) < (if n_ < 0 then 0 else n_) then ((ix r18.Files r21).Data.length : Int) else (if n_ < 0 then 0 else n_)))) (tm Z) Z c26 Z Z (by decide) Z ⟨Z, Z⟩), trivial⟩
 refine xr (xy Z (xy Z (xa (.eptr t19 (r21).toNat 0) Z (pu_nilCheck Z (tm Z) Z) ?_)))
 obtain ⟨c27, h⟩ := need_of h
 refine xc Z (op_loadENM (i := 0) (sz := 3) Z isAgg60 sizeOf60 (tm Z) Z c27 (by decide) Z ?_)
 obtain ⟨r28, r28e, h⟩ := bind_some h
 refine xo (disk.safe.ok r28e) call42 Z (xa (.eptr t19 (r21).toNat 0) Z (pu_nilCheck Z (tm Z) Z) (xf (.eptr t19 (r21).toNat 2) underlying60 sizeOf3 Z ?_))
 obtain ⟨c29, h⟩ := need_of h
 refine ac0 Z Z (op_storeEM (i := 0) (sz := 3) (y' := ({ Name := (ix (upd r18.Files r21 { (ix r18.Files r21) with Data := sub (ix r18.Files r21).Data 0 (if ((ix r18.Files r21).Data.length : Int) < (if n_ < 0 then 0 else n_) then ((ix r18.Files r21).Data.length : Int) else (if n_ < 0 then 0 else n_)) }) r21).Name, Data := (ix (upd r18.Files r21 { (ix r18.Files r21) with Data := sub (ix r18.Files r21).Data 0 (if ((ix r18.Files r21).Data.length : Int) < (if n_ < 0 then 0 else n_) then ((ix r18.Files r21).Data.length : Int) else (if n_ < 0 then 0 else n_)) }) r21).Data, Synced := r28 } : api.File)) Z sizeOf3 (tm Z) (v := .i r28) (tm Z) Z c29 Z Z (by decide) Z (xe (xr (xL 3 isAgg25 sizeOf25 Z (xs 2 [.vec t19, .vec t20] sizeOf25 Z (xz (.i 0) Z (xe (aw_ret ?_))))))))
 cases h
 exact rq [.agg [.vec t19, .vec t20], .i 0] ⟨t19, t20, Z, Z⟩ (AV.Le.tup cr) ⟨(CellOk.agg 2 (tm Z) Z isAgg25 sizeOf25 (nb Z) Z), (tm Z), trivial⟩ (wi [0, 1] Z)

theorem disk.Safe.ok {d name r} (h : disk.Safe d name = some r) : Sp prog 15 [.agg [.sl .no 3 (m0L d.Files), .sl .no 3 (m1L d.Faults)], .str name] [] (fun v H => v = .str r ∧ H = []) := by
 unfold disk.Safe at h
 refine sb [.tmp 4] func15 Z (xr (xb [.sl .no 3 (m0L d.Files), .sl .no 3 (m1L d.Faults)] Z fun p8 => xa (.str nS) Z (pu_assign Z (AEv.const Z)) (xe (xr (xL 0 isAgg25 sizeOf25 Z (xy Z ?_))))))
 obtain ⟨r9, r9e, h⟩ := bind_some h
 refine xo (disk.find.ok r9e) call41 Z (xy Z (xe (aw_seq (xr (xy Z (xz (bd (r9 < 0)) Z (xe (cd h Z (fun _ h => ?_) (fun _ h => ?_)))))))))
 refine xr (xa (.str nS) Z (pu_assign Z (AEv.const Z)) (xe (aw_ret ?_)))
 cases h
 exact rt ⟨Z, Z⟩ Z w0
 refine aw_skip (aw_seq ?_)
 obtain ⟨c10, h⟩ := need_of h
 obtain ⟨c11, h⟩ := need_of h
 obtain ⟨r12, r12e, h⟩ := bind_some h
 obtain ⟨c13, h⟩ := need_of h
 refine aw_planR (by decide +kernel) [[], [(0, 0, false)], [], [], [], [], [], [(0, 0, false)], [], [], [], [], [], []] [[]] [[[(p8, .cells [.sl .no 3 (m0L d.Files), .sl .no 3 (m1L d.Faults)])]]] [.ptr p8 0, .sl .no 3 (m0L d.Files), .i r9, .vptr [.str (ix d.Files r9).Name, .str (ix d.Files r9).Data, .i (ix d.Files r9).Synced], .vptr [.str (ix d.Files r9).Data, .i (ix d.Files r9).Synced], .str (ix d.Files r9).Data, .ptr p8 0, .sl .no 3 (m0L d.Files), .i r9, .vptr [.str (ix d.Files r9).Name, .str (ix d.Files r9).Data, .i (ix d.Files r9).Synced], .agg [.str (ix d.Files r9).Name, .str (ix d.Files r9).Data, .i (ix d.Files r9).Synced], .i r12, .str (sub (ix d.Files r9).Data 0 r12), .str (sub (ix d.Files r9).Data 0 r12)] (by decide +kernel) Z Z ?_ ?_
 exact ⟨yp Z (fa Z underlying25 Z sizeOf22 Z Z Z), stepg_plain Z (op_load1 (i := 0) Z isAgg22 (tm Z) Z Z ⟨Z, Z⟩), ym Z Z Z, yp Z (pu_indexAddrM Z underlying22 sizeOf60 (tm Z) (tm Z) c10 Z), yp Z (fa Z underlying60 Z sizeOf9 Z Z Z), stepg_plain Z (op_loadV1 Z isAgg9 (tm Z) Z ⟨Z, Z⟩), yp Z (fa Z underlying25 Z sizeOf22 Z Z Z), stepg_plain Z (op_load1 (i := 0) Z isAgg22 (tm Z) Z Z ⟨Z, Z⟩), ym Z Z Z, yp Z (pu_indexAddrM Z underlying22 sizeOf60 (tm Z) (tm Z) c11 Z), stepg_plain Z (op_loadVN Z isAgg60 sizeOf60 (tm Z) (nb Z) Z ⟨Z, Z⟩), stepg_plain Z (op_call (vs := [.agg [.str (ix d.Files r9).Name, .str (ix d.Files r9).Data, .i (ix d.Files r9).Synced]]) (H := []) Z call42 ⟨(tm Z), trivial⟩ (R := []) (List.Perm.refl _) (disk.safe.ok r12e) (by rintro _ _ ⟨rfl, rfl⟩; exact ⟨Z, Z⟩)), yp Z (pu_strSliceM Z underlying9 (tm Z) Z ⟨_, (tm Z)⟩ c13), ym Z Z Z, trivial⟩
 refine aw_ret ?_
 cases h
 exact rt ⟨Z, Z⟩ Z w0

theorem disk.meets_1.ok {f a1_ a2_ r} (h : disk.meets_1 f a1_ a2_ = some r) (o0 o1 : Nat) : Sp prog 86 [.agg [.str f.Name, .i f.Kind, .i f.Short], .ptr o0 0, .ptr o1 0] [(o0, .cells [.str a1_]), (o1, .cells [.i a2_])] (fun v H => v = .bool r ∧ H = [(o0, .cells [.str a1_]), (o1, .cells [.i a2_])]) := by
 unfold disk.meets_1 at h
 refine sb [.tmp 4] func86 Z (xr (xb [.str f.Name, .i f.Kind, .i f.Short] Z fun p7 => xz (.bool false) Z (xe ?_)))
 obtain ⟨s9, s9e, h10⟩ := letO_of h
 refine aw_meet (ν := Unit) (fun v => [(4, .bool s9)]) (fun v => [(o0, .cells [.str a1_]), (o1, .cells [.i a2_])]) ?_ ?_
 have h := s9e.symm
 refine aw_region (xf (.ptr p7 0) underlying79 sizeOf9 Z (xl 0 isAgg9 Z (xl 1 isAgg9 Z (xa (bd (f.Name = a1_)) Z (pu_str (v := bd (f.Name = a1_)) Z Z (tm Z) (tm Z) Z) (xy Z ?_)))))
 rcases Bool.eq_false_or_eq_true (decide (f.Name = a1_)) with hb12 | hb12
 replace h := ite_t (dec_t hb12) h
 refine aops_known 9 Z hb12 (xp (.ptr p7 1) Z Z (fa Z underlying79 Z sizeOf3 Z Z Z) (xg Z Z (op_load1 (i := 0) Z isAgg3 (tm Z) Z Z (xg Z Z (op_load1 (i := 2) Z isAgg3 (tm Z) Z Z (xp (bd (f.Kind = a2_)) Z Z (pe Z) (xz (bd (f.Kind = a2_)) Z (xy Z (xe ?_)))))))))
 subst h
 exact ⟨(), wi [1, 2] Z⟩
 replace h := ite_f (dec_f hb12) h
 refine aops_known 9 Z hb12 (xu Z (xu Z (xu Z (xu Z (xz (.bool false) Z (xy Z (xe ?_)))))))
 subst h
 exact ⟨(), wi [1, 2] Z⟩
 intro _
 have h := h10
 refine aw_ret ?_
 cases h
 exact rt ⟨Z, Z⟩ Z (wi [0, 1] Z)

theorem slices.IndexFunc_api_Fault_v_disk_meets_1.ok {s_ b1_ b2_ r} (h : slices.IndexFunc_api_Fault_v_disk_meets_1 s_ b1_ b2_ = some r) (o0 o1 o2 : Nat) : Sp prog 85 [.vec o0, .fn 86 [.ptr o1 0, .ptr o2 0]] [(o0, .vec 3 (m1L s_)), (o1, .cells [.str b1_]), (o2, .cells [.i b2_])] (fun v H => v = .i r ∧ H = [(o0, .vec 3 (m1L s_)), (o1, .cells [.str b1_]), (o2, .cells [.i b2_])]) := by
 unfold slices.IndexFunc_api_Fault_v_disk_meets_1 at h
 refine sb [.tmp 4] func85 Z (xr (xz (.i 0) Z (xe ?_)))
 obtain ⟨s92, s92e, h69⟩ := bind_some h
 refine aw_join (σ := Unit) (ν := Unit) (fun u v => []) (fun u v => [(o0, .vec 3 (m1L s_)), (o1, .cells [.str b1_]), (o2, .cells [.i b2_])]) (fun u => s92 = .inl u) ?_ ?_
 intro s68
 intro _
 rintro rfl
 have h := onSum_inl h69
 refine xr (xz (.i (-1)) Z (xe (aw_ret ?_)))
 cases h
 exact rt ⟨Z, Z⟩ Z (wi [0, 1, 2] Z)
 have h := s92e
 refine xr (xy Z (xc Z (op_lenVecM (i := 0) Z underlying23 (tm Z) Z (xz (.i 0) Z (xe (aw_block (aw_while (σ := slices.IndexFunc_api_Fault_v_disk_meets_1.S0) (ν := Unit) (slices.IndexFunc_api_Fault_v_disk_meets_1.body0 s_ b1_ b2_) (fun s83 v => [(0, .vec o0), (1, .fn 86 [.ptr o1 0, .ptr o2 0]), (7, .i (s_.length : Int)), (8, .i s83.t8)]) (fun s83 v => [(o0, .vec 3 (m1L s_)), (o1, .cells [.str b1_]), (o2, .cells [.i b2_])]) ⟨0⟩ () _ h (wi [0, 1, 2] Z) ?_)))))))
 rintro s83 _ x85 h hx84
 unfold slices.IndexFunc_api_Fault_v_disk_meets_1.body0 at h
 refine xr (xz (bd (s83.t8 < (s_.length : Int))) Z (xe (aw_seq (cd h Z (fun _ h => ?_) (fun _ h => ?_)))))
 refine aw_skip (aw_seq (aw_block (xr (xy Z (xy Z (xe (aw_seq (aw_region ?_))))))))
 refine xy Z (xy Z (xy Z ?_))
 obtain ⟨c87, h⟩ := need_of h
 refine xc Z (op_indexAddrVecM Z underlying23 sizeOf79 (tm Z) (j := 0) Z (tm Z) c87 ?_)
 obtain ⟨c88, h⟩ := need_of h
 refine xc Z (op_loadENM (i := 0) (sz := 3) Z isAgg79 sizeOf79 (tm Z) Z c88 (by decide) Z ?_)
 obtain ⟨r89, r89e, h⟩ := bind_some h
 refine aops_weak (weak_pick [1, 2, 0] (by decide) Z) (xc Z (op_callV (vs := [.agg [.str (ix s_ s83.t8).Name, .i (ix s_ s83.t8).Kind, .i (ix s_ s83.t8).Short]]) (H := [(o1, .cells [.str b1_]), (o2, .cells [.i b2_])]) Z (tm Z) call86 ⟨(tm Z), trivial⟩ (List.Perm.refl _) (disk.meets_1.ok r89e o1 o2) ?_))
 rintro _ _ ⟨rfl, rfl⟩
 refine xe (cb h Z (fun _ h => ?_) (fun _ h => ?_))
 refine xr (xy Z (xy Z (xe (aw_ret ?_))))
 cases h
 cases congrArg some (hx84 _ rfl)
 cases onSum_inr h69
 exact rt ⟨Z, Z⟩ Z (wi [2, 0, 1] Z)
 refine aw_skip (aw_region (xz (.i (w64 (s83.t8 + 1))) Z (xy Z (xe ?_))))
 cases h
 exact ⟨_, (), Z, wi [2, 0, 1] Z⟩
 refine aw_exit ?_
 cases h
 have h := congrArg some (hx84 _ rfl)
 exact ⟨(), (), (some_of h).symm, wi [0, 1, 2] Z⟩

theorem slices.Delete_api_Fault_v.ok {s_ i j r} (h : slices.Delete_api_Fault_v s_ i j = some r) (o0 : Nat) : Sp prog 87 [.vec o0, .i i, .i j] [(o0, .vec 3 (m1L s_))] (fun v H => ∃ n0, v = .vec n0 ∧ H = [(n0, .vec 3 (m1L r))]) := by
 unfold slices.Delete_api_Fault_v at h
 refine sb [.tmp 6] func87 Z (xr (xa (.sl .full 3 e1L) Z (pu_assign Z (AEv.nil 3 (by decide))) (xe (xr (xy Z (xy Z (xy Z ?_)))))))
 refine xy Z (xc Z (op_lenVecM (i := 0) Z underlying23 (tm Z) Z ?_))
 obtain ⟨c10, h⟩ := need_of h
 refine xc Z (op_slice3VM Z underlying23 sizeOf79 (tm Z) (q := 0) Z (tm Z) (tm Z) (tm Z) c10 (xe (aw_seq (xr (xy Z (xy Z (xz (bd (i = j)) Z (xe (cd h Z (fun _ h => ?_) (fun _ h => ?_))))))))))
 refine xr (xy Z (xy Z (xe (aw_ret ?_))))
 cases h
 exact rt ⟨o0, Z, Z⟩ Z (wi [0] Z)
 refine aw_skip (xr (xy Z (xc Z (op_lenVecM (i := 0) Z underlying23 (tm Z) Z (xy Z (xe (aw_seq ?_)))))))
 obtain ⟨c11, h⟩ := need_of h
 obtain ⟨c12, h⟩ := need_of h
 obtain ⟨c13, h⟩ := need_of h
 refine aw_planR (by decide +kernel) [[], [], [(0, 0, false)], [], [], [(0, 0, false)], [(0, 0, true)], []] [[6]] [[[(o0, .vec 3 (m1L s_))], [(o0, .vec 3 (m1L (mvL s_ (Int.toNat i) (Int.toNat j))))]]] [.vec o0, .i i, .vsl o0 (Int.toNat 0) (Int.toNat i), .vec o0, .i j, .vsl o0 (Int.toNat j) (Int.toNat (s_.length : Int)), .vsl o0 (Int.toNat 0) (Int.toNat (i + ((s_.length : Int) - j))), .vsl o0 (Int.toNat 0) (Int.toNat (i + ((s_.length : Int) - j)))] (by decide +kernel) Z Z ?_ ?_
 exact ⟨ym Z Z Z, ym Z Z Z, stepg_plain Z (op_sliceVecM Z underlying23 sizeOf79 (tm Z) (q := 0) Z Z ⟨_, (tm Z)⟩ c11 ⟨Z, Z⟩), ym Z Z Z, ym Z Z Z, stepg_plain Z (op_sliceVecM Z underlying23 sizeOf79 (tm Z) (q := 0) Z ⟨_, (tm Z)⟩ Z c12 ⟨Z, Z⟩), stepg_plain Z (op_appendPPM (q := 0) Z underlying23 typeInfo79 Z Z (tm Z) (tm Z) Z c13 ⟨Z, Z⟩), ym Z Z Z, trivial⟩
 refine xr (xy Z (xy Z ?_))
 obtain ⟨c14, h⟩ := need_of h
 refine xa (.i ((i + ((s_.length : Int) - j)) - 0)) Z (pu_lenVslM Z underlying23 (tm Z) c14) (xy Z ?_)
 obtain ⟨c15, h⟩ := need_of h
 obtain ⟨c16, h⟩ := need_of h
 refine xc Z (op_sliceVslM Z underlying23 sizeOf79 (tm Z) (q := 0) Z ⟨_, (tm Z)⟩ ⟨_, (tm Z)⟩ c15 c16 ?_)
 obtain ⟨c17, h⟩ := need_of h
 refine ac0 Z Z (op_clearVM (q := 0) api.Fault.av (({ Name := nS, Kind := 0, Short := 0 } : api.Fault) : api.Fault) Z underlying23 zeroValue79 Z Z (tm Z) Z c17 (xe (xr (xy Z (xy Z (xe ?_))))))
 obtain ⟨c18, h⟩ := need_of h
 refine aw_shrinkM 6 0 (tm Z) Z c18 fun p19 => (aw_ret ?_)
 cases h
 exact rt ⟨p19, Z, Z⟩ Z (wi [0] Z)

theorem disk.meets_v.ok {name kind d r} (h : disk.meets_v name kind d = some r) (o0 o1 o2 : Nat) : Sp prog 58 [.ptr o0 0, .str name, .i kind] [(o0, .cells [.vec o1, .vec o2]), (o1, .vec 3 (m0L d.Files)), (o2, .vec 3 (m1L d.Faults))] (fun v H => ∃ n0, v = .tup [.agg [.str r.1.Name, .i r.1.Kind, .i r.1.Short], .bool r.2.1] ∧ H = [(o0, .cells [.vec o1, .vec n0]), (o1, .vec 3 (m0L d.Files)), (n0, .vec 3 (m1L r.2.2.Faults))]) := by
 unfold disk.meets_v at h
 refine sb [.cell 6 79, .tmp 7] func58 Z (xr (xb [.str name] Z fun p11 => xb [.i kind] Z fun p12 => xA (.agg [.str nS, .i 0, .i 0]) zeroValue79 Z fun p13 => xz (.bool false) Z (xe (xr (xy Z (xa (.ptr o0 0) Z (pu_nilCheck Z (tm Z) Z) (xf (.ptr o0 1) underlying25 sizeOf23 Z (xl 3 isAgg23 Z (xa (.fn 86 [.ptr p11 0, .ptr p12 0]) Z (pu_makeFunc Z ⟨(tm Z), (tm Z), trivial⟩) ?_)))))))))
 obtain ⟨r14, r14e, h⟩ := bind_some h
 refine aops_weak (weak_pick [5, 2, 1, 0, 3, 4] (by decide) Z) (xo (slices.IndexFunc_api_Fault_v_disk_meets_1.ok r14e o2 p11 p12) call85 Z (xy Z (xe (aw_seq (xr (xy Z (xz (bd (r14 < 0)) Z (xe (cd h Z (fun _ h => ?_) (fun _ h => ?_))))))))))
 refine xr (xa (.agg [.str nS, .i 0, .i 0]) Z (pu_build (zs := [.str nS, .i 0, .i 0]) (szs := [1, 1, 1]) (aparts := []) (cs := [.str nS, .i 0, .i 0]) Z underlying79 zeroValue79 Z ⟨sizeOf9, sizeOf3, sizeOf3, trivial⟩ trivial Z) (xs 3 [.str nS, .i 0, .i 0] sizeOf79 Z (xz (.bool false) Z (xe (aw_ret ?_)))))
 cases h
 exact rq [.agg [.str nS, .i 0, .i 0], .bool false] ⟨o2, Z, Z⟩ (AV.Le.tup cr) ⟨(CellOk.agg 3 (tm Z) Z isAgg79 sizeOf79 (nb Z) Z), (tm Z), trivial⟩ (wi [4, 5, 0] Z)
 refine aw_skip (xr (xy Z (xa (.ptr o0 0) Z (pu_nilCheck Z (tm Z) Z) (xf (.ptr o0 1) underlying25 sizeOf23 Z (xl 4 isAgg23 Z (xy Z ?_))))))
 obtain ⟨c15, h⟩ := need_of h
 refine xc Z (op_indexAddrVecM Z underlying23 sizeOf79 (tm Z) (j := 0) Z (tm Z) c15 ?_)
 obtain ⟨c16, h⟩ := need_of h
 refine xc Z (op_loadENM (i := 0) (sz := 3) Z isAgg79 sizeOf79 (tm Z) Z c16 (by decide) Z (xA (.agg [.str nS, .i 0, .i 0]) zeroValue79 Z fun p17 => xs 0 [.str (ix d.Faults r14).Name, .i (ix d.Faults r14).Kind, .i (ix d.Faults r14).Short] sizeOf79 Z (xe (xr (xy Z (xy Z (xa (.ptr o0 0) Z (pu_nilCheck Z (tm Z) Z) (xf (.ptr o0 1) underlying25 sizeOf23 Z (xl 5 isAgg23 Z (xy Z ?_))))))))))
 refine xy Z (xz (.i (w64 (r14 + 1))) Z ?_)
 obtain ⟨r18, r18e, h⟩ := bind_some h
 refine aops_weak (weak_pick [1, 0, 2, 3, 4, 5, 6] (by decide) Z) (xk (slices.Delete_api_Fault_v.ok r18e o2) call87 Z ?_)
 rintro _ _ ⟨t19, rfl, rfl⟩
 refine xa (.ptr o0 0) Z (pu_nilCheck Z (tm Z) Z) (xf (.ptr o0 1) underlying25 sizeOf23 Z (xs 5 [.vec o1, .vec t19] sizeOf23 Z (xe (xr (xL 1 isAgg79 sizeOf79 Z (xs 4 [.str (ix d.Faults r14).Name, .i (ix d.Faults r14).Kind, .i (ix d.Faults r14).Short] sizeOf79 Z (xz (.bool true) Z (xe ?_))))))))
 refine aw_ret ?_
 cases h
 exact rq [.agg [.str (ix d.Faults r14).Name, .i (ix d.Faults r14).Kind, .i (ix d.Faults r14).Short], .bool true] ⟨t19, Z, Z⟩ (AV.Le.tup cr) ⟨(CellOk.agg 4 (tm Z) Z isAgg79 sizeOf79 (nb Z) Z), (tm Z), trivial⟩ (wi [5, 6, 0] Z)

end Go.Pu
