/- Printed by lift.py: the functions come to them. -/
import Derived.Test.YtngliepchpkiiaaDoorLiftWS
import Derived.Test.YtngliepchpkiiaaDoorTAK0
set_option maxRecDepth 100000
set_option maxHeartbeats 0
namespace Go.Pu
open Go.Lift Go.Proofs.Tryd Go.RowKit Go.Proofs

theorem num.Parse.ok {s_ r} (h : num.Parse s_ = some r) : Sp prog 37 [.str s_] [] (fun v H => v = .tup [.i r.1, .bool r.2] ∧ H = []) := by
 unfold num.Parse at h
 refine sb [.tmp 2, .tmp 3] func37 Z (xr (xz (.i 0) Z (xz (.bool false) Z (xe ?_))))
 obtain ⟨s113, s113e, h114⟩ := bind_some h
 refine aw_meet (ν := Unit) (fun v => [(0, .str s_), (4, .bool s113)]) (fun v => []) ?_ ?_
 have h := s113e
 refine aw_region (xy Z (xa (bn (s_ = nS)) Z (pu_str (v := bn (s_ = nS)) Z Z (tm Z) (AEv.const Z) Z) (xy Z ?_)))
 rcases Bool.eq_false_or_eq_true (!decide (s_ = nS)) with hb116 | hb116
 replace h := ite_f (ndec_t hb116) h
 refine aops_known 11 Z hb116 (xq Z Z Z Z ?_)
 obtain ⟨c117, h⟩ := need_of h
 refine xp (.int .u8 (bix s_ 0)) Z Z (pu_strIdxM Z underlying9 (tm Z) (AEv.int _ _) c117) (xp (bd ((bix s_ 0) = 45)) Z Z (pe Z) (xz (bd ((bix s_ 0) = 45)) Z (xy Z (xe ?_))))
 cases h
 exact ⟨(), wi [] Z⟩
 replace h := ite_t (ndec_f hb116) h
 refine aops_known 11 Z hb116 (xu Z (xu Z (xu Z (xz (.bool false) Z (xy Z (xe ?_))))))
 cases h
 exact ⟨(), wi [] Z⟩
 intro _
 have h := h114
 refine xr (xy Z (xy Z (xe ?_)))
 obtain ⟨s120, s120e, h121⟩ := bind_some h
 refine aw_meet (ν := Unit) (fun v => [(4, .bool s113), (5, .str s120)]) (fun v => []) ?_ ?_
 have h := s120e
 refine xr (xy Z (xe (cb h Z (fun _ h => ?_) (fun _ h => ?_))))
 refine aw_region (xy Z ?_)
 obtain ⟨c123, h⟩ := need_of h
 refine xa (.str (sub s_ 1 (s_.length : Int))) Z (pu_strSliceM Z underlying9 (tm Z) ⟨_, (AEv.int _ _)⟩ Z c123) (xy Z (xe ?_))
 cases h
 exact ⟨(), wi [] Z⟩
 refine aw_skip ?_
 cases h
 exact ⟨(), wi [] Z⟩
 intro _
 have h := h121
 refine aw_seq ?_
 obtain ⟨s130, s130e, h131⟩ := bind_some h
 refine aw_meet (ν := Unit) (fun v => [(4, .bool s113), (5, .str s120), (39, .bool s130)]) (fun v => []) ?_ ?_
 have h := s130e
 refine aw_region (xy Z (xa (bd (s120 = nS)) Z (pu_str (v := bd (s120 = nS)) Z Z (tm Z) (AEv.const Z) Z) (xy Z ?_)))
 rcases Bool.eq_false_or_eq_true (decide (s120 = nS)) with hb133 | hb133
 replace h := ite_t (dec_t hb133) h
 refine aops_known 22 Z hb133 (xu Z (xu Z (xu Z (xz (.bool true) Z (xy Z (xu Z (xu Z (xu Z (xu Z ?_)))))))))
 refine xv Z Z (xv Z Z (xv Z Z (xv Z Z (xv Z Z (xv Z Z (xu Z (xz (.bool true) Z (xe ?_))))))))
 cases h
 exact ⟨(), wi [] Z⟩
 replace h := ite_f (dec_f hb133) h
 refine aops_known 22 Z hb133 (xq Z Z Z Z (xp (.i (s120.length : Int)) Z Z (pu_strLen Z underlying9 (tm Z)) (xp (bd (19 < (s120.length : Int))) Z Z (pe Z) (xz (bd (19 < (s120.length : Int))) Z (xy Z ?_)))))
 rcases Bool.eq_false_or_eq_true (decide (19 < (s120.length : Int))) with hb134 | hb134
 replace h := ite_t (dec_t hb134) h
 refine aops_known 27 Z hb134 (xu Z (xu Z (xu Z (xu Z (xv Z Z (xv Z Z (xv Z Z (xv Z Z (xv Z Z ?_)))))))))
 refine xv Z Z (xu Z (xz (.bool true) Z (xe ?_)))
 cases h
 exact ⟨(), wi [] Z⟩
 replace h := ite_f (dec_f hb134) h
 refine aops_known 27 Z hb134 (xq Z Z Z Z ?_)
 obtain ⟨c135, h⟩ := need_of h
 refine xp (.int .u8 (bix s120 0)) Z Z (pu_strIdxM Z underlying9 (tm Z) (AEv.int _ _) c135) (xp (bd ((bix s120 0) = 48)) Z Z (pe Z) (xq Z Z Z Z ?_))
 rcases Bool.eq_false_or_eq_true (decide ((bix s120 0) = 48)) with hb136 | hb136
 replace h := ite_t (dec_t hb136) h
 refine aops_known 31 Z hb136 (xq Z Z Z Z (xq Z Z Z Z ?_))
 rcases Bool.eq_false_or_eq_true s113 with hb137 | hb137
 replace h := ite_t hb137 h
 refine aops_known 33 Z hb137 (xu Z (xu Z (xu Z (xp (.bool true) Z Z (pe Z) (xp (.bool true) Z Z (pe Z) (xz (.bool true) Z (xe ?_)))))))
 cases h
 exact ⟨(), wi [] Z⟩
 replace h := ite_fb hb137 h
 refine aops_known 33 Z hb137 (xq Z Z Z Z (xp (.i (s120.length : Int)) Z Z (pu_strLen Z underlying9 (tm Z)) (xp (bd (1 < (s120.length : Int))) Z Z (pe Z) (xp (bd (1 < (s120.length : Int))) Z Z (pe Z) (xp (bd (1 < (s120.length : Int))) Z Z (pe Z) (xz (bd (1 < (s120.length : Int))) Z (xe ?_)))))))
 cases h
 exact ⟨(), wi [] Z⟩
 replace h := ite_f (dec_f hb136) h
 refine aops_known 31 Z hb136 (xu Z (xu Z (xv Z Z (xv Z Z (xv Z Z (xu Z (xp (.bool false) Z Z (pe Z) (xz (.bool false) Z (xe ?_)))))))))
 cases h
 exact ⟨(), wi [] Z⟩
 intro _
 have h := h131
 refine aw_cond (b := s130) (tm Z) (fun hb220 => ?_) (fun hb220 => ?_)
 replace h := ite_t hb220 h
 refine xr (xz (.i 0) Z (xz (.bool false) Z (xe (aw_ret ?_))))
 cases h
 exact rt ⟨Z, Z⟩ Z w0
 replace h := ite_fb hb220 h
 refine aw_skip (xr (xz (.int .u64 0) Z (xe ?_)))
 obtain ⟨s219, s219e, h172⟩ := bind_some h
 refine aw_join (σ := Int) (ν := Unit) (fun u v => [(4, .bool s113), (6, .int .u64 u)]) (fun u v => []) (fun u => s219 = .inl u) ?_ ?_
 intro s171
 intro _
 rintro rfl
 have h := onSum_inl h172
 refine aw_seq (aw_block ?_)
 obtain ⟨s208, s208e, h209⟩ := letO_of h
 refine aw_meet (ν := Unit) (fun v => [(4, .bool s113), (6, .int .u64 s171), (61, .bool s208)]) (fun v => []) ?_ ?_
 have h := s208e.symm
 refine aw_region (xy Z (xy Z ?_))
 rcases Bool.eq_false_or_eq_true s113 with hb211 | hb211
 replace h := ite_t hb211 h
 refine aops_known 63 Z hb211 (xq Z Z Z Z (xp (bd (s171 ≤ 9223372036854775808)) Z Z (pe Z) (xz (bd (s171 ≤ 9223372036854775808)) Z (xy Z (xe ?_)))))
 subst h
 exact ⟨(), wi [] Z⟩
 replace h := ite_fb hb211 h
 refine aops_known 63 Z hb211 (xu Z (xu Z (xz (.bool false) Z (xy Z (xe ?_)))))
 subst h
 exact ⟨(), wi [] Z⟩
 intro _
 have h := h209
 refine aw_cond (b := s208) (tm Z) (fun hb218 => ?_) (fun hb218 => ?_)
 replace h := ite_t hb218 h
 refine xr (xy Z (xa (.i (w64 s171)) Z (pu_conv Z underlying39 underlying2 (tm Z)) (xa (.i (w64 (0 - (w64 s171)))) Z (pu_neg Z (tm Z)) (xy Z (xz (.bool true) Z (xe (aw_ret ?_)))))))
 cases h
 exact rt ⟨Z, Z⟩ Z w0
 replace h := ite_fb hb218 h
 obtain ⟨s213, s213e, h214⟩ := letO_of h
 refine aw_meet (ν := Unit) (fun v => [(6, .int .u64 s171), (70, .bool s213)]) (fun v => []) ?_ ?_
 have h := s213e.symm
 refine aw_region (xy Z (xy Z ?_))
 rcases Bool.eq_false_or_eq_true s113 with hb216 | hb216
 replace h := ite_t hb216 h
 refine aops_known 72 Z hb216 (xu Z (xu Z (xz (.bool true) Z (xy Z (xe ?_)))))
 subst h
 exact ⟨(), wi [] Z⟩
 replace h := ite_fb hb216 h
 refine aops_known 72 Z hb216 (xq Z Z Z Z (xp (bd (9223372036854775808 ≤ s171)) Z Z (pe Z) (xz (bd (9223372036854775808 ≤ s171)) Z (xy Z (xe ?_)))))
 subst h
 exact ⟨(), wi [] Z⟩
 intro _
 have h := h214
 refine aw_cond (b := s213) (tm Z) (fun hb217 => ?_) (fun hb217 => ?_)
 replace h := ite_t hb217 h
 refine xr (xz (.i 0) Z (xz (.bool false) Z (xe (aw_ret ?_))))
 cases h
 exact rt ⟨Z, Z⟩ Z w0
 replace h := ite_fb hb217 h
 refine aw_skip (xr (xy Z (xa (.i (w64 s171)) Z (pu_conv Z underlying39 underlying2 (tm Z)) (xy Z (xz (.bool true) Z (xe (aw_ret ?_)))))))
 cases h
 exact rt ⟨Z, Z⟩ Z w0
 have h := s219e
 refine xr (xy Z (xa (.i (s120.length : Int)) Z (pu_strLen Z underlying9 (tm Z)) (xz (.i 0) Z (xe (aw_block (aw_while (σ := num.Parse.S0) (ν := Unit) (num.Parse.body0 s120) (fun s194 v => [(4, .bool s113), (5, .str s120), (6, .int .u64 s194.n), (41, .i (s120.length : Int)), (42, .i s194.t42)]) (fun s194 v => []) ⟨0, 0⟩ () _ h (wi [] Z) ?_))))))
 rintro s194 _ x196 h hx195
 unfold num.Parse.body0 at h
 refine xr (xz (bd (s194.t42 < (s120.length : Int))) Z (xe (aw_seq (cd h Z (fun _ h => ?_) (fun _ h => ?_)))))
 refine aw_skip (aw_seq (aw_block (xr (xy Z (xy Z (xe (aw_seq (aw_region ?_))))))))
 refine xy Z (xy Z ?_)
 obtain ⟨c198, h⟩ := need_of h
 refine xa (.int .u8 (bix s120 s194.t42)) Z (pu_strIdxM Z underlying9 (tm Z) (tm Z) c198) (xy Z (xe (aw_seq ?_)))
 obtain ⟨s200, s200e, h201⟩ := letO_of h
 refine aw_meet (ν := Unit) (fun v => [(4, .bool s113), (5, .str s120), (6, .int .u64 s194.n), (8, .int .u8 (bix s120 s194.t42)), (41, .i (s120.length : Int)), (42, .i s194.t42), (53, .bool s200)]) (fun v => []) ?_ ?_
 have h := s200e.symm
 refine aw_region (xy Z (xz (bd ((bix s120 s194.t42) < 48)) Z (xy Z ?_)))
 rcases Bool.eq_false_or_eq_true (decide ((bix s120 s194.t42) < 48)) with hb203 | hb203
 replace h := ite_t (dec_t hb203) h
 refine aops_known 50 Z hb203 (xu Z (xu Z (xz (.bool true) Z (xe ?_))))
 subst h
 exact ⟨(), wi [] Z⟩
 replace h := ite_f (dec_f hb203) h
 refine aops_known 50 Z hb203 (xq Z Z Z Z (xp (bd (57 < (bix s120 s194.t42))) Z Z (pe Z) (xz (bd (57 < (bix s120 s194.t42))) Z (xe ?_))))
 subst h
 exact ⟨(), wi [] Z⟩
 intro _
 have h := h201
 refine aw_cond (b := s200) (tm Z) (fun hb205 => ?_) (fun hb205 => ?_)
 replace h := ite_t hb205 h
 refine xr (xz (.i 0) Z (xz (.bool false) Z (xe (aw_ret ?_))))
 cases h
 cases congrArg some (hx195 _ rfl)
 cases onSum_inr h172
 exact rt ⟨Z, Z⟩ Z w0
 replace h := ite_fb hb205 h
 refine aw_skip (aw_region (xy Z (xz (.int .u64 (IntKind.wrap .u64 (s194.n * 10))) Z (xy Z (xz (.int .u8 (IntKind.wrap .u8 ((bix s120 s194.t42) - 48))) Z (xa (.int .u64 (IntKind.wrap .u64 (IntKind.wrap .u8 ((bix s120 s194.t42) - 48)))) Z (pu_conv Z underlying5 underlying39 (tm Z)) ?_))))))
 obtain ⟨x204, x204e, h⟩ := letO_of h
 refine xa (.int .u64 x204) Z (APure.eq (pe Z) (congrArg (AV.int .u64) x204e.symm)) (xy Z (xe (aw_region (xz (.i (w64 (s194.t42 + 1))) Z (xy Z (xe ?_))))))
 cases h
 exact ⟨_, (), Z, wi [] Z⟩
 refine aw_exit ?_
 cases h
 have h := congrArg some (hx195 _ rfl)
 exact ⟨s194.n, (), (some_of h).symm, wi [] Z⟩

theorem table.command.ok {of r_ r} (h : table.command of r_ = some r) : Sp prog 20 [.i of, .agg (table.row.ct r_)] [] (fun v H => v = .agg [.str r.Name, .i r.Arity, .i r.Of, .bool r.Write, .bool r.Grow, .bool r.Free, .i r.Keys, .i r.First, .i r.Last, .i r.Step] ∧ H = []) := by
 unfold table.command at h
 refine sb [.cell 4 23] func20 Z (xr (xb (table.row.ct r_) Z fun p30 => xA (.agg [.str nS, .i 0, .i 0, .bool false, .bool false, .bool false, .i 0, .i 0, .i 0, .i 0]) zeroValue23 Z fun p31 => xe (aw_seq ?_)))
 obtain ⟨r32, r32e, h⟩ := bind_some h
 obtain ⟨r33, r33e, h⟩ := bind_some h
 obtain ⟨r34, r34e, h⟩ := bind_some h
 refine aw_reserve fun p35 => (aw_planR (by decide +kernel) [[], [(2, 0, false)], [], [(2, 0, false)], [], [], [(2, 0, false)], [], [], [(2, 0, false)], [], [], [(2, 0, false)], [], [], [(0, 0, true)], [(0, 1, true)]] [[15, 16], [], []] [[[(p35, .resv)], [(p35, .cells [.str nS, .i 0, .i 0, .bool false, .bool false, .bool false, .i 0, .i 0, .i 0, .i 0])], [(p35, .cells [.str r_.name, .i r_.arity, .i of, .bool r32, .bool r33, .bool r34, .i 0, .i 0, .i 0, .i 0])]], [[(p31, .cells [.str nS, .i 0, .i 0, .bool false, .bool false, .bool false, .i 0, .i 0, .i 0, .i 0])]], [[(p30, .cells (table.row.ct r_))]]] [.ptr p30 0, .str r_.name, .ptr p30 1, .i r_.arity, .i of, .ptr p30 2, .str r_.is, .bool r32, .ptr p30 2, .str r_.is, .bool r33, .ptr p30 2, .str r_.is, .bool r34, .agg [.str r_.name, .i r_.arity, .i of, .bool r32, .bool r33, .bool r34, .i 0, .i 0, .i 0, .i 0], .ptr p35 0, .un] (by decide +kernel) Z Z ?_ ?_)
 exact ⟨yp Z (fa Z underlying45 Z sizeOf9 Z Z Z), stepg_plain Z (op_load1 (i := 0) Z isAgg9 (tm Z) Z Z ⟨Z, Z⟩), yp Z (fa Z underlying45 Z sizeOf3 Z Z Z), stepg_plain Z (op_load1 (i := 0) Z isAgg3 (tm Z) Z Z ⟨Z, Z⟩), ym Z Z Z, yp Z (fa Z underlying45 Z sizeOf9 Z Z Z), stepg_plain Z (op_load1 (i := 0) Z isAgg9 (tm Z) Z Z ⟨Z, Z⟩), stepg_plain Z (op_call (vs := [.str r_.is, .str [119]]) (H := []) Z call35 ⟨(tm Z), (AEv.const Z), trivial⟩ (R := []) (List.Perm.refl _) (strings.Contains.ok r32e) (by rintro _ _ ⟨rfl, rfl⟩; exact ⟨Z, Z⟩)), yp Z (fa Z underlying45 Z sizeOf9 Z Z Z), stepg_plain Z (op_load1 (i := 0) Z isAgg9 (tm Z) Z Z ⟨Z, Z⟩), stepg_plain Z (op_call (vs := [.str r_.is, .str [103]]) (H := []) Z call35 ⟨(tm Z), (AEv.const Z), trivial⟩ (R := []) (List.Perm.refl _) (strings.Contains.ok r33e) (by rintro _ _ ⟨rfl, rfl⟩; exact ⟨Z, Z⟩)), yp Z (fa Z underlying45 Z sizeOf9 Z Z Z), stepg_plain Z (op_load1 (i := 0) Z isAgg9 (tm Z) Z Z ⟨Z, Z⟩), stepg_plain Z (op_call (vs := [.str r_.is, .str [102]]) (H := []) Z call35 ⟨(tm Z), (AEv.const Z), trivial⟩ (R := []) (List.Perm.refl _) (strings.Contains.ok r34e) (by rintro _ _ ⟨rfl, rfl⟩; exact ⟨Z, Z⟩)), yp Z (pu_build (zs := [.str nS, .i 0, .i 0, .bool false, .bool false, .bool false, .i 0, .i 0, .i 0, .i 0]) (szs := [1, 1, 1, 1, 1, 1, 1, 1, 1, 1]) (aparts := [(0, .str r_.name), (1, .i r_.arity), (2, .i of), (3, .bool r32), (4, .bool r33), (5, .bool r34)]) (cs := [.str r_.name, .i r_.arity, .i of, .bool r32, .bool r33, .bool r34, .i 0, .i 0, .i 0, .i 0]) Z underlying23 zeroValue23 Z ⟨sizeOf9, sizeOf3, sizeOf3, sizeOf4, sizeOf4, sizeOf4, sizeOf3, sizeOf3, sizeOf3, sizeOf3, trivial⟩ ⟨Z, (tm Z), ⟨Z, (tm Z), ⟨Z, (tm Z), ⟨Z, (tm Z), ⟨Z, (tm Z), ⟨Z, (tm Z), trivial⟩⟩⟩⟩⟩⟩ Z), stepg_plain Z (aop_settleP (op_alloc (cs := [.str nS, .i 0, .i 0, .bool false, .bool false, .bool false, .i 0, .i 0, .i 0, .i 0]) (v := .agg [.str nS, .i 0, .i 0, .bool false, .bool false, .bool false, .i 0, .i 0, .i 0, .i 0]) Z zeroValue23 Z Z Z fun t => ⟨t, Z, Z⟩) ⟨Z, Z⟩), stepg_plain Z (op_store (i := 0) (cs' := [.str r_.name, .i r_.arity, .i of, .bool r32, .bool r33, .bool r34, .i 0, .i 0, .i 0, .i 0]) Z sizeOf23 (tm Z) (v := .agg [.str r_.name, .i r_.arity, .i of, .bool r32, .bool r33, .bool r34, .i 0, .i 0, .i 0, .i 0]) (tm Z) Z Z Z (nb Z) Z ⟨Z, Z⟩), trivial⟩
 obtain ⟨s46, s46e, h47⟩ := bind_some h
 refine aw_meet (ν := Unit) (fun v => [(4, .ptr p31 0), (5, .ptr p35 0)]) (fun v => [(p31, .cells [.str nS, .i 0, .i 0, .bool false, .bool false, .bool false, .i 0, .i 0, .i 0, .i 0]), (p35, .cells [.str r_.name, .i r_.arity, .i of, .bool r32, .bool r33, .bool r34, .i s46.1, .i s46.2.1, .i s46.2.2.1, .i s46.2.2.2])]) ?_ ?_
 have h := s46e
 refine xr (xf (.ptr p30 3) underlying45 sizeOf9 Z (xl 2 isAgg9 Z (xe (aw_block (xr (xa (bd (r_.keys = nS)) Z (pu_str (v := bd (r_.keys = nS)) Z Z (tm Z) (AEv.const Z) Z) (xy Z ?_)))))))
 refine xe (cd h Z (fun _ h => ?_) (fun _ h => ?_))
 refine aw_skip ?_
 cases h
 exact ⟨(), wi [1, 0] Z⟩
 refine xr (xa (bd (r_.keys = [99, 111, 117, 110, 116, 101, 100, 32, 50])) Z (pu_str (v := bd (r_.keys = [99, 111, 117, 110, 116, 101, 100, 32, 50])) Z Z (tm Z) (AEv.const Z) Z) (xy Z (xe (cd h Z (fun _ h => ?_) (fun _ h => ?_)))))
 refine aw_region (xf (.ptr p35 6) underlying23 sizeOf3 Z (xs 0 [.str r_.name, .i r_.arity, .i of, .bool r32, .bool r33, .bool r34, .i 2, .i 0, .i 0, .i 0] sizeOf3 Z (xe ?_)))
 cases h
 exact ⟨(), wi [1, 0] Z⟩
 refine xr (xa (bd (r_.keys = [99, 111, 117, 110, 116, 101, 100, 32, 49])) Z (pu_str (v := bd (r_.keys = [99, 111, 117, 110, 116, 101, 100, 32, 49])) Z Z (tm Z) (AEv.const Z) Z) (xy Z (xe (cd h Z (fun _ h => ?_) (fun _ h => ?_)))))
 refine aw_region (xf (.ptr p35 6) underlying23 sizeOf3 Z (xs 0 [.str r_.name, .i r_.arity, .i of, .bool r32, .bool r33, .bool r34, .i 3, .i 0, .i 0, .i 0] sizeOf3 Z (xe ?_)))
 cases h
 exact ⟨(), wi [1, 0] Z⟩
 refine xr (xf (.ptr p30 3) underlying45 sizeOf9 Z (xl 2 isAgg9 Z ?_))
 obtain ⟨r49, r49e, h⟩ := bind_some h
 refine xo (strings.Fields.ok r49e) call36 Z (xy Z (xe (xr (xy Z ?_))))
 obtain ⟨c50, h⟩ := need_of h
 refine xa (.vptr [.str (ix r49 0)]) Z (pu_indexAddrM Z underlying31 sizeOf9 (tm Z) (AEv.int _ _) c50 Z) (xc Z (op_loadV1 Z isAgg9 (tm Z) Z ?_))
 obtain ⟨r51, r51e, h⟩ := bind_some h
 refine xo (num.Parse.ok r51e) call37 Z (xy Z (xz (.i r51.1) Z (xz (.bool r51.2) Z (xy Z (xy Z (xe (xr (xy Z ?_))))))))
 obtain ⟨c52, h⟩ := need_of h
 refine xa (.vptr [.str (ix r49 1)]) Z (pu_indexAddrM Z underlying31 sizeOf9 (tm Z) (AEv.int _ _) c52 Z) (xc Z (op_loadV1 Z isAgg9 (tm Z) Z ?_))
 obtain ⟨r53, r53e, h⟩ := bind_some h
 refine xo (num.Parse.ok r53e) call37 Z (xy Z (xz (.i r53.1) Z (xz (.bool r53.2) Z (xy Z (xy Z (xe (xr (xy Z ?_))))))))
 obtain ⟨c54, h⟩ := need_of h
 refine xa (.vptr [.str (ix r49 2)]) Z (pu_indexAddrM Z underlying31 sizeOf9 (tm Z) (AEv.int _ _) c54 Z) (xc Z (op_loadV1 Z isAgg9 (tm Z) Z ?_))
 obtain ⟨r55, r55e, h⟩ := bind_some h
 refine xo (num.Parse.ok r55e) call37 Z (xy Z (xz (.i r55.1) Z (xz (.bool r55.2) Z (xy Z (xy Z (xe (aw_region (xy Z (xy Z (xy Z ?_))))))))))
 refine xf (.ptr p35 6) underlying23 sizeOf3 Z (xs 0 [.str r_.name, .i r_.arity, .i of, .bool r32, .bool r33, .bool r34, .i 1, .i 0, .i 0, .i 0] sizeOf3 Z (xf (.ptr p35 7) underlying23 sizeOf3 Z (xs 0 [.str r_.name, .i r_.arity, .i of, .bool r32, .bool r33, .bool r34, .i 1, .i r51.1, .i 0, .i 0] sizeOf3 Z (xf (.ptr p35 8) underlying23 sizeOf3 Z (xs 0 [.str r_.name, .i r_.arity, .i of, .bool r32, .bool r33, .bool r34, .i 1, .i r51.1, .i r53.1, .i 0] sizeOf3 Z (xf (.ptr p35 9) underlying23 sizeOf3 Z (xs 0 [.str r_.name, .i r_.arity, .i of, .bool r32, .bool r33, .bool r34, .i 1, .i r51.1, .i r53.1, .i r55.1] sizeOf3 Z (xe ?_))))))))
 cases h
 exact ⟨(), wi [1, 0] Z⟩
 intro _
 have h := h47
 refine xr (xL 1 isAgg23 sizeOf23 Z (xs 0 [.str r_.name, .i r_.arity, .i of, .bool r32, .bool r33, .bool r34, .i s46.1, .i s46.2.1, .i s46.2.2.1, .i s46.2.2.2] sizeOf23 Z (xe (aw_ret ?_))))
 cases h
 exact rq [.agg [.str r_.name, .i r_.arity, .i of, .bool r32, .bool r33, .bool r34, .i s46.1, .i s46.2.1, .i s46.2.2.1, .i s46.2.2.2]] ⟨Z, Z⟩ vr ⟨(CellOk.agg 0 (tm Z) Z isAgg23 sizeOf23 (nb Z) Z), trivial⟩ w0

theorem table.Find.ok {name r} (h : table.Find name = some r) : Sp prog 8 [.str name] [] (fun v H => v = .tup [.agg [.str r.1.Name, .i r.1.Arity, .i r.1.Of, .bool r.1.Write, .bool r.1.Grow, .bool r.1.Free, .i r.1.Keys, .i r.1.First, .i r.1.Last, .i r.1.Step], .bool r.2] ∧ H = []) := by
 unfold table.Find at h
 refine sb [.cell 2 23, .tmp 3] func8 Z (xr (xA (.agg [.str nS, .i 0, .i 0, .bool false, .bool false, .bool false, .i 0, .i 0, .i 0, .i 0]) zeroValue23 Z fun p313 => xz (.bool false) Z (xe (xr (xy Z ?_)))))
 obtain ⟨r314, r314e, h⟩ := bind_some h
 refine xo (table.Upper.ok r314e) call12 Z (xy Z (xe ?_))
 obtain ⟨s624, s624e, h469⟩ := bind_some h
 refine aw_join (σ := Unit) (ν := Unit) (fun u v => [(2, .ptr p313 0)]) (fun u v => [(p313, .cells [.str nS, .i 0, .i 0, .bool false, .bool false, .bool false, .i 0, .i 0, .i 0, .i 0])]) (fun u => s624 = .inl u) ?_ ?_
 intro s468
 intro _
 rintro rfl
 have h := onSum_inl h469
 refine xr (xa (.agg [.str nS, .i 0, .i 0, .bool false, .bool false, .bool false, .i 0, .i 0, .i 0, .i 0]) Z (pu_build (zs := [.str nS, .i 0, .i 0, .bool false, .bool false, .bool false, .i 0, .i 0, .i 0, .i 0]) (szs := [1, 1, 1, 1, 1, 1, 1, 1, 1, 1]) (aparts := []) (cs := [.str nS, .i 0, .i 0, .bool false, .bool false, .bool false, .i 0, .i 0, .i 0, .i 0]) Z underlying23 zeroValue23 Z ⟨sizeOf9, sizeOf3, sizeOf3, sizeOf4, sizeOf4, sizeOf4, sizeOf3, sizeOf3, sizeOf3, sizeOf3, trivial⟩ trivial Z) (xs 0 [.str nS, .i 0, .i 0, .bool false, .bool false, .bool false, .i 0, .i 0, .i 0, .i 0] sizeOf23 Z (xz (.bool false) Z (xe (aw_ret ?_)))))
 cases h
 exact rq [.agg [.str nS, .i 0, .i 0, .bool false, .bool false, .bool false, .i 0, .i 0, .i 0, .i 0], .bool false] ⟨Z, Z⟩ (AV.Le.tup cr) ⟨(CellOk.agg 0 (tm Z) Z isAgg23 sizeOf23 (nb Z) Z), (tm Z), trivial⟩ w0
 have h := s624e
 refine xr (xz (.i 1) Z (xe (aw_block (aw_while (σ := table.Find.S0) (ν := Unit) (table.Find.body0 r314) (fun s571 v => [(0, .str r314), (2, .ptr p313 0), (4, .i s571.of)]) (fun s571 v => [(p313, .cells [.str nS, .i 0, .i 0, .bool false, .bool false, .bool false, .i 0, .i 0, .i 0, .i 0])]) ⟨1⟩ () _ h (wi [0] Z) ?_))))
 rintro s571 _ x573 h hx572
 unfold table.Find.body0 at h
 refine aw_seq (xr (xy Z (xz (bd (s571.of ≤ 7)) Z (xe (cd h Z (fun _ h => ?_) (fun _ h => ?_))))))
 refine aw_skip ?_
 obtain ⟨s622, s622e, h598⟩ := bind_some h
 refine aw_join (σ := Unit) (ν := Unit) (fun u v => [(0, .str r314), (2, .ptr p313 0), (4, .i s571.of)]) (fun u v => [(p313, .cells [.str nS, .i 0, .i 0, .bool false, .bool false, .bool false, .i 0, .i 0, .i 0, .i 0])]) (fun u => s622 = .inl u) ?_ ?_
 intro s597
 intro _
 rintro rfl
 have h := onSum_inl h598
 refine aw_region (xy Z (xz (.i (w64 (s571.of + 1))) Z (xy Z (xe ?_))))
 cases h
 exact ⟨_, (), Z, wi [0] Z⟩
 have h := s622e
 refine aw_block (xr (xy Z ?_))
 obtain ⟨r600, r600e, h⟩ := bind_some h
 refine xo (table.rows.ok r600e) call19 Z (xa (.i (r600.length : Int)) Z (pu_lenM Z underlying42 (tm Z)) (xz (.i 0) Z (xe (aw_block (aw_while (σ := table.Find.S2) (ν := Unit) (table.Find.body2 r600 r314 s571) (fun s613 v => [(0, .str r314), (2, .ptr p313 0), (4, .i s571.of), (14, .sl .full 4 (m1L r600)), (15, .i (r600.length : Int)), (16, .i s613.t16)]) (fun s613 v => [(p313, .cells [.str nS, .i 0, .i 0, .bool false, .bool false, .bool false, .i 0, .i 0, .i 0, .i 0])]) ⟨0⟩ () _ h (wi [0] Z) ?_)))))
 rintro s613 _ x615 h hx614
 unfold table.Find.body2 at h
 refine xr (xz (bd (s613.t16 < (r600.length : Int))) Z (xe (aw_seq (cd h Z (fun _ h => ?_) (fun _ h => ?_)))))
 refine aw_skip (aw_seq (aw_block (aw_seq (aw_region ?_))))
 obtain ⟨c617, h⟩ := need_of h
 refine xa (.vptr [.str (ix r600 s613.t16).name, .i (ix r600 s613.t16).arity, .str (ix r600 s613.t16).is, .str (ix r600 s613.t16).keys]) Z (pu_indexAddrM Z underlying42 sizeOf45 (tm Z) (tm Z) c617 Z) (xc Z (op_loadVN Z isAgg45 sizeOf45 (tm Z) (nb Z) Z (xA (.agg [.str nS, .i 0, .str nS, .str nS]) zeroValue45 Z fun p618 => xs 0 (table.row.ct (ix r600 s613.t16)) sizeOf45 Z (xe (xr (xf (.ptr p618 0) underlying45 sizeOf9 Z (xl 0 isAgg9 Z (xy Z (xa (bd ((ix r600 s613.t16).name = r314)) Z (pu_str (v := bd ((ix r600 s613.t16).name = r314)) Z Z (tm Z) (tm Z) Z) (xe (cd h Z (fun _ h => ?_) (fun _ h => ?_))))))))))))
 refine xr (xy Z (xL 0 isAgg45 sizeOf45 Z ?_))
 obtain ⟨r619, r619e, h⟩ := bind_some h
 refine xo (table.command.ok r619e) call20 Z (xs 1 (api.Command.ct r619) sizeOf23 Z (xz (.bool true) Z (xe (aw_ret ?_))))
 cases h
 cases congrArg some (hx614 _ rfl)
 cases onSum_inr h598
 cases congrArg some (hx572 _ rfl)
 cases onSum_inr h469
 exact rq [.agg (api.Command.ct r619), .bool true] ⟨Z, Z⟩ (AV.Le.tup cr) ⟨(CellOk.agg 1 (tm Z) Z isAgg23 sizeOf23 (nb Z) Z), (tm Z), trivial⟩ w0
 refine aw_skip (aw_region (xz (.i (w64 (s613.t16 + 1))) Z (xy Z (xe ?_))))
 cases h
 exact ⟨_, (), Z, wi [1] Z⟩
 refine aw_exit ?_
 cases h
 have h := congrArg some (hx614 _ rfl)
 exact ⟨(), (), (some_of h).symm, wi [0] Z⟩
 refine aw_exit ?_
 cases h
 have h := congrArg some (hx572 _ rfl)
 exact ⟨(), (), (some_of h).symm, wi [0] Z⟩

theorem table.Fits.ok {c_ n_ r} (h : table.Fits c_ n_ = some r) : Sp prog 10 [.agg (api.Command.ct c_), .i n_] [] (fun v H => v = .bool r ∧ H = []) := by
 unfold table.Fits at h
 refine sb [.tmp 4] func10 Z (xr (xb (api.Command.ct c_) Z fun p8 => xz (.bool false) Z (xe (aw_seq (xr (xf (.ptr p8 1) underlying23 sizeOf3 Z (xl 0 isAgg3 Z (xz (bd (c_.Arity < 0)) Z (xe (cd h Z (fun _ h => ?_) (fun _ h => ?_)))))))))))
 obtain ⟨s10, s10e, h11⟩ := letO_of h
 refine aw_meet (ν := Unit) (fun v => [(4, .bool s10)]) (fun v => []) ?_ ?_
 have h := s10e.symm
 refine aw_region (xy Z (xz (bd (0 ≤ n_)) Z (xy Z ?_)))
 rcases Bool.eq_false_or_eq_true (decide (0 ≤ n_)) with hb13 | hb13
 replace h := ite_t (dec_t hb13) h
 refine aops_known 10 Z hb13 (xq Z Z Z Z (xp (.i (w64 (0 - n_))) Z Z (pu_neg Z (tm Z)) (xp (.ptr p8 1) Z Z (fa Z underlying23 Z sizeOf3 Z Z Z) (xg Z Z (op_load1 (i := 0) Z isAgg3 (tm Z) Z Z (xp (bd ((w64 (0 - n_)) ≤ c_.Arity)) Z Z (pe Z) (xz (bd ((w64 (0 - n_)) ≤ c_.Arity)) Z (xy Z (xe ?_)))))))))
 subst h
 exact ⟨(), wi [] Z⟩
 replace h := ite_f (dec_f hb13) h
 refine aops_known 10 Z hb13 (xu Z (xu Z (xu Z (xu Z (xu Z (xz (.bool false) Z (xy Z (xe ?_))))))))
 subst h
 exact ⟨(), wi [] Z⟩
 intro _
 have h := h11
 refine aw_ret ?_
 cases h
 exact rt ⟨Z, Z⟩ Z w0
 refine aw_skip (xr (xy Z (xf (.ptr p8 1) underlying23 sizeOf3 Z (xl 0 isAgg3 Z (xz (bd (n_ = c_.Arity)) Z (xy Z (xe (aw_ret ?_))))))))
 cases h
 exact rt ⟨Z, Z⟩ Z w0

theorem table.places.ok {c_ n_ r} (h : table.places c_ n_ = some r) : Sp prog 21 [.agg (api.Command.ct c_), .i n_] [] (fun v H => ∃ n0 n1, v = .fn 38 [.ptr n0 0, .ptr n1 0] ∧ H = [(n0, .cells [.str r.1.Name, .i r.1.Arity, .i r.1.Of, .bool r.1.Write, .bool r.1.Grow, .bool r.1.Free, .i r.1.Keys, .i r.1.First, .i r.1.Last, .i r.1.Step]), (n1, .cells [.i r.2])]) := by
 unfold table.places at h
 refine sb [.tmp 4] func21 Z (xr (xb (api.Command.ct c_) Z fun p2 => xb [.i n_] Z fun p3 => xa (.lit .nilFunc) Z (pu_assign Z (AEv.lit _)) (xe (xr (xa (.fn 38 [.ptr p2 0, .ptr p3 0]) Z (pu_makeFunc Z ⟨(tm Z), (tm Z), trivial⟩) (xy Z (xe (aw_ret ?_))))))))
 cases h
 exact rq [.fn 38 [.ptr p2 0, .ptr p3 0]] ⟨p2, p3, Z, Z⟩ vr ⟨tm Z, trivial⟩ (wi [1, 0] Z)

theorem places1_iter {c0 c1 c2 c3 c4 c5 c6 : AV} {first last0 step n : Int} {xs : List Int} (hx0 : table.places_1 first last0 step n = some xs) (oc on : Nat) :
    IterOk prog 38 [.ptr oc 0, .ptr on 0] [(oc, .cells [c0, c1, c2, c3, c4, c5, c6, .int .i64 first, .int .i64 last0, .int .i64 step]), (on, .cells [.int .i64 n])] (AV.int .i64) xs := by
  obtain ⟨k, hx⟩ := fixO_some hx0
  intro l lb J hlb hA hDr hY g W h0
  obtain ⟨⟨E, F, hr⟩, hrd⟩ := hA [] g W h0
  match lb, hlb with
  | ⟨[p1, p2]⟩, _ =>
  have r1 : Reads g W p1 (.ptr oc 0) := hrd 0 (by simp)
  have r2 : Reads g W p2 (.ptr on 0) := hrd 1 (by simp)
  obtain ⟨b1, rfl, _⟩ := cells_at hr (List.mem_append_left F (List.mem_cons_self ..)) r1
  obtain ⟨b2, rfl, _⟩ := cells_at hr (List.mem_append_left F (List.mem_cons_of_mem _ (List.mem_cons_self ..))) r2
  have hc : ∀ pre g W, J pre g W → W.cell? ⟨b1, 7, none⟩ = some (.int .i64 first) ∧ W.cell? ⟨b1, 8, none⟩ = some (.int .i64 last0) ∧ W.cell? ⟨b1, 9, none⟩ = some (.int .i64 step) ∧ W.cell? ⟨b2, 0, none⟩ = some (.int .i64 n) := by
    intro pre g W hJ
    obtain ⟨⟨E, F, hr⟩, hrd⟩ := hA pre g W hJ
    have r1 : Reads g W (.pointer (some ⟨b1, 0, none⟩)) (.ptr oc 0) := hrd 0 (by simp)
    have r2 : Reads g W (.pointer (some ⟨b2, 0, none⟩)) (.ptr on 0) := hrd 1 (by simp)
    obtain ⟨b1', e1, k1⟩ := cells_at hr (List.mem_append_left F (List.mem_cons_self ..)) r1
    obtain ⟨b2', e2, k2⟩ := cells_at hr (List.mem_append_left F (List.mem_cons_of_mem _ (List.mem_cons_self ..))) r2
    cases e1; cases e2
    obtain ⟨u7, m7, q7⟩ := k1 7 (by simp)
    obtain ⟨u8, m8, q8⟩ := k1 8 (by simp)
    obtain ⟨u9, m9, q9⟩ := k1 9 (by simp)
    obtain ⟨u0, m0, q0⟩ := k2 0 (by simp)
    rw [m7, m8, m9, m0, reads_int q7, reads_int q8, reads_int q9, reads_int q0]
    exact ⟨rfl, rfl, rfl, rfl⟩
  obtain ⟨c7, c8, c9, cn⟩ := hc [] g W h0
  show CallsIn Fence.wide 8 prog 38 #[.func (.yield l) #[] #[], .pointer (some ⟨b1, 0, none⟩), .pointer (some ⟨b2, 0, none⟩)] W _
  refine callsIn_of_wp func38 rfl trivial ?_ rfl
  simp only [ntmps38, List.size_toArray, List.length_cons, List.length_nil, Nat.reduceAdd, Nat.reduceSub, Array.replicate_succ, Array.replicate_zero, List.push_toArray, List.append_toArray, List.nil_append, List.cons_append]
  by_cases hneg : last0 < 0
  · rw [if_pos hneg] at hx
    gi_wp2
    gi_loopw [5] (fun p wr => ∃ (pre rest : List Int) (k : Nat) (g' : Gh) (i : Int), p = .int .i64 i ∧ xs = pre ++ rest ∧ placesL (IntKind.wrap .i64 (last0 + n)) step k i = some rest ∧ J pre g' wr) (fun p wr => plLen (IntKind.wrap .i64 (last0 + n)) step p)
    case atStart => exact ⟨[], xs, k, g, first, rfl, rfl, hx, h0⟩
    case round =>
      obtain ⟨pre, rest, k', g', i, rfl, hxs, hp, hJ⟩ := hrel
      obtain ⟨d7, d8, d9, dn⟩ := hc pre g' _ hJ
      have hlen := plLen_eq (q := .i64) hp
      cases k' with
      | zero => cases hp
      | succ k' =>
        rw [placesL] at hp
        by_cases hle : i ≤ (IntKind.wrap .i64 (last0 + n))
        · rw [if_pos hle] at hp
          obtain ⟨rest', hp', rfl⟩ := Option.map_eq_some_iff.1 hp
          obtain ⟨fn, tmps, assign, body, hy, hR⟩ := hY pre i rest' g' _ (.int .i64 i) hxs hJ (.int _ _)
          rw [wrapz_eq] at hle
          gi_wp2
          refine hR.mono ?_
          rintro e W3 ⟨rfl, g3, hJ3, hl3⟩
          obtain ⟨e7, e8, e9, en⟩ := hc _ _ _ hJ3
          gi_wp2
          go_roundw
          case rel => exact ⟨pre ++ [i], rest', k', g3, _, rfl, by rw [hxs]; simp, by rw [← wrapz_eq]; exact hp', hJ3⟩
          case measure =>
            rw [← wrapz_eq, plLen_eq hp', hlen]
            simp
        · rw [if_neg hle] at hp
          obtain rfl := Option.some.inj hp
          rw [wrapz_eq] at hle
          gi_wp2
          refine ⟨fun _ h => (by cases h), ?_⟩
          gi_wp2
          go_end0
          exact ⟨⟨_, rfl⟩, g', by rw [hxs, List.append_nil]; exact hJ⟩
  · rw [if_neg hneg] at hx
    gi_wp2
    gi_loopw [5] (fun p wr => ∃ (pre rest : List Int) (k : Nat) (g' : Gh) (i : Int), p = .int .i64 i ∧ xs = pre ++ rest ∧ placesL last0 step k i = some rest ∧ J pre g' wr) (fun p wr => plLen last0 step p)
    case atStart => exact ⟨[], xs, k, g, first, rfl, rfl, hx, h0⟩
    case round =>
      obtain ⟨pre, rest, k', g', i, rfl, hxs, hp, hJ⟩ := hrel
      obtain ⟨d7, d8, d9, dn⟩ := hc pre g' _ hJ
      have hlen := plLen_eq (q := .i64) hp
      cases k' with
      | zero => cases hp
      | succ k' =>
        rw [placesL] at hp
        by_cases hle : i ≤ last0
        · rw [if_pos hle] at hp
          obtain ⟨rest', hp', rfl⟩ := Option.map_eq_some_iff.1 hp
          obtain ⟨fn, tmps, assign, body, hy, hR⟩ := hY pre i rest' g' _ (.int .i64 i) hxs hJ (.int _ _)
          gi_wp2
          refine hR.mono ?_
          rintro e W3 ⟨rfl, g3, hJ3, hl3⟩
          obtain ⟨e7, e8, e9, en⟩ := hc _ _ _ hJ3
          gi_wp2
          go_roundw
          case rel => exact ⟨pre ++ [i], rest', k', g3, _, rfl, by rw [hxs]; simp, by rw [← wrapz_eq]; exact hp', hJ3⟩
          case measure =>
            rw [← wrapz_eq, plLen_eq hp', hlen]
            simp
        · rw [if_neg hle] at hp
          obtain rfl := Option.some.inj hp
          gi_wp2
          refine ⟨fun _ h => (by cases h), ?_⟩
          gi_wp2
          go_end0
          exact ⟨⟨_, rfl⟩, g', by rw [hxs, List.append_nil]; exact hJ⟩


theorem table.counted.ok {args at_ r} (h : table.counted args at_ = some r) : Sp prog 22 [.sl .no 1 (m2L args), .i at_] [] (fun v H => v = .tup [.i r.1, .bool r.2] ∧ H = []) := by
 unfold table.counted at h
 refine sb [.tmp 4, .tmp 5] func22 Z (xr (xz (.i 0) Z (xz (.bool false) Z (xe (xr (xy Z (xy Z ?_)))))))
 obtain ⟨c10, h⟩ := need_of h
 refine xa (.vptr [.str (ix args at_)]) Z (pu_indexAddrM Z underlying31 sizeOf9 (tm Z) (tm Z) c10 Z) (xc Z (op_loadV1 Z isAgg9 (tm Z) Z ?_))
 obtain ⟨r11, r11e, h⟩ := bind_some h
 refine xo (num.Parse.ok r11e) call37 Z (xy Z (xz (.i r11.1) Z (xz (.bool r11.2) Z (xy Z (xy Z (xe ?_))))))
 obtain ⟨s14, s14e, h15⟩ := letO_of h
 refine aw_meet (ν := Unit) (fun v => [(4, .i r11.1), (5, .bool s14)]) (fun v => []) ?_ ?_
 have h := s14e.symm
 refine aw_region (xy Z (xy Z (xy Z ?_)))
 rcases Bool.eq_false_or_eq_true r11.2 with hb17 | hb17
 replace h := ite_t hb17 h
 refine aops_known 18 Z hb17 (xq Z Z Z Z (xp (bd (1 ≤ r11.1)) Z Z (pe Z) (xz (bd (1 ≤ r11.1)) Z (xy Z ?_))))
 rcases Bool.eq_false_or_eq_true (decide (1 ≤ r11.1)) with hb18 | hb18
 replace h := ite_t (dec_t hb18) h
 refine aops_known 22 Z hb18 (xq Z Z Z Z (xq Z Z Z Z (xp (.i (args.length : Int)) Z Z (pu_lenM Z underlying31 (tm Z)) (xq Z Z Z Z (xp (.i (w64 ((args.length : Int) - at_))) Z Z (pe Z) (xp (.i (w64 ((w64 ((args.length : Int) - at_)) - 1))) Z Z (pe Z) (xp (bd (r11.1 ≤ (w64 ((w64 ((args.length : Int) - at_)) - 1)))) Z Z (pe Z) (xz (bd (r11.1 ≤ (w64 ((w64 ((args.length : Int) - at_)) - 1)))) Z (xy Z ?_)))))))))
 refine xy Z (xe ?_)
 subst h
 exact ⟨(), wi [] Z⟩
 replace h := ite_f (dec_f hb18) h
 refine aops_known 22 Z hb18 (xu Z (xu Z (xu Z (xu Z (xu Z (xu Z (xu Z (xz (.bool false) Z (xy Z ?_)))))))))
 refine xy Z (xe ?_)
 subst h
 exact ⟨(), wi [] Z⟩
 replace h := ite_fb hb17 h
 refine aops_known 18 Z hb17 (xu Z (xu Z (xz (.bool false) Z (xy Z (xu Z (xu Z (xu Z (xu Z (xu Z ?_)))))))))
 refine xu Z (xu Z (xz (.bool false) Z (xy Z (xy Z (xe ?_)))))
 subst h
 exact ⟨(), wi [] Z⟩
 intro _
 have h := h15
 refine aw_ret ?_
 cases h
 exact rt ⟨Z, Z⟩ Z w0

theorem table.Keys.ok {args r} (h : table.Keys args = some r) : Sp prog 14 [.sl .no 1 (m2L args)] [] (fun v H => ∃ n0, v = .tup [.sl (.own n0) 1 (m2L r.1), .bool r.2] ∧ H = [(n0, .spare)]) := by
 unfold table.Keys at h
 refine sb [.tmp 2, .tmp 3] func14 Z (xr (xb [.sl .no 1 (m2L args)] Z fun p125 => xa (.sl .full 1 e1L) Z (pu_assign Z (AEv.nil 1 (by decide))) (xz (.bool false) Z (xe (aw_seq (xr (xl 0 isAgg31 Z (xa (.i (args.length : Int)) Z (pu_lenM Z underlying31 (tm Z)) (xz (bd ((args.length : Int) = 0)) Z (xe ?_))))))))))
 refine aw_cond (b := decide ((args.length : Int) = 0)) (tm Z) (fun hb251 => ?_) (fun hb251 => ?_)
 replace h := ite_t (dec_t hb251) h
 refine xr (xa (.sl .full 1 e1L) Z (pu_assign Z (AEv.nil 1 (by decide))) (xz (.bool false) Z (xe (aw_claim 2 (tm Z) fun t126 => (aw_ret ?_)))))
 cases h
 exact rt ⟨t126, Z, Z⟩ Z (wi [0] Z)
 replace h := ite_f (dec_f hb251) h
 refine aw_skip (xr (xl 0 isAgg31 Z ?_))
 obtain ⟨c127, h⟩ := need_of h
 refine xa (.vptr [.str (ix args 0)]) Z (pu_indexAddrM Z underlying31 sizeOf9 (tm Z) (AEv.int _ _) c127 Z) (xc Z (op_loadV1 Z isAgg9 (tm Z) Z ?_))
 obtain ⟨r128, r128e, h⟩ := bind_some h
 refine xo (table.Find.ok r128e) call8 Z (xy Z (xz (.agg (api.Command.ct r128.1)) Z (xz (.bool r128.2) Z (xA (.agg [.str nS, .i 0, .i 0, .bool false, .bool false, .bool false, .i 0, .i 0, .i 0, .i 0]) zeroValue23 Z fun p129 => xs 0 (api.Command.ct r128.1) sizeOf23 Z (xy Z (xe (aw_seq ?_)))))))
 obtain ⟨s132, s132e, h133⟩ := bind_some h
 refine aw_meet (ν := Unit) (fun v => [(1, .ptr p125 0), (4, .ptr p129 0), (29, .bool s132)]) (fun v => [(p125, .cells [.sl .no 1 (m2L args)]), (p129, .cells (api.Command.ct r128.1))]) ?_ ?_
 have h := s132e
 refine aw_region (xy Z (xz (.bool (!r128.2)) Z (xy Z ?_)))
 rcases Bool.eq_false_or_eq_true (!r128.2) with hb135 | hb135
 replace h := ite_t hb135 h
 refine aops_known 23 Z hb135 (xu Z (xu Z (xu Z (xu Z (xu Z (xz (.bool true) Z (xe ?_)))))))
 cases h
 exact ⟨(), wi [1, 0] Z⟩
 replace h := ite_fb hb135 h
 refine aops_known 23 Z hb135 (xg Z Z (op_loadN (i := 0) Z isAgg23 sizeOf23 (tm Z) Z (nb Z) Z (xg Z Z (op_load1 (i := 1) Z isAgg31 (tm Z) Z Z (xp (.i (args.length : Int)) Z Z (pu_lenM Z underlying31 (tm Z)) ?_)))))
 obtain ⟨r136, r136e, h⟩ := bind_some h
 refine xg Z Z (op_call (vs := [.agg (api.Command.ct r128.1), .i (args.length : Int)]) (H := []) Z call10 ⟨(tm Z), (tm Z), trivial⟩ (List.Perm.refl _) (table.Fits.ok r136e) ?_)
 rintro _ _ ⟨rfl, rfl⟩
 refine xp (.bool (!r136)) Z Z (pe Z) (xz (.bool (!r136)) Z (xe ?_))
 cases h
 exact ⟨(), wi [1, 0] Z⟩
 intro _
 have h := h133
 refine aw_cond (b := s132) (tm Z) (fun hb250 => ?_) (fun hb250 => ?_)
 replace h := ite_t hb250 h
 refine xr (xa (.sl .full 1 e1L) Z (pu_assign Z (AEv.nil 1 (by decide))) (xz (.bool false) Z (xe (aw_claim 2 (tm Z) fun t137 => (aw_ret ?_)))))
 cases h
 exact rt ⟨t137, Z, Z⟩ Z (wi [0] Z)
 replace h := ite_fb hb250 h
 refine aw_skip (xr (xA (.sl .full 1 e1L) zeroValue31 Z fun p138 => xe ?_))
 obtain ⟨s249, s249e, h193⟩ := bind_some h
 refine aw_join (σ := List (List UInt8)) (ν := Nat) (fun u v => [(6, .ptr p138 0)]) (fun u v => [(p138, .cells [.sl (.own v) 1 (m2L u)]), (v, .spare)]) (fun u => s249 = .inl u) ?_ ?_
 intro s191
 intro n192
 rintro rfl
 have h := onSum_inl h193
 refine xr (xl 0 isAgg31 Z (xy Z (xz (.bool true) Z (xe (aw_ret ?_)))))
 cases h
 exact rt ⟨n192, Z, Z⟩ Z (wi [1] Z)
 have h := s249e
 refine aw_upd (xr (xf (.ptr p129 6) underlying23 sizeOf3 Z (xl 2 isAgg3 Z (xe (aw_block (xr (xz (bd (r128.1.Keys = 1)) Z ?_)))))))
 refine xy Z (xe (cd h Z (fun _ h => ?_) (fun _ h => ?_)))
 refine xr (xL 2 isAgg23 sizeOf23 Z (xl 1 isAgg31 Z (xa (.i (args.length : Int)) Z (pu_lenM Z underlying31 (tm Z)) ?_)))
 obtain ⟨r195, r195e, h⟩ := bind_some h
 refine xk (table.places.ok r195e) call21 Z ?_
 rintro _ _ ⟨t196, t197, rfl, rfl⟩
 refine xe (aw_block ?_)
 obtain ⟨r217, r217e, h220⟩ := bind_some h
 obtain ⟨s218, s218e, h221⟩ := bind_some h220
 refine aw_claimCell 2 0 Z Z fun t216 => (aw_each (σ := table.Keys.S1) (ν := Nat) (f := (table.Keys.body1 args)) (fun s209 v => [(t196, .cells (api.Command.ct r195.1)), (t197, .cells [.i r195.2]), (p125, .cells [.sl .no 1 (m2L args)]), (p138, .cells [.sl (.own v) 1 (m2L s209.c)]), (v, .spare)]) [(1, .ptr p125 0), (6, .ptr p138 0), (37, .fn 38 [.ptr t196 0, .ptr t197 0])] ⟨([] : List (List UInt8))⟩ t216 s218 s218e (tm Z) (enters_of func38 (by kernel_rfl) Z) (places1_iter r217e _ _) (by decide) (wi [1, 2, 4, 3, 0] Z) (fun _ _ => ⟨_, Z⟩) ?_ ?_)
 rintro s209 n210 x211 s2L h
 unfold table.Keys.body1 at h
 refine aw_region (xy Z (xe (aw_block ?_)))
 obtain ⟨c213, h⟩ := need_of h
 obtain ⟨c214, h⟩ := need_of h
 refine aw_reserve fun p215 => (aw_planR (by decide +kernel) [[(4, 0, false)], [(3, 0, false)], [], [], [], [], [(5, 0, true), (0, 0, true)], [(4, 0, true)]] [[6], [], [], [], [7], [6]] [[[(p215, .resv)], [(p215, .spare)]], [[(t196, .cells (api.Command.ct r195.1))]], [[(t197, .cells [.i r195.2])]], [[(p125, .cells [.sl .no 1 (m2L args)])]], [[(p138, .cells [.sl (.own n210) 1 (m2L s209.c)])], [(p138, .cells [.sl (.own p215) 1 (m2L (s209.c ++ [ix args x211]))])]], [[(n210, .spare)], []]] [.sl (.own n210) 1 (m2L s209.c), .sl .no 1 (m2L args), .i x211, .vptr [.str (ix args x211)], .str (ix args x211), .sl .full 1 ([ix args x211].map AV.str), .sl (.own p215) 1 (m2L (s209.c ++ [ix args x211])), .un] (by decide +kernel) Z Z ?_ ?_)
 exact ⟨stepg_plain Z (op_load1 (i := 0) Z isAgg31 (tm Z) Z Z ⟨Z, Z⟩), stepg_plain Z (op_load1 (i := 0) Z isAgg31 (tm Z) Z Z ⟨Z, Z⟩), ym Z Z Z, yp Z (pu_indexAddrM Z underlying31 sizeOf9 (tm Z) (tm Z) c213 Z), stepg_plain Z (op_loadV1 Z isAgg9 (tm Z) Z ⟨Z, Z⟩), stepg_plain Z (op_buildSlice (xs := ([ix args x211] : List (List UInt8)).map AV.str) (aparts := [(0, .str (ix args x211))]) Z underlying31 sizeOf9 zeroValue9 (by decide) (by decide) ⟨Z, (tm Z), trivial⟩ Z Z Z ⟨Z, Z⟩), stepg_plain Z (aop_settleS (op_appendOM (q := 0) Z underlying31 underlying31 (.inl Z) typeInfo9 Z Z Z (by decide) (tm Z) Z (given_sl (tm Z)) c214 fun t => ⟨t, Z, Z⟩) ⟨Z, Z⟩), stepg_plain Z (op_store (i := 0) (cs' := [.sl (.own p215) 1 (m2L (s209.c ++ [ix args x211]))]) Z sizeOf31 (tm Z) (v := .sl (.own p215) 1 (m2L (s209.c ++ [ix args x211]))) (tm Z) Z Z Z (nb Z) Z ⟨Z, Z⟩), trivial⟩
 cases h
 exact ⟨p215, wi [1, 2, 3, 4, 0] Z⟩
 intro n219
 have h := h221
 refine upd_done ?_
 exact ⟨s218.c, n219, (some_of h).symm, wi [3, 4] Z⟩
 obtain ⟨s223, s223e, h224⟩ := letO_of h
 refine aw_meet (ν := Unit) (fun v => [(1, .ptr p125 0), (4, .ptr p129 0), (6, .ptr p138 0), (46, .bool s223)]) (fun v => [(p125, .cells [.sl .no 1 (m2L args)]), (p129, .cells (api.Command.ct r128.1)), (p138, .cells [.sl .full 1 e1L])]) ?_ ?_
 have h := s223e.symm
 refine xr (xz (bd (r128.1.Keys = 2)) Z (xy Z (xe (cd h Z (fun _ h => ?_) (fun _ h => ?_)))))
 refine aw_skip ?_
 subst h
 exact ⟨(), wi [1, 2, 0] Z⟩
 refine aw_region (xz (bd (r128.1.Keys = 3)) Z (xy Z (xe ?_)))
 subst h
 exact ⟨(), wi [1, 2, 0] Z⟩
 intro _
 have h := h224
 refine aw_cond (b := s223) (tm Z) (fun hb247 => ?_) (fun hb247 => ?_)
 replace h := ite_t hb247 h
 refine xr (xz (.i 1) Z (xe ?_))
 obtain ⟨s231, s231e, h233⟩ := bind_some h
 refine aw_meet (ν := Nat) (fun v => [(1, .ptr p125 0), (6, .ptr p138 0), (8, .i s231.1)]) (fun v => [(p125, .cells [.sl .no 1 (m2L args)]), (p138, .cells [.sl (.own v) 1 (m2L s231.2)]), (v, .spare)]) ?_ ?_
 have h := s231e
 refine aw_upd (xr (xf (.ptr p129 6) underlying23 sizeOf3 Z (xl 1 isAgg3 Z (xz (bd (r128.1.Keys = 2)) Z (xe (cd h Z (fun _ h => ?_) (fun _ h => ?_)))))))
 refine xr (xz (.i 2) Z (xe ?_))
 obtain ⟨c235, h⟩ := need_of h
 obtain ⟨c236, h⟩ := need_of h
 refine aw_reserve fun p237 => (aw_planR (by decide +kernel) [[(3, 0, false)], [(1, 0, false)], [], [], [], [(0, 0, true)], [(3, 0, true)]] [[5], [], [], [6]] [[[(p237, .resv)], [(p237, .spare)]], [[(p125, .cells [.sl .no 1 (m2L args)])]], [[(p129, .cells (api.Command.ct r128.1))]], [[(p138, .cells [.sl .full 1 e1L])], [(p138, .cells [.sl (.own p237) 1 (m2L (([] : List (List UInt8)) ++ [ix args 1]))])]]] [.sl .full 1 e1L, .sl .no 1 (m2L args), .vptr [.str (ix args 1)], .str (ix args 1), .sl .full 1 ([ix args 1].map AV.str), .sl (.own p237) 1 (m2L (([] : List (List UInt8)) ++ [ix args 1])), .un] (by decide +kernel) Z Z ?_ ?_)
 exact ⟨stepg_plain Z (op_load1 (i := 0) Z isAgg31 (tm Z) Z Z ⟨Z, Z⟩), stepg_plain Z (op_load1 (i := 0) Z isAgg31 (tm Z) Z Z ⟨Z, Z⟩), yp Z (pu_indexAddrM Z underlying31 sizeOf9 (tm Z) (AEv.int _ _) c235 Z), stepg_plain Z (op_loadV1 Z isAgg9 (tm Z) Z ⟨Z, Z⟩), stepg_plain Z (op_buildSlice (xs := ([ix args 1] : List (List UInt8)).map AV.str) (aparts := [(0, .str (ix args 1))]) Z underlying31 sizeOf9 zeroValue9 (by decide) (by decide) ⟨Z, (tm Z), trivial⟩ Z Z Z ⟨Z, Z⟩), stepg_plain Z (aop_settleS (op_appendFM Z underlying31 underlying31 (.inl Z) typeInfo9 Z Z Z (by decide) (tm Z) (given_sl (tm Z)) c236 fun t => ⟨t, Z, Z⟩) ⟨Z, Z⟩), stepg_plain Z (op_store (i := 0) (cs' := [.sl (.own p237) 1 (m2L (([] : List (List UInt8)) ++ [ix args 1]))]) Z sizeOf31 (tm Z) (v := .sl (.own p237) 1 (m2L (([] : List (List UInt8)) ++ [ix args 1]))) (tm Z) Z Z Z (nb Z) Z ⟨Z, Z⟩), trivial⟩
 refine upd_done ?_
 cases h
 exact ⟨p237, wi [1, 3, 0] Z⟩
 refine aw_skip (upd_claimCell 2 0 Z Z fun t238 => (upd_done ?_))
 cases h
 exact ⟨t238, wi [1, 3, 0] Z⟩
 intro n232
 have h := h233
 refine xr (xl 0 isAgg31 Z (xy Z ?_))
 obtain ⟨r240, r240e, h⟩ := bind_some h
 refine xo (table.counted.ok r240e) call22 Z (xy Z (xz (.i r240.1) Z (xz (.bool r240.2) Z (xy Z (xy Z (xe (aw_seq (xr (xy Z ?_)))))))))
 refine xz (.bool (!r240.2)) Z (xe (cb h Z (fun _ h => ?_) (fun _ h => ?_)))
 refine xr (xa (.sl .full 1 e1L) Z (pu_assign Z (AEv.nil 1 (by decide))) (xz (.bool false) Z (xe (aw_claim 2 (tm Z) fun t241 => (aw_ret ?_)))))
 cases h
 cases onSum_inr h193
 exact rt ⟨t241, Z, Z⟩ Z (wi [0] Z)
 refine aw_skip ?_
 obtain ⟨c242, h⟩ := need_of h
 obtain ⟨c243, h⟩ := need_of h
 refine aw_reserve fun p244 => (aw_planR (by decide +kernel) [[(2, 0, false)], [(1, 0, false)], [], [], [], [], [], [], [], [(3, 0, true), (0, 0, true)], [(2, 0, true)]] [[9], [], [10], [9]] [[[(p244, .resv)], [(p244, .spare)]], [[(p125, .cells [.sl .no 1 (m2L args)])]], [[(p138, .cells [.sl (.own n232) 1 (m2L s231.2)])], [(p138, .cells [.sl (.own p244) 1 (m2L (s231.2 ++ (sub args (w64 (s231.1 + 1)) (w64 ((w64 (s231.1 + 1)) + r240.1)))))])]], [[(n232, .spare)], []]] [.sl (.own n232) 1 (m2L s231.2), .sl .no 1 (m2L args), .i s231.1, .i (w64 (s231.1 + 1)), .i s231.1, .i (w64 (s231.1 + 1)), .i r240.1, .i (w64 ((w64 (s231.1 + 1)) + r240.1)), .sl .no 1 (m2L (sub args (w64 (s231.1 + 1)) (w64 ((w64 (s231.1 + 1)) + r240.1)))), .sl (.own p244) 1 (m2L (s231.2 ++ (sub args (w64 (s231.1 + 1)) (w64 ((w64 (s231.1 + 1)) + r240.1))))), .un] (by decide +kernel) Z Z ?_ ?_)
 exact ⟨stepg_plain Z (op_load1 (i := 0) Z isAgg31 (tm Z) Z Z ⟨Z, Z⟩), stepg_plain Z (op_load1 (i := 0) Z isAgg31 (tm Z) Z Z ⟨Z, Z⟩), ym Z Z Z, yp Z (pe Z), ym Z Z Z, yp Z (pe Z), ym Z Z Z, yp Z (pe Z), yp Z (pu_sliceM Z underlying31 sizeOf9 (tm Z) ⟨_, (tm Z)⟩ ⟨_, (tm Z)⟩ c242), stepg_plain Z (aop_settleS (op_appendOM (q := 0) Z underlying31 underlying31 (.inl Z) typeInfo9 Z Z Z (by decide) (tm Z) Z (given_sl (tm Z)) c243 fun t => ⟨t, Z, Z⟩) ⟨Z, Z⟩), stepg_plain Z (op_store (i := 0) (cs' := [.sl (.own p244) 1 (m2L (s231.2 ++ (sub args (w64 (s231.1 + 1)) (w64 ((w64 (s231.1 + 1)) + r240.1)))))]) Z sizeOf31 (tm Z) (v := .sl (.own p244) 1 (m2L (s231.2 ++ (sub args (w64 (s231.1 + 1)) (w64 ((w64 (s231.1 + 1)) + r240.1)))))) (tm Z) Z Z Z (nb Z) Z ⟨Z, Z⟩), trivial⟩
 refine upd_done ?_
 exact ⟨s231.2 ++ (sub args (w64 (s231.1 + 1)) (w64 ((w64 (s231.1 + 1)) + r240.1))), p244, (some_of h).symm, wi [2, 0] Z⟩
 replace h := ite_fb hb247 h
 refine aw_skip (upd_claimCell 2 0 Z Z fun t246 => (upd_done ?_))
 exact ⟨([] : List (List UInt8)), t246, (some_of h).symm, wi [3, 0] Z⟩

theorem mewsref02.Same.ok {a b r} (h : mewsref02.Same a b = some r) : Sp prog 16 [.sl .no 1 (m2L a), .sl .no 1 (m2L b)] [] (fun v H => v = .bool r ∧ H = []) := by
 unfold mewsref02.Same at h
 refine sb [.tmp 4] func16 Z (xr (xz (.bool false) Z (xe (aw_seq (xr (xy Z (xa (.i (a.length : Int)) Z (pu_lenM Z underlying31 (tm Z)) ?_)))))))
 refine xy Z (xa (.i (b.length : Int)) Z (pu_lenM Z underlying31 (tm Z)) (xz (bn ((a.length : Int) = (b.length : Int))) Z (xe (cn h Z (fun _ h => ?_) (fun _ h => ?_)))))
 refine xr (xz (.bool false) Z (xe (aw_ret ?_)))
 cases h
 exact rt ⟨Z, Z⟩ Z w0
 refine aw_skip ?_
 obtain ⟨s81, s81e, h61⟩ := bind_some h
 refine aw_join (σ := Unit) (ν := Unit) (fun u v => []) (fun u v => []) (fun u => s81 = .inl u) ?_ ?_
 intro s60
 intro _
 rintro rfl
 have h := onSum_inl h61
 refine xr (xz (.bool true) Z (xe (aw_ret ?_)))
 cases h
 exact rt ⟨Z, Z⟩ Z w0
 have h := s81e
 refine xr (xz (.i 0) Z (xe (aw_block (aw_while (σ := mewsref02.Same.S0) (ν := Unit) (mewsref02.Same.body0 a b) (fun s73 v => [(0, .sl .no 1 (m2L a)), (1, .sl .no 1 (m2L b)), (5, .i s73.i)]) (fun s73 v => []) ⟨0⟩ () _ h (wi [] Z) ?_))))
 rintro s73 _ x75 h hx74
 unfold mewsref02.Same.body0 at h
 refine aw_seq (xr (xy Z (xy Z (xa (.i (a.length : Int)) Z (pu_lenM Z underlying31 (tm Z)) (xz (bd (s73.i < (a.length : Int))) Z (xe (cd h Z (fun _ h => ?_) (fun _ h => ?_))))))))
 refine aw_skip (aw_seq (aw_block (aw_seq ?_)))
 obtain ⟨c77, h⟩ := need_of h
 obtain ⟨c78, h⟩ := need_of h
 refine aw_planR (by decide +kernel) [[], [], [], [], [], [], [], [], []] [] [] [.sl .no 1 (m2L a), .i s73.i, .vptr [.str (ix a s73.i)], .str (ix a s73.i), .sl .no 1 (m2L b), .i s73.i, .vptr [.str (ix b s73.i)], .str (ix b s73.i), bn ((ix a s73.i) = (ix b s73.i))] (by decide +kernel) Z Z ?_ ?_
 exact ⟨ym Z Z Z, ym Z Z Z, yp Z (pu_indexAddrM Z underlying31 sizeOf9 (tm Z) (tm Z) c77 Z), stepg_plain Z (op_loadV1 Z isAgg9 (tm Z) Z ⟨Z, Z⟩), ym Z Z Z, ym Z Z Z, yp Z (pu_indexAddrM Z underlying31 sizeOf9 (tm Z) (tm Z) c78 Z), stepg_plain Z (op_loadV1 Z isAgg9 (tm Z) Z ⟨Z, Z⟩), yp Z (pu_str (v := bn ((ix a s73.i) = (ix b s73.i))) Z Z (tm Z) (tm Z) Z), trivial⟩
 refine aw_cond (b := (!decide ((ix a s73.i) = (ix b s73.i)))) (tm Z) (fun hb79 => ?_) (fun hb79 => ?_)
 replace h := ite_f (ndec_t hb79) h
 refine xr (xz (.bool false) Z (xe (aw_ret ?_)))
 cases h
 cases congrArg some (hx74 _ rfl)
 cases onSum_inr h61
 exact rt ⟨Z, Z⟩ Z w0
 replace h := ite_t (ndec_f hb79) h
 refine aw_skip (aw_region (xy Z (xz (.i (w64 (s73.i + 1))) Z (xy Z (xe ?_)))))
 cases h
 exact ⟨_, (), Z, wi [] Z⟩
 refine aw_exit ?_
 cases h
 have h := congrArg some (hx74 _ rfl)
 exact ⟨(), (), (some_of h).symm, w0⟩

theorem mewslaw28.alive.ok  {r : Bool} (h : mewslaw28.alive = some r) : Sp prog 7 [] [] (fun v H => v = .bool r ∧ H = []) := by
 unfold mewslaw28.alive at h
 refine sb [.tmp 0] func7 Z (xr (xz (.bool false) Z (xe (xr (xc Z (op_buildSlice (xs := ([[109, 115, 101, 116], [97], [49], [98], [50]] : List (List UInt8)).map AV.str) (aparts := [(0, .str [109, 115, 101, 116]), (1, .str [97]), (2, .str [49]), (3, .str [98]), (4, .str [50])]) Z underlying31 sizeOf9 zeroValue9 (by decide) (by decide) ⟨Z, (AEv.const Z), ⟨Z, (AEv.const Z), ⟨Z, (AEv.const Z), ⟨Z, (AEv.const Z), ⟨Z, (AEv.const Z), trivial⟩⟩⟩⟩⟩ Z Z Z ?_))))))
 obtain ⟨r22, r22e, h⟩ := bind_some h
 refine xc Z (op_call (vs := [.sl .no 1 ([[109, 115, 101, 116], [97], [49], [98], [50]].map AV.str)]) (H := []) Z call14 ⟨(AEv.le (tm Z) (AV.Le.forget _ _ _)), trivial⟩ (List.Perm.refl _) (table.Keys.ok r22e) ?_)
 rintro _ _ ⟨t23, rfl, rfl⟩
 refine xy Z (xz (.sl (.own t23) 1 (m2L r22.1)) Z (xz (.bool r22.2) Z (xy Z (xy Z (xe (xr (xc Z (op_buildSlice (xs := ([[90, 85, 78, 73, 79, 78, 83, 84, 79, 82, 69], [100], [50], [120], [121], [87, 69, 73, 71, 72, 84, 83], [49], [50]] : List (List UInt8)).map AV.str) (aparts := [(0, .str [90, 85, 78, 73, 79, 78, 83, 84, 79, 82, 69]), (1, .str [100]), (2, .str [50]), (3, .str [120]), (4, .str [121]), (5, .str [87, 69, 73, 71, 72, 84, 83]), (6, .str [49]), (7, .str [50])]) Z underlying31 sizeOf9 zeroValue9 (by decide) (by decide) ⟨Z, (AEv.const Z), ⟨Z, (AEv.const Z), ⟨Z, (AEv.const Z), ⟨Z, (AEv.const Z), ⟨Z, (AEv.const Z), ⟨Z, (AEv.const Z), ⟨Z, (AEv.const Z), ⟨Z, (AEv.const Z), trivial⟩⟩⟩⟩⟩⟩⟩⟩ Z Z Z ?_))))))))
 obtain ⟨r24, r24e, h⟩ := bind_some h
 refine xc Z (op_call (vs := [.sl .no 1 ([[90, 85, 78, 73, 79, 78, 83, 84, 79, 82, 69], [100], [50], [120], [121], [87, 69, 73, 71, 72, 84, 83], [49], [50]].map AV.str)]) (H := []) Z call14 ⟨(AEv.le (tm Z) (AV.Le.forget _ _ _)), trivial⟩ (List.Perm.refl _) (table.Keys.ok r24e) ?_)
 rintro _ _ ⟨t25, rfl, rfl⟩
 refine xy Z (xz (.sl (.own t25) 1 (m2L r24.1)) Z (xz (.bool r24.2) Z (xy Z (xy Z (xe ?_)))))
 obtain ⟨s33, s33e, h34⟩ := bind_some h
 refine aw_meet (ν := Unit) (fun v => [(0, .bool s33)]) (fun v => []) ?_ ?_
 have h := s33e
 refine aw_region (xy Z (xc Z (op_buildSlice (xs := ([[97], [98]] : List (List UInt8)).map AV.str) (aparts := [(0, .str [97]), (1, .str [98])]) Z underlying31 sizeOf9 zeroValue9 (by decide) (by decide) ⟨Z, (AEv.const Z), ⟨Z, (AEv.const Z), trivial⟩⟩ Z Z Z ?_)))
 obtain ⟨r36, r36e, h⟩ := bind_some h
 refine xc Z (op_call (vs := [.sl .no 1 (m2L r22.1), .sl .no 1 ([[97], [98]].map AV.str)]) (H := []) Z call16 ⟨(AEv.le (tm Z) (AV.Le.forget _ _ _)), (AEv.le (tm Z) (AV.Le.forget _ _ _)), trivial⟩ (List.Perm.refl _) (mewsref02.Same.ok r36e) ?_)
 rintro _ _ ⟨rfl, rfl⟩
 refine xy Z ?_
 rcases Bool.eq_false_or_eq_true r36 with hb37 | hb37
 replace h := ite_t hb37 h
 refine aops_known 18 Z hb37 (xq Z Z Z Z (xz (.bool r22.2) Z (xy Z ?_)))
 rcases Bool.eq_false_or_eq_true r22.2 with hb38 | hb38
 replace h := ite_t hb38 h
 refine aops_known 21 Z hb38 (xq Z Z Z Z (xg Z Z (op_buildSlice (xs := ([[100], [120], [121]] : List (List UInt8)).map AV.str) (aparts := [(0, .str [100]), (1, .str [120]), (2, .str [121])]) Z underlying31 sizeOf9 zeroValue9 (by decide) (by decide) ⟨Z, (AEv.const Z), ⟨Z, (AEv.const Z), ⟨Z, (AEv.const Z), trivial⟩⟩⟩ Z Z Z ?_)))
 obtain ⟨r39, r39e, h⟩ := bind_some h
 refine xg Z Z (op_call (vs := [.sl .no 1 (m2L r24.1), .sl .no 1 ([[100], [120], [121]].map AV.str)]) (H := []) Z call16 ⟨(AEv.le (tm Z) (AV.Le.forget _ _ _)), (AEv.le (tm Z) (AV.Le.forget _ _ _)), trivial⟩ (List.Perm.refl _) (mewsref02.Same.ok r39e) ?_)
 rintro _ _ ⟨rfl, rfl⟩
 refine xz (.bool r39) Z (xy Z ?_)
 rcases Bool.eq_false_or_eq_true r39 with hb40 | hb40
 replace h := ite_t hb40 h
 refine aops_known 26 Z hb40 (xq Z Z Z Z (xz (.bool r24.2) Z (xy Z ?_)))
 rcases Bool.eq_false_or_eq_true r24.2 with hb41 | hb41
 replace h := ite_t hb41 h
 refine aops_known 29 Z hb41 ?_
 obtain ⟨r42, r42e, h⟩ := bind_some h
 refine xg Z Z (op_call (vs := [.str [97, 90, 45, 195, 169]]) (H := []) Z call12 ⟨(AEv.const Z), trivial⟩ (List.Perm.refl _) (table.Upper.ok r42e) ?_)
 rintro _ _ ⟨rfl, rfl⟩
 refine xp (bd (r42 = [65, 90, 45, 195, 169])) Z Z (pu_str (v := bd (r42 = [65, 90, 45, 195, 169])) Z Z (tm Z) (AEv.const Z) Z) (xz (bd (r42 = [65, 90, 45, 195, 169])) Z (xy Z (xe ?_)))
 cases h
 exact ⟨(), wi [] Z⟩
 replace h := ite_fb hb41 h
 refine aops_known 29 Z hb41 (xu Z (xu Z (xz (.bool false) Z (xy Z (xe ?_)))))
 cases h
 exact ⟨(), wi [] Z⟩
 replace h := ite_fb hb40 h
 refine aops_known 26 Z hb40 (xu Z (xz (.bool false) Z (xy Z (xu Z (xu Z (xz (.bool false) Z (xy Z (xe ?_))))))))
 cases h
 exact ⟨(), wi [] Z⟩
 replace h := ite_fb hb38 h
 refine aops_known 21 Z hb38 (xu Z (xu Z (xu Z (xz (.bool false) Z (xy Z (xu Z (xz (.bool false) Z (xy Z (xu Z ?_)))))))))
 refine xu Z (xz (.bool false) Z (xy Z (xe ?_)))
 cases h
 exact ⟨(), wi [] Z⟩
 replace h := ite_fb hb37 h
 refine aops_known 18 Z hb37 (xu Z (xz (.bool false) Z (xy Z (xu Z (xu Z (xu Z (xz (.bool false) Z (xy Z (xu Z ?_)))))))))
 refine xz (.bool false) Z (xy Z (xu Z (xu Z (xz (.bool false) Z (xy Z (xe ?_))))))
 cases h
 exact ⟨(), wi [] Z⟩
 intro _
 have h := h34
 refine aw_ret ?_
 cases h
 exact rt ⟨Z, Z⟩ Z w0

theorem mewsref28.split.ok {s_ by_ r} (h : mewsref28.split s_ by_ = some r) : Sp prog 25 [.str s_, .int .u8 by_] [] (fun v H => ∃ n0, v = .sl (.own n0) 1 (m2L r) ∧ H = [(n0, .spare)]) := by
 unfold mewsref28.split at h
 refine sb [.tmp 4] func25 Z (xr (xa (.sl .full 1 e1L) Z (pu_assign Z (AEv.nil 1 (by decide))) (xe (xr (xa (.sl .full 1 e1L) Z (pu_assign Z (AEv.nil 1 (by decide))) (xe (aw_seq ?_)))))))
 refine aw_region (xa (.str nS) Z (pu_assign Z (AEv.const Z)) (xe ?_))
 obtain ⟨s190, s190e, h192⟩ := bind_some h
 refine aw_meet (ν := Nat) (fun v => [(5, .sl (.own v) 1 (m2L s190.1)), (6, .str s190.2)]) (fun v => [(v, .spare)]) ?_ ?_
 have h := s190e
 refine xr (xz (.i 0) Z (xe (aw_block (aw_claim 5 (tm Z) fun t254 => (aw_while (σ := mewsref28.split.S0) (ν := Nat) (mewsref28.split.body0 s_ by_) (fun s232 v => [(0, .str s_), (1, .int .u8 by_), (5, .sl (.own v) 1 (m2L s232.out)), (6, .str s232.now), (7, .i s232.i)]) (fun s232 v => [(v, .spare)]) ⟨([] : List (List UInt8)), nS, 0⟩ t254 _ h (wi [0] Z) ?_)))))
 rintro s232 n233 x235 h hx234
 unfold mewsref28.split.body0 at h
 refine aw_seq (xr (xy Z (xy Z (xa (.i (s_.length : Int)) Z (pu_strLen Z underlying9 (tm Z)) (xz (bd (s232.i < (s_.length : Int))) Z (xe (cd h Z (fun _ h => ?_) (fun _ h => ?_))))))))
 refine aw_skip ?_
 obtain ⟨s243, s243e, h245⟩ := bind_some h
 refine aw_meet (ν := Nat) (fun v => [(0, .str s_), (1, .int .u8 by_), (5, .sl (.own v) 1 (m2L s243.1)), (6, .str s243.2), (7, .i s232.i)]) (fun v => [(v, .spare)]) ?_ ?_
 have h := s243e
 refine aw_block (xr (xy Z (xy Z ?_)))
 obtain ⟨c247, h⟩ := need_of h
 refine xa (.int .u8 (bix s_ s232.i)) Z (pu_strIdxM Z underlying9 (tm Z) (tm Z) c247) (xy Z (xz (bd ((bix s_ s232.i) = by_)) Z (xe (cd h Z (fun _ h => ?_) (fun _ h => ?_)))))
 refine xr (xy Z (xy Z (xc Z (op_buildSlice (xs := ([s232.now] : List (List UInt8)).map AV.str) (aparts := [(0, .str s232.now)]) Z underlying31 sizeOf9 zeroValue9 (by decide) (by decide) ⟨Z, (tm Z), trivial⟩ Z Z Z ?_))))
 obtain ⟨c248, h⟩ := need_of h
 refine xc Z (op_appendOM (q := 0) Z underlying31 underlying31 (.inl Z) typeInfo9 Z Z Z (by decide) (tm Z) Z (given_sl (tm Z)) c248 ?_)
 intro t249
 refine xy Z (xe (aw_region (xa (.str nS) Z (pu_assign Z (AEv.const Z)) (xe ?_))))
 cases h
 exact ⟨t249, wi [0] Z⟩
 refine aw_region (xy Z (xy Z (xy Z (xy Z (xz (.i (w64 (s232.i + 1))) Z ?_)))))
 obtain ⟨c250, h⟩ := need_of h
 refine xa (.str (sub s_ s232.i (w64 (s232.i + 1)))) Z (pu_strSliceM Z underlying9 (tm Z) ⟨_, (tm Z)⟩ ⟨_, (tm Z)⟩ c250) ?_
 obtain ⟨c251, h⟩ := need_of h
 refine xa (.str (s232.now ++ (sub s_ s232.i (w64 (s232.i + 1))))) Z (pu_strAdd Z (tm Z) (tm Z) c251) (xy Z (xe ?_))
 cases h
 exact ⟨n233, wi [0] Z⟩
 intro n244
 have h := h245
 refine aw_region (xy Z (xz (.i (w64 (s232.i + 1))) Z (xy Z (xe ?_))))
 cases h
 exact ⟨_, n244, Z, wi [0] Z⟩
 refine aw_exit ?_
 cases h
 cases congrArg some (hx234 _ rfl)
 exact ⟨n233, wi [0] Z⟩
 intro n191
 have h := h192
 refine xr (xy Z (xy Z (xc Z (op_buildSlice (xs := ([s190.2] : List (List UInt8)).map AV.str) (aparts := [(0, .str s190.2)]) Z underlying31 sizeOf9 zeroValue9 (by decide) (by decide) ⟨Z, (tm Z), trivial⟩ Z Z Z ?_))))
 obtain ⟨c255, h⟩ := need_of h
 refine xc Z (op_appendOM (q := 0) Z underlying31 underlying31 (.inl Z) typeInfo9 Z Z Z (by decide) (tm Z) Z (given_sl (tm Z)) c255 ?_)
 intro t256
 refine xy Z (xe (aw_ret ?_))
 cases h
 exact rt ⟨t256, Z, Z⟩ Z (wi [0] Z)

theorem mewsref01.digits.rec.ok (kk : Nat) : ∀ {n_ : Int} {r : List UInt8} (h : mewsref01.digits.rec kk n_ = some r), Sp prog 45 [.i n_] [] (fun v H => v = .str r ∧ H = []) := by
 induction kk with
 | zero => intro n_ r h; exact nomatch h
 | succ kk ih =>
  intro n_ r h
  rw [mewsref01.digits.rec.eq_2] at h
  refine sb [.tmp 2] func45 Z (xr (xa (.str nS) Z (pu_assign Z (AEv.const Z)) (xe (xr (xa (.str [48, 49, 50, 51, 52, 53, 54, 55, 56, 57]) Z (pu_assign Z (AEv.const Z)) (xe (aw_seq ?_)))))))
  refine aw_region (xy Z (xa (.i (n_.tmod 10)) Z (pu_rem Z (tm Z) (AEv.int _ _) (by decide)) (xa (.i (w64 (0 - (n_.tmod 10)))) Z (pu_neg Z (tm Z)) (xy Z (xe (aw_seq (xr (xy Z ?_))))))))
  refine xz (bd ((-10) < n_)) Z (xe (cd h Z (fun _ h => ?_) (fun _ h => ?_)))
  ·refine xr (xy Z (xy Z (xy Z (xz (.i (w64 ((w64 (0 - (n_.tmod 10))) + 1))) Z ?_))))
   obtain ⟨c8, h⟩ := need_of h
   obtain ⟨x9, x9e, h⟩ := letO_of h
   refine xa (.str x9) Z (APure.eq (pu_strSliceM Z underlying9 (tm Z) ⟨_, (tm Z)⟩ ⟨_, (tm Z)⟩ c8) (congrArg (AV.str) x9e.symm)) (xy Z (xe (aw_ret ?_)))
   cases h
   exact rt ⟨Z, Z⟩ Z w0
  ·refine aw_skip (aw_seq ?_)
   obtain ⟨r10, r10e, h⟩ := bind_some h
   obtain ⟨c11, h⟩ := need_of h
   obtain ⟨x12, x12e, h⟩ := letO_of h
   obtain ⟨c13, h⟩ := need_of h
   refine aw_planR (by decide +kernel) [[], [], [], [], [], [], [], [], [], []] [] [] [.i n_, .i (w64 (n_.tdiv 10)), .str r10, .str [48, 49, 50, 51, 52, 53, 54, 55, 56, 57], .i (w64 (0 - (n_.tmod 10))), .i (w64 (0 - (n_.tmod 10))), .i (w64 ((w64 (0 - (n_.tmod 10))) + 1)), .str x12, .str (r10 ++ x12), .str (r10 ++ x12)] (by decide +kernel) Z Z ?_ ?_
   ·exact ⟨ym Z Z Z, yp Z (pu_quo Z (tm Z) (AEv.int _ _) (by decide)), stepg_plain Z (op_call (vs := [.i (w64 (n_.tdiv 10))]) (H := []) Z call45 ⟨(tm Z), trivial⟩ (R := []) (List.Perm.refl _) (ih r10e) (by rintro _ _ ⟨rfl, rfl⟩; exact ⟨Z, Z⟩)), ym Z Z Z, ym Z Z Z, ym Z Z Z, yp Z (pe Z), yp Z (APure.eq (pu_strSliceM Z underlying9 (tm Z) ⟨_, (tm Z)⟩ ⟨_, (tm Z)⟩ c11) (congrArg (AV.str) x12e.symm)), yp Z (pu_strAdd Z (tm Z) (tm Z) c13), ym Z Z Z, trivial⟩
   refine aw_ret ?_
   cases h
   exact rt ⟨Z, Z⟩ Z w0

theorem mewsref01.digits.ok {n_ r} (h : mewsref01.digits n_ = some r) : Sp prog 45 [.i n_] [] (fun v H => v = .str r ∧ H = []) := by
 obtain ⟨kk, hk⟩ := fixO_some h
 exact mewsref01.digits.rec.ok kk hk

theorem mewsref01.Text.ok {n_ r} (h : mewsref01.Text n_ = some r) : Sp prog 39 [.i n_] [] (fun v H => v = .str r ∧ H = []) := by
 unfold mewsref01.Text at h
 refine sb [.tmp 2] func39 Z (xr (xa (.str nS) Z (pu_assign Z (AEv.const Z)) (xe (aw_seq (xr (xy Z (xz (bd (n_ < 0)) Z ?_)))))))
 refine xe (cd h Z (fun _ h => ?_) (fun _ h => ?_))
 refine xr (xy Z ?_)
 obtain ⟨r5, r5e, h⟩ := bind_some h
 refine xo (mewsref01.digits.ok r5e) call45 Z ?_
 obtain ⟨c6, h⟩ := need_of h
 refine xa (.str ([45] ++ r5)) Z (pu_strAdd Z (AEv.const Z) (tm Z) c6) (xy Z (xe (aw_ret ?_)))
 cases h
 exact rt ⟨Z, Z⟩ Z w0
 refine aw_skip (xr (xy Z (xa (.i (w64 (0 - n_))) Z (pu_neg Z (tm Z)) ?_)))
 obtain ⟨r7, r7e, h⟩ := bind_some h
 refine xo (mewsref01.digits.ok r7e) call45 Z (xy Z (xe (aw_ret ?_)))
 cases h
 exact rt ⟨Z, Z⟩ Z w0

theorem mewsref01.Parse.ok {s_ r} (h : mewsref01.Parse s_ = some r) : Sp prog 23 [.str s_] [] (fun v H => v = .tup [.i r.1, .bool r.2] ∧ H = []) := by
 unfold mewsref01.Parse at h
 refine sb [.tmp 2, .tmp 3] func23 Z (xr (xz (.i 0) Z (xz (.bool false) Z (xe ?_))))
 obtain ⟨s309, s309e, h310⟩ := bind_some h
 refine aw_meet (ν := Unit) (fun v => [(0, .str s_), (4, .bool s309)]) (fun v => []) ?_ ?_
 have h := s309e
 refine aw_region (xy Z (xa (.i (s_.length : Int)) Z (pu_strLen Z underlying9 (tm Z)) (xz (bd (0 < (s_.length : Int))) Z (xy Z ?_))))
 rcases Bool.eq_false_or_eq_true (decide (0 < (s_.length : Int))) with hb312 | hb312
 replace h := ite_t (dec_t hb312) h
 refine aops_known 11 Z hb312 (xq Z Z Z Z ?_)
 obtain ⟨c313, h⟩ := need_of h
 refine xp (.int .u8 (bix s_ 0)) Z Z (pu_strIdxM Z underlying9 (tm Z) (AEv.int _ _) c313) (xp (bd ((bix s_ 0) = 45)) Z Z (pe Z) (xz (bd ((bix s_ 0) = 45)) Z (xy Z (xe ?_))))
 cases h
 exact ⟨(), wi [] Z⟩
 replace h := ite_f (dec_f hb312) h
 refine aops_known 11 Z hb312 (xu Z (xu Z (xu Z (xz (.bool false) Z (xy Z (xe ?_))))))
 cases h
 exact ⟨(), wi [] Z⟩
 intro _
 have h := h310
 refine xr (xz (.i 0) Z (xe ?_))
 obtain ⟨s612, s612e, h456⟩ := bind_some h
 refine aw_join (σ := Int) (ν := Unit) (fun u v => [(0, .str s_), (4, .bool s309), (5, .i u)]) (fun u v => []) (fun u => s612 = .inl u) ?_ ?_
 intro s455
 intro _
 rintro rfl
 have h := onSum_inl h456
 refine aw_seq ?_
 obtain ⟨s600, s600e, h601⟩ := letO_of h
 refine aw_meet (ν := Unit) (fun v => [(0, .str s_), (4, .bool s309), (5, .i s455), (56, .bool s600)]) (fun v => []) ?_ ?_
 have h := s600e.symm
 refine aw_region (xy Z (xz (.bool (!s309)) Z (xy Z ?_)))
 rcases Bool.eq_false_or_eq_true (!s309) with hb603 | hb603
 replace h := ite_t hb603 h
 refine aops_known 53 Z hb603 (xq Z Z Z Z (xp (bd (s455 = (-9223372036854775808))) Z Z (pe Z) (xz (bd (s455 = (-9223372036854775808))) Z (xe ?_))))
 subst h
 exact ⟨(), wi [] Z⟩
 replace h := ite_fb hb603 h
 refine aops_known 53 Z hb603 (xu Z (xu Z (xz (.bool false) Z (xe ?_))))
 subst h
 exact ⟨(), wi [] Z⟩
 intro _
 have h := h601
 refine aw_cond (b := s600) (tm Z) (fun hb611 => ?_) (fun hb611 => ?_)
 replace h := ite_t hb611 h
 refine xr (xz (.i 0) Z (xz (.bool false) Z (xe (aw_ret ?_))))
 cases h
 exact rt ⟨Z, Z⟩ Z w0
 replace h := ite_fb hb611 h
 refine aw_skip ?_
 obtain ⟨s605, s605e, h606⟩ := letO_of h
 refine aw_meet (ν := Unit) (fun v => [(0, .str s_), (5, .i s605)]) (fun v => []) ?_ ?_
 have h := s605e.symm
 refine xr (xy Z (xz (.bool (!s309)) Z (xe (cb h Z (fun _ h => ?_) (fun _ h => ?_)))))
 refine aw_region (xy Z (xa (.i (w64 (0 - s455))) Z (pu_neg Z (tm Z)) (xy Z (xe ?_))))
 subst h
 exact ⟨(), wi [] Z⟩
 refine aw_skip ?_
 subst h
 exact ⟨(), wi [] Z⟩
 intro _
 have h := h606
 refine aw_seq (xr (xy Z ?_))
 obtain ⟨r609, r609e, h⟩ := bind_some h
 refine xo (mewsref01.Text.ok r609e) call39 Z (xy Z (xa (bn (r609 = s_)) Z (pu_str (v := bn (r609 = s_)) Z Z (tm Z) (tm Z) Z) (xe (cn h Z (fun _ h => ?_) (fun _ h => ?_)))))
 refine xr (xz (.i 0) Z (xz (.bool false) Z (xe (aw_ret ?_))))
 cases h
 exact rt ⟨Z, Z⟩ Z w0
 refine aw_skip (xr (xy Z (xy Z (xz (.bool true) Z (xe (aw_ret ?_))))))
 cases h
 exact rt ⟨Z, Z⟩ Z w0
 have h := s612e
 refine xr (xz (.i 0) Z (xe (aw_block (aw_while (σ := mewsref01.Parse.S0) (ν := Unit) (mewsref01.Parse.body0 s_ s309) (fun s550 v => [(0, .str s_), (4, .bool s309), (5, .i s550.n), (6, .i s550.i)]) (fun s550 v => []) ⟨0, 0⟩ () _ h (wi [] Z) ?_))))
 rintro s550 _ x552 h hx551
 unfold mewsref01.Parse.body0 at h
 refine aw_seq (xr (xy Z (xy Z (xa (.i (s_.length : Int)) Z (pu_strLen Z underlying9 (tm Z)) (xz (bd (s550.i < (s_.length : Int))) Z (xe (cd h Z (fun _ h => ?_) (fun _ h => ?_))))))))
 refine aw_skip ?_
 obtain ⟨s597, s597e, h575⟩ := bind_some h
 refine aw_join (σ := Int) (ν := Unit) (fun u v => [(0, .str s_), (4, .bool s309), (5, .i u), (6, .i s550.i)]) (fun u v => []) (fun u => s597 = .inl u) ?_ ?_
 intro s574
 intro _
 rintro rfl
 have h := onSum_inl h575
 refine aw_region (xy Z (xz (.i (w64 (s550.i + 1))) Z (xy Z (xe ?_))))
 cases h
 exact ⟨_, (), Z, wi [] Z⟩
 have h := s597e
 refine aw_block (aw_seq ?_)
 obtain ⟨s578, s578e, h579⟩ := letO_of h
 refine aw_meet (ν := Unit) (fun v => [(0, .str s_), (4, .bool s309), (5, .i s550.n), (6, .i s550.i), (26, .bool s578)]) (fun v => []) ?_ ?_
 have h := s578e.symm
 refine aw_region (xy Z (xz (bd (s550.i = 0)) Z (xy Z ?_)))
 rcases Bool.eq_false_or_eq_true (decide (s550.i = 0)) with hb581 | hb581
 replace h := ite_t (dec_t hb581) h
 refine aops_known 24 Z hb581 (xq Z Z Z Z (xz (.bool s309) Z (xe ?_)))
 subst h
 exact ⟨(), wi [] Z⟩
 replace h := ite_f (dec_f hb581) h
 refine aops_known 24 Z hb581 (xu Z (xz (.bool false) Z (xe ?_)))
 subst h
 exact ⟨(), wi [] Z⟩
 intro _
 have h := h579
 refine aw_cond (b := s578) (tm Z) (fun hb596 => ?_) (fun hb596 => ?_)
 replace h := ite_t hb596 h
 refine aw_exit ?_
 exact ⟨s550.n, (), (some_of h).symm, wi [] Z⟩
 replace h := ite_fb hb596 h
 refine aw_skip (aw_seq ?_)
 obtain ⟨s585, s585e, h586⟩ := bind_some h
 refine aw_meet (ν := Unit) (fun v => [(0, .str s_), (4, .bool s309), (5, .i s550.n), (6, .i s550.i), (36, .bool s585)]) (fun v => []) ?_ ?_
 have h := s585e
 refine aw_region (xy Z (xy Z ?_))
 obtain ⟨c588, h⟩ := need_of h
 refine xa (.int .u8 (bix s_ s550.i)) Z (pu_strIdxM Z underlying9 (tm Z) (tm Z) c588) (xz (bd ((bix s_ s550.i) < 48)) Z (xy Z ?_))
 rcases Bool.eq_false_or_eq_true (decide ((bix s_ s550.i) < 48)) with hb589 | hb589
 replace h := ite_t (dec_t hb589) h
 refine aops_known 31 Z hb589 (xu Z (xu Z (xu Z (xu Z (xz (.bool true) Z (xe ?_))))))
 cases h
 exact ⟨(), wi [] Z⟩
 replace h := ite_f (dec_f hb589) h
 refine aops_known 31 Z hb589 (xq Z Z Z Z (xq Z Z Z Z ?_))
 obtain ⟨c590, h⟩ := need_of h
 refine xp (.int .u8 (bix s_ s550.i)) Z Z (pu_strIdxM Z underlying9 (tm Z) (tm Z) c590) (xp (bd (57 < (bix s_ s550.i))) Z Z (pe Z) (xz (bd (57 < (bix s_ s550.i))) Z (xe ?_)))
 cases h
 exact ⟨(), wi [] Z⟩
 intro _
 have h := h586
 refine aw_cond (b := s585) (tm Z) (fun hb595 => ?_) (fun hb595 => ?_)
 replace h := ite_t hb595 h
 refine xr (xz (.i 0) Z (xz (.bool false) Z (xe (aw_ret ?_))))
 cases h
 cases onSum_inr h575
 cases congrArg some (hx551 _ rfl)
 cases onSum_inr h456
 exact rt ⟨Z, Z⟩ Z w0
 replace h := ite_fb hb595 h
 refine aw_skip (xr (xy Z (xy Z ?_)))
 obtain ⟨c591, h⟩ := need_of h
 refine xa (.int .u8 (bix s_ s550.i)) Z (pu_strIdxM Z underlying9 (tm Z) (tm Z) c591) (xz (.int .u8 (IntKind.wrap .u8 ((bix s_ s550.i) - 48))) Z (xa (.i (w64 (IntKind.wrap .u8 ((bix s_ s550.i) - 48)))) Z (pu_conv Z underlying5 underlying2 (tm Z)) (xy Z (xe (aw_seq (xr (xy Z (xy Z ?_))))))))
 refine xz (.i (w64 ((-9223372036854775808) + (w64 (IntKind.wrap .u8 ((bix s_ s550.i) - 48)))))) Z ?_
 obtain ⟨x592, x592e, h⟩ := letO_of h
 refine xa (.i x592) Z (APure.eq (pu_quo Z (tm Z) (AEv.int _ _) (by decide)) (congrArg (AV.int .i64) x592e.symm)) (xz (bd (s550.n < x592)) Z (xe (cd h Z (fun _ h => ?_) (fun _ h => ?_))))
 refine xr (xz (.i 0) Z (xz (.bool false) Z (xe (aw_ret ?_))))
 cases h
 cases onSum_inr h575
 cases congrArg some (hx551 _ rfl)
 cases onSum_inr h456
 exact rt ⟨Z, Z⟩ Z w0
 refine aw_skip (aw_region (xy Z (xz (.i (w64 (s550.n * 10))) Z (xy Z ?_))))
 obtain ⟨x593, x593e, h⟩ := letO_of h
 refine xa (.i x593) Z (APure.eq (pe Z) (congrArg (AV.int .i64) x593e.symm)) (xy Z (xe ?_))
 exact ⟨x593, (), (some_of h).symm, wi [] Z⟩
 refine aw_exit ?_
 cases h
 have h := congrArg some (hx551 _ rfl)
 exact ⟨s550.n, (), (some_of h).symm, wi [] Z⟩

theorem mewsref28.number.ok {s_ r} (h : mewsref28.number s_ = some r) : Sp prog 26 [.str s_] [] (fun v H => v = .i r ∧ H = []) := by
 unfold mewsref28.number at h
 refine sb [.tmp 2] func26 Z (xr (xz (.i 0) Z (xe (xr (xy Z ?_)))))
 obtain ⟨r2, r2e, h⟩ := bind_some h
 refine xo (mewsref01.Parse.ok r2e) call23 Z (xy Z (xz (.i r2.1) Z (xz (.bool r2.2) Z (xy Z (xy Z (xe (xr (xy Z (xy Z ?_)))))))))
 refine xe (aw_ret ?_)
 cases h
 exact rt ⟨Z, Z⟩ Z w0

theorem mewsref28.has.ok {s_ c_ r} (h : mewsref28.has s_ c_ = some r) : Sp prog 27 [.str s_, .int .u8 c_] [] (fun v H => v = .bool r ∧ H = []) := by
 unfold mewsref28.has at h
 refine sb [.tmp 4] func27 Z (xr (xz (.bool false) Z (xe ?_)))
 obtain ⟨s68, s68e, h51⟩ := bind_some h
 refine aw_join (σ := Unit) (ν := Unit) (fun u v => []) (fun u v => []) (fun u => s68 = .inl u) ?_ ?_
 intro s50
 intro _
 rintro rfl
 have h := onSum_inl h51
 refine xr (xz (.bool false) Z (xe (aw_ret ?_)))
 cases h
 exact rt ⟨Z, Z⟩ Z w0
 have h := s68e
 refine xr (xz (.i 0) Z (xe (aw_block (aw_while (σ := mewsref28.has.S0) (ν := Unit) (mewsref28.has.body0 s_ c_) (fun s61 v => [(0, .str s_), (1, .int .u8 c_), (5, .i s61.i)]) (fun s61 v => []) ⟨0⟩ () _ h (wi [] Z) ?_))))
 rintro s61 _ x63 h hx62
 unfold mewsref28.has.body0 at h
 refine aw_seq (xr (xy Z (xy Z (xa (.i (s_.length : Int)) Z (pu_strLen Z underlying9 (tm Z)) (xz (bd (s61.i < (s_.length : Int))) Z (xe (cd h Z (fun _ h => ?_) (fun _ h => ?_))))))))
 refine aw_skip (aw_seq (aw_block (xr (xy Z (xy Z ?_)))))
 obtain ⟨c65, h⟩ := need_of h
 refine xa (.int .u8 (bix s_ s61.i)) Z (pu_strIdxM Z underlying9 (tm Z) (tm Z) c65) (xy Z (xz (bd ((bix s_ s61.i) = c_)) Z (xe (cd h Z (fun _ h => ?_) (fun _ h => ?_)))))
 refine xr (xz (.bool true) Z (xe (aw_ret ?_)))
 cases h
 cases congrArg some (hx62 _ rfl)
 cases onSum_inr h51
 exact rt ⟨Z, Z⟩ Z w0
 refine aw_skip (aw_region (xy Z (xz (.i (w64 (s61.i + 1))) Z (xy Z (xe ?_)))))
 cases h
 exact ⟨_, (), Z, wi [] Z⟩
 refine aw_exit ?_
 cases h
 have h := congrArg some (hx62 _ rfl)
 exact ⟨(), (), (some_of h).symm, w0⟩

theorem mewsref28.Commands.ok  {r : List api.Command} (h : mewsref28.Commands = some r) : Sp prog 18 [] [] (fun v H => ∃ n0, v = .sl (.own n0) 10 (m3L r) ∧ H = [(n0, .spare)]) := by
 unfold mewsref28.Commands at h
 refine sb [.tmp 0] func18 Z (xr (xa (.sl .full 10 e2L) Z (pu_assign Z (AEv.nil 10 (by decide))) (xe (xr (xa (.sl .full 10 e2L) Z (pu_assign Z (AEv.nil 10 (by decide))) (xe (aw_seq ?_)))))))
 refine aw_region ?_
 obtain ⟨r175, r175e, h⟩ := bind_some h
 refine xc Z (op_call (vs := [.str longS1, .int .u8 10]) (H := []) Z call25 ⟨(AEv.const (by kernel_rfl)), (AEv.int _ _), trivial⟩ (List.Perm.refl _) (mewsref28.split.ok r175e) ?_)
 rintro _ _ ⟨t176, rfl, rfl⟩
 refine xy Z (xe ?_)
 obtain ⟨s261, s261e, h263⟩ := bind_some h
 refine aw_meet (ν := Nat) (fun v => [(1, .sl (.own v) 10 (m3L s261))]) (fun v => [(v, .spare)]) ?_ ?_
 have h := s261e
 refine xr (xz (.i 0) Z (xe (aw_block (aw_claim 1 (tm Z) fun t348 => (aw_while (σ := mewsref28.Commands.S0) (ν := Nat) (mewsref28.Commands.body0 r175) (fun s318 v => [(1, .sl (.own v) 10 (m3L s318.out)), (2, .sl (.own t176) 1 (m2L r175)), (3, .i s318.i)]) (fun s318 v => [(v, .spare), (t176, .spare)]) ⟨([] : List api.Command), 0⟩ t348 _ h (wi [0, 1] Z) ?_)))))
 rintro s318 n319 x321 h hx320
 unfold mewsref28.Commands.body0 at h
 refine aw_seq (xr (xy Z (xy Z (xa (.i (r175.length : Int)) Z (pu_lenM Z underlying31 (tm Z)) (xz (bd (s318.i < (r175.length : Int))) Z (xe (cd h Z (fun _ h => ?_) (fun _ h => ?_))))))))
 refine aw_skip (aw_seq (aw_block (xr (xy Z (xy Z ?_)))))
 obtain ⟨c323, h⟩ := need_of h
 refine xa (.vptr [.str (ix r175 s318.i)]) Z (pu_indexAddrM Z underlying31 sizeOf9 (tm Z) (tm Z) c323 Z) (xc Z (op_loadV1 Z isAgg9 (tm Z) Z ?_))
 obtain ⟨r324, r324e, h⟩ := bind_some h
 refine xk (mewsref28.split.ok r324e) call25 Z ?_
 rintro _ _ ⟨t325, rfl, rfl⟩
 refine xy Z (xe ?_)
 obtain ⟨c326, h⟩ := need_of h
 obtain ⟨c327, h⟩ := need_of h
 obtain ⟨r328, r328e, h⟩ := bind_some h
 obtain ⟨c329, h⟩ := need_of h
 obtain ⟨r330, r330e, h⟩ := bind_some h
 obtain ⟨c331, h⟩ := need_of h
 obtain ⟨r332, r332e, h⟩ := bind_some h
 obtain ⟨c333, h⟩ := need_of h
 obtain ⟨r334, r334e, h⟩ := bind_some h
 obtain ⟨c335, h⟩ := need_of h
 obtain ⟨r336, r336e, h⟩ := bind_some h
 obtain ⟨c337, h⟩ := need_of h
 obtain ⟨r338, r338e, h⟩ := bind_some h
 obtain ⟨c339, h⟩ := need_of h
 obtain ⟨r340, r340e, h⟩ := bind_some h
 obtain ⟨c341, h⟩ := need_of h
 obtain ⟨r342, r342e, h⟩ := bind_some h
 obtain ⟨c343, h⟩ := need_of h
 obtain ⟨r344, r344e, h⟩ := bind_some h
 obtain ⟨c345, h⟩ := need_of h
 refine aw_reserve fun p346 => (aw_planR (by decide +kernel) [[], [], [], [], [], [], [], [], [], [], [], [], [], [], [], [], [], [], [], [], [], [], [], [], [], [], [], [], [], [], [], [], [], [], [], [], [], [], [], [], [], [], [(2, 0, true), (0, 0, true)], []] [[42], [], [42], []] [[[(p346, .resv)], [(p346, .spare)]], [[(t325, .spare)]], [[(n319, .spare)], []], [[(t176, .spare)]]] [.sl (.own n319) 10 (m3L s318.out), .sl (.own t325) 1 (m2L r324), .vptr [.str (ix r324 0)], .str (ix r324 0), .sl (.own t325) 1 (m2L r324), .vptr [.str (ix r324 1)], .str (ix r324 1), .i r328, .sl (.own t325) 1 (m2L r324), .vptr [.str (ix r324 2)], .str (ix r324 2), .i r330, .sl (.own t325) 1 (m2L r324), .vptr [.str (ix r324 3)], .str (ix r324 3), .bool r332, .sl (.own t325) 1 (m2L r324), .vptr [.str (ix r324 3)], .str (ix r324 3), .bool r334, .sl (.own t325) 1 (m2L r324), .vptr [.str (ix r324 3)], .str (ix r324 3), .bool r336, .sl (.own t325) 1 (m2L r324), .vptr [.str (ix r324 4)], .str (ix r324 4), .i r338, .sl (.own t325) 1 (m2L r324), .vptr [.str (ix r324 5)], .str (ix r324 5), .i r340, .sl (.own t325) 1 (m2L r324), .vptr [.str (ix r324 6)], .str (ix r324 6), .i r342, .sl (.own t325) 1 (m2L r324), .vptr [.str (ix r324 7)], .str (ix r324 7), .i r344, .agg [.str (ix r324 0), .i r328, .i r330, .bool r332, .bool r334, .bool r336, .i r338, .i r340, .i r342, .i r344], .sl .full 10 ([({ Name := ix r324 0, Arity := r328, Of := r330, Write := r332, Grow := r334, Free := r336, Keys := r338, First := r340, Last := r342, Step := r344 } : api.Command)].map api.Command.av), .sl (.own p346) 10 (m3L (s318.out ++ [({ Name := ix r324 0, Arity := r328, Of := r330, Write := r332, Grow := r334, Free := r336, Keys := r338, First := r340, Last := r342, Step := r344 } : api.Command)])), .sl (.own p346) 10 (m3L (s318.out ++ [({ Name := ix r324 0, Arity := r328, Of := r330, Write := r332, Grow := r334, Free := r336, Keys := r338, First := r340, Last := r342, Step := r344 } : api.Command)]))] (by decide +kernel) Z Z ?_ ?_)
 exact ⟨ym Z Z Z, ym Z Z Z, yp Z (pu_indexAddrM Z underlying31 sizeOf9 (tm Z) (AEv.int _ _) c326 Z), stepg_plain Z (op_loadV1 Z isAgg9 (tm Z) Z ⟨Z, Z⟩), ym Z Z Z, yp Z (pu_indexAddrM Z underlying31 sizeOf9 (tm Z) (AEv.int _ _) c327 Z), stepg_plain Z (op_loadV1 Z isAgg9 (tm Z) Z ⟨Z, Z⟩), stepg_plain Z (op_call (vs := [.str (ix r324 1)]) (H := []) Z call26 ⟨(tm Z), trivial⟩ (R := []) (List.Perm.refl _) (mewsref28.number.ok r328e) (by rintro _ _ ⟨rfl, rfl⟩; exact ⟨Z, Z⟩)), ym Z Z Z, yp Z (pu_indexAddrM Z underlying31 sizeOf9 (tm Z) (AEv.int _ _) c329 Z), stepg_plain Z (op_loadV1 Z isAgg9 (tm Z) Z ⟨Z, Z⟩), stepg_plain Z (op_call (vs := [.str (ix r324 2)]) (H := []) Z call26 ⟨(tm Z), trivial⟩ (R := []) (List.Perm.refl _) (mewsref28.number.ok r330e) (by rintro _ _ ⟨rfl, rfl⟩; exact ⟨Z, Z⟩)), ym Z Z Z, yp Z (pu_indexAddrM Z underlying31 sizeOf9 (tm Z) (AEv.int _ _) c331 Z), stepg_plain Z (op_loadV1 Z isAgg9 (tm Z) Z ⟨Z, Z⟩), stepg_plain Z (op_call (vs := [.str (ix r324 3), .int .u8 119]) (H := []) Z call27 ⟨(tm Z), (AEv.int _ _), trivial⟩ (R := []) (List.Perm.refl _) (mewsref28.has.ok r332e) (by rintro _ _ ⟨rfl, rfl⟩; exact ⟨Z, Z⟩)), ym Z Z Z, yp Z (pu_indexAddrM Z underlying31 sizeOf9 (tm Z) (AEv.int _ _) c333 Z), stepg_plain Z (op_loadV1 Z isAgg9 (tm Z) Z ⟨Z, Z⟩), stepg_plain Z (op_call (vs := [.str (ix r324 3), .int .u8 103]) (H := []) Z call27 ⟨(tm Z), (AEv.int _ _), trivial⟩ (R := []) (List.Perm.refl _) (mewsref28.has.ok r334e) (by rintro _ _ ⟨rfl, rfl⟩; exact ⟨Z, Z⟩)), ym Z Z Z, yp Z (pu_indexAddrM Z underlying31 sizeOf9 (tm Z) (AEv.int _ _) c335 Z), stepg_plain Z (op_loadV1 Z isAgg9 (tm Z) Z ⟨Z, Z⟩), stepg_plain Z (op_call (vs := [.str (ix r324 3), .int .u8 102]) (H := []) Z call27 ⟨(tm Z), (AEv.int _ _), trivial⟩ (R := []) (List.Perm.refl _) (mewsref28.has.ok r336e) (by rintro _ _ ⟨rfl, rfl⟩; exact ⟨Z, Z⟩)), ym Z Z Z, yp Z (pu_indexAddrM Z underlying31 sizeOf9 (tm Z) (AEv.int _ _) c337 Z), stepg_plain Z (op_loadV1 Z isAgg9 (tm Z) Z ⟨Z, Z⟩), stepg_plain Z (op_call (vs := [.str (ix r324 4)]) (H := []) Z call26 ⟨(tm Z), trivial⟩ (R := []) (List.Perm.refl _) (mewsref28.number.ok r338e) (by rintro _ _ ⟨rfl, rfl⟩; exact ⟨Z, Z⟩)), ym Z Z Z, yp Z (pu_indexAddrM Z underlying31 sizeOf9 (tm Z) (AEv.int _ _) c339 Z), stepg_plain Z (op_loadV1 Z isAgg9 (tm Z) Z ⟨Z, Z⟩), stepg_plain Z (op_call (vs := [.str (ix r324 5)]) (H := []) Z call26 ⟨(tm Z), trivial⟩ (R := []) (List.Perm.refl _) (mewsref28.number.ok r340e) (by rintro _ _ ⟨rfl, rfl⟩; exact ⟨Z, Z⟩)), ym Z Z Z, yp Z (pu_indexAddrM Z underlying31 sizeOf9 (tm Z) (AEv.int _ _) c341 Z), stepg_plain Z (op_loadV1 Z isAgg9 (tm Z) Z ⟨Z, Z⟩), stepg_plain Z (op_call (vs := [.str (ix r324 6)]) (H := []) Z call26 ⟨(tm Z), trivial⟩ (R := []) (List.Perm.refl _) (mewsref28.number.ok r342e) (by rintro _ _ ⟨rfl, rfl⟩; exact ⟨Z, Z⟩)), ym Z Z Z, yp Z (pu_indexAddrM Z underlying31 sizeOf9 (tm Z) (AEv.int _ _) c343 Z), stepg_plain Z (op_loadV1 Z isAgg9 (tm Z) Z ⟨Z, Z⟩), stepg_plain Z (op_call (vs := [.str (ix r324 7)]) (H := []) Z call26 ⟨(tm Z), trivial⟩ (R := []) (List.Perm.refl _) (mewsref28.number.ok r344e) (by rintro _ _ ⟨rfl, rfl⟩; exact ⟨Z, Z⟩)), yp Z (pu_build (zs := [.str nS, .i 0, .i 0, .bool false, .bool false, .bool false, .i 0, .i 0, .i 0, .i 0]) (szs := [1, 1, 1, 1, 1, 1, 1, 1, 1, 1]) (aparts := [(0, .str (ix r324 0)), (1, .i r328), (2, .i r330), (3, .bool r332), (4, .bool r334), (5, .bool r336), (6, .i r338), (7, .i r340), (8, .i r342), (9, .i r344)]) (cs := [.str (ix r324 0), .i r328, .i r330, .bool r332, .bool r334, .bool r336, .i r338, .i r340, .i r342, .i r344]) Z underlying23 zeroValue23 Z ⟨sizeOf9, sizeOf3, sizeOf3, sizeOf4, sizeOf4, sizeOf4, sizeOf3, sizeOf3, sizeOf3, sizeOf3, trivial⟩ ⟨Z, (tm Z), ⟨Z, (tm Z), ⟨Z, (tm Z), ⟨Z, (tm Z), ⟨Z, (tm Z), ⟨Z, (tm Z), ⟨Z, (tm Z), ⟨Z, (tm Z), ⟨Z, (tm Z), ⟨Z, (tm Z), trivial⟩⟩⟩⟩⟩⟩⟩⟩⟩⟩ Z), stepg_plain Z (op_buildSlice (xs := ([({ Name := ix r324 0, Arity := r328, Of := r330, Write := r332, Grow := r334, Free := r336, Keys := r338, First := r340, Last := r342, Step := r344 } : api.Command)] : List api.Command).map api.Command.av) (aparts := [(0, .agg [.str (ix r324 0), .i r328, .i r330, .bool r332, .bool r334, .bool r336, .i r338, .i r340, .i r342, .i r344])]) Z underlying37 sizeOf23 zeroValue23 (by decide) (by decide) ⟨Z, (tm Z), trivial⟩ Z Z Z ⟨Z, Z⟩), stepg_plain Z (aop_settleS (op_appendOM (q := 0) Z underlying37 underlying37 (.inl Z) typeInfo23 Z Z Z (by decide) (tm Z) Z (given_sl (tm Z)) c345 fun t => ⟨t, Z, Z⟩) ⟨Z, Z⟩), ym Z Z Z, trivial⟩
 refine aw_region (xy Z (xz (.i (w64 (s318.i + 1))) Z (xy Z (xe ?_))))
 cases h
 exact ⟨_, p346, Z, wi [0, 2] Z⟩
 refine aw_exit ?_
 cases h
 cases congrArg some (hx320 _ rfl)
 exact ⟨n319, wi [0] Z⟩
 intro n262
 have h := h263
 refine xr (xy Z (xy Z (xe (aw_ret ?_))))
 cases h
 exact rt ⟨n262, Z, Z⟩ Z (wi [0] Z)

theorem slices.Sort_string.ok {x r} (h : slices.Sort_string x = some r) (o0 : Nat) : Sp prog 24 [.vec o0] [(o0, .vec 1 (m2L x))] (fun v H => v = .tup [] ∧ H = [(o0, .vec 1 (m2L r))]) := by
 unfold slices.Sort_string at h
 obtain ⟨c, h⟩ := need_of h
 cases h
 exact spec_sortS (fun blk off cap ss w => Go.Proofs.Tryd.slices_Sort_string blk off cap ss w) (fun p cap w => Go.Proofs.Tryd.slices_Sort_string_none p cap w) c o0

theorem table.All.ok  {r : List (List UInt8)} (h : table.All = some r) : Sp prog 17 [] [] (fun v H => v = .sl .no 1 (m2L r) ∧ H = []) := by
 unfold table.All at h
 refine sb [.tmp 0] func17 Z (xr (xa (.sl .full 1 e1L) Z (pu_assign Z (AEv.nil 1 (by decide))) (xe (xr (xa (.sl .full 1 e1L) Z (pu_assign Z (AEv.nil 1 (by decide))) (xe ?_))))))
 obtain ⟨s516, s516e, h518⟩ := bind_some h
 refine aw_meet (ν := Nat) (fun v => [(1, .vec v)]) (fun v => [(v, .vec 1 (m2L s516))]) ?_ ?_
 have h := s516e
 refine xr (xz (.i 1) Z (xe (aw_block (aw_vecNil 1 (tm Z) fun t689 => (aw_while (σ := table.All.S0) (ν := Nat) table.All.body0 (fun s631 v => [(1, .vec v), (2, .i s631.of)]) (fun s631 v => [(v, .vec 1 (m2L s631.v))]) ⟨1, ([] : List (List UInt8))⟩ t689 _ h (wi [0] Z) ?_)))))
 rintro s631 n632 x634 h hx633
 unfold table.All.body0 at h
 refine aw_seq (xr (xy Z (xz (bd (s631.of ≤ 7)) Z (xe (cd h Z (fun _ h => ?_) (fun _ h => ?_))))))
 refine aw_skip ?_
 obtain ⟨s660, s660e, h662⟩ := bind_some h
 refine aw_meet (ν := Nat) (fun v => [(1, .vec v), (2, .i s631.of)]) (fun v => [(v, .vec 1 (m2L s660))]) ?_ ?_
 have h := s660e
 refine aw_block (xr (xy Z ?_))
 obtain ⟨r664, r664e, h⟩ := bind_some h
 refine xo (table.rows.ok r664e) call19 Z (xa (.i (r664.length : Int)) Z (pu_lenM Z underlying42 (tm Z)) (xz (.i 0) Z (xe (aw_block (aw_while (σ := table.All.S2) (ν := Nat) (table.All.body2 r664) (fun s678 v => [(1, .vec v), (2, .i s631.of), (10, .sl .full 4 (m1L r664)), (11, .i (r664.length : Int)), (12, .i s678.t12)]) (fun s678 v => [(v, .vec 1 (m2L s678.v))]) ⟨0, s631.v⟩ n632 _ h (wi [0] Z) ?_)))))
 rintro s678 n679 x681 h hx680
 unfold table.All.body2 at h
 refine xr (xz (bd (s678.t12 < (r664.length : Int))) Z (xe (aw_seq (cd h Z (fun _ h => ?_) (fun _ h => ?_)))))
 refine aw_skip (aw_seq (aw_block (aw_seq (aw_region ?_))))
 obtain ⟨c683, h⟩ := need_of h
 refine xa (.vptr [.str (ix r664 s678.t12).name, .i (ix r664 s678.t12).arity, .str (ix r664 s678.t12).is, .str (ix r664 s678.t12).keys]) Z (pu_indexAddrM Z underlying42 sizeOf45 (tm Z) (tm Z) c683 Z) (xc Z (op_loadVN Z isAgg45 sizeOf45 (tm Z) (nb Z) Z (xA (.agg [.str nS, .i 0, .str nS, .str nS]) zeroValue45 Z fun p684 => xs 0 (table.row.ct (ix r664 s678.t12)) sizeOf45 Z (xe (aw_region (xy Z (xf (.ptr p684 0) underlying45 sizeOf9 Z (xl 0 isAgg9 Z (xc Z (op_buildSlice (xs := ([(ix r664 s678.t12).name] : List (List UInt8)).map AV.str) (aparts := [(0, .str (ix r664 s678.t12).name)]) Z underlying31 sizeOf9 zeroValue9 (by decide) (by decide) ⟨Z, (tm Z), trivial⟩ Z Z Z ?_))))))))))
 obtain ⟨c685, h⟩ := need_of h
 refine xc Z (op_appendVM (sz := 1) (q := 1) Z underlying31 underlying31 (.inl Z) typeInfo9 Z Z Z (by decide) (tm Z) Z (given_sl (tm Z)) c685 ?_)
 intro p686
 refine xy Z (xe (aw_region (xz (.i (w64 (s678.t12 + 1))) Z (xy Z (xe ?_)))))
 cases h
 exact ⟨_, p686, Z, wi [1] Z⟩
 refine aw_exit ?_
 cases h
 cases congrArg some (hx680 _ rfl)
 exact ⟨n679, wi [0] Z⟩
 intro n661
 have h := h662
 refine aw_region (xy Z (xz (.i (w64 (s631.of + 1))) Z (xy Z (xe ?_))))
 cases h
 exact ⟨_, n661, Z, wi [0] Z⟩
 refine aw_exit ?_
 cases h
 cases congrArg some (hx633 _ rfl)
 exact ⟨n632, wi [0] Z⟩
 intro n517
 have h := h518
 refine xr (xy Z ?_)
 obtain ⟨r690, r690e, h⟩ := bind_some h
 refine xo (slices.Sort_string.ok r690e n517) call24 Z (xe (xr (xy Z (xy Z (xe (aw_publish 0 0 (tm Z) Z (aw_ret ?_)))))))
 cases h
 exact rt ⟨Z, Z⟩ Z w0

end Go.Pu
