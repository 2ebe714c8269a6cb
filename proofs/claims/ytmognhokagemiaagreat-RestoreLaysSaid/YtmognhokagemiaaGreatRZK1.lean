/- Printed by lift.py: the functions come to them. -/
import Derived.Test.YtmognhokagemiaaGreatLiftWS
import Derived.Test.YtmognhokagemiaaGreatRZK0
set_option maxRecDepth 100000
set_option maxHeartbeats 0
namespace Go.Pu
open Go.Lift Go.Proofs.Tryz Go.RowKit Go.Proofs

theorem parse.parser.body.ok {p_ r} (h : parse.parser.body p_ = some r) (o0 q0 q1 : Nat) : Sp prog 134 [.ptr o0 0] [(o0, .cells (parse.parser.ct (.own q0) (.own q1) p_)), (q0, .spare), (q1, .spare)] (fun v H => ∃ n0 n1, v = .bool r.1 ∧ H = [(o0, .cells [.str r.2.in_.Rest, .sl (.own n0) 1 (m3L r.2.in_.Args), .i r.2.in_.Left, .i r.2.in_.Size, .bool r.2.in_.Body, .i r.2.in_.Need, .i r.2.in_.Dead, .str r.2.s, .i r.2.l.Args, .i r.2.l.Bulk, .i r.2.l.Line, .sl (.own n1) 2 (m6L r.2.out)]), (n0, .spare), (n1, .spare)]) := by
 unfold parse.parser.body at h
 refine sb [.tmp 2] func134 Z (xr (xz (.bool false) Z (xe (xr (xy Z (xa (.ptr o0 0) Z (pu_nilCheck Z (tm Z) Z) (xf (.ptr o0 0) underlying184 sizeOf144 Z ?_)))))))
 refine xf (.ptr o0 5) underlying144 sizeOf3 Z (xl 0 isAgg3 Z (xa (.i (if p_.in_.Need < 0 then 0 else p_.in_.Need)) Z (pu_max2 Z (tm Z) (AEv.int _ _)) (xy Z (xe ?_))))
 obtain ⟨s155, s155e, h106⟩ := bind_some h
 refine aw_join (σ := Unit) (ν := Unit) (fun u v => [(0, .ptr o0 0), (3, .i (if p_.in_.Need < 0 then 0 else p_.in_.Need))]) (fun u v => [(o0, .cells (parse.parser.ct (.own q0) (.own q1) p_)), (q0, .spare), (q1, .spare)]) (fun u => s155 = .inl u) ?_ ?_
 intro s105
 intro _
 rintro rfl
 have h := onSum_inl h106
 refine aw_seq ?_
 obtain ⟨c136, h⟩ := need_of h
 obtain ⟨r137, r137e, h⟩ := bind_some h
 obtain ⟨c138, h⟩ := need_of h
 refine aw_reserve fun p139 => (aw_planR (by decide +kernel) [[], [], [], [], [], [(1, 0, false)], [], [], [], [(1, 0, false)], [], [], [], [], [(2, 0, true), (0, 0, true)], [], [], [], [(1, 0, true)]] [[14], [18], [14], []] [[[(p139, .resv)], [(p139, .spare)]], [[(o0, .cells (parse.parser.ct (.own q0) (.own q1) p_))], [(o0, .cells (parse.parser.ct (.own p139) (.own q1) { p_ with in_ := { p_.in_ with Args := p_.in_.Args ++ [r137] } }))]], [[(q0, .spare)], []], [[(q1, .spare)]]] [.ptr o0 0, .ptr o0 0, .ptr o0 0, .ptr o0 0, .ptr o0 1, .sl (.own q0) 1 (m3L p_.in_.Args), .ptr o0 0, .ptr o0 0, .ptr o0 7, .str p_.s, .i (if p_.in_.Need < 0 then 0 else p_.in_.Need), .str (sub p_.s 0 (if p_.in_.Need < 0 then 0 else p_.in_.Need)), .str r137, .sl .full 1 ([r137].map AV.str), .sl (.own p139) 1 (m3L (p_.in_.Args ++ [r137])), .ptr o0 0, .ptr o0 0, .ptr o0 1, .un] (by decide +kernel) Z Z ?_ ?_)
 exact ⟨ym Z Z Z, ym Z Z Z, yp Z (pu_nilCheck Z (tm Z) Z), yp Z (fa Z underlying184 Z sizeOf144 Z Z Z), yp Z (fa Z underlying144 Z sizeOf65 Z Z Z), stepg_plain Z (op_load1 (i := 0) Z isAgg65 (tm Z) Z Z ⟨Z, Z⟩), ym Z Z Z, yp Z (pu_nilCheck Z (tm Z) Z), yp Z (fa Z underlying184 Z sizeOf9 Z Z Z), stepg_plain Z (op_load1 (i := 0) Z isAgg9 (tm Z) Z Z ⟨Z, Z⟩), ym Z Z Z, yp Z (pu_strSliceM Z underlying9 (tm Z) Z ⟨_, (tm Z)⟩ c136), stepg_plain Z (op_call (vs := [.str (sub p_.s 0 (if p_.in_.Need < 0 then 0 else p_.in_.Need))]) (H := []) Z call122 ⟨(tm Z), trivial⟩ (R := []) (List.Perm.refl _) (strings.Clone.ok r137e) (by rintro _ _ ⟨rfl, rfl⟩; exact ⟨Z, Z⟩)), stepg_plain Z (op_buildSlice (xs := ([r137] : List (List UInt8)).map AV.str) (aparts := [(0, .str r137)]) Z underlying65 sizeOf9 zeroValue9 (by decide) (by decide) ⟨Z, (tm Z), trivial⟩ Z Z Z ⟨Z, Z⟩), stepg_plain Z (aop_settleS (op_appendOM (q := 0) Z underlying65 underlying65 (.inl Z) typeInfo9 Z Z Z (by decide) (tm Z) Z (given_sl (tm Z)) c138 fun t => ⟨t, Z, Z⟩) ⟨Z, Z⟩), yp Z (pu_nilCheck Z (tm Z) Z), yp Z (fa Z underlying184 Z sizeOf144 Z Z Z), yp Z (fa Z underlying144 Z sizeOf65 Z Z Z), stepg_plain Z (op_store (i := 0) (cs' := (parse.parser.ct (.own p139) (.own q1) { p_ with in_ := { p_.in_ with Args := p_.in_.Args ++ [r137] } })) Z sizeOf65 (tm Z) (v := .sl (.own p139) 1 (m3L (p_.in_.Args ++ [r137]))) (tm Z) Z Z Z (nb Z) Z ⟨Z, Z⟩), trivial⟩
 refine xr (xy Z (xa (.ptr o0 0) Z (pu_nilCheck Z (tm Z) Z) (xf (.ptr o0 0) underlying184 sizeOf144 Z (xf (.ptr o0 2) underlying144 sizeOf3 Z (xl 1 isAgg3 Z (xz (.i (w64 (p_.in_.Left - 1))) Z (xa (.ptr o0 0) Z (pu_nilCheck Z (tm Z) Z) (xf (.ptr o0 0) underlying184 sizeOf144 Z ?_))))))))
 refine xf (.ptr o0 2) underlying144 sizeOf3 Z (xs 1 (parse.parser.ct (.own p139) (.own q1) { p_ with in_ := { p_.in_ with Args := p_.in_.Args ++ [r137], Left := w64 (p_.in_.Left - 1) } }) sizeOf3 Z (xe (xr (xy Z (xy Z (xa (.ptr o0 0) Z (pu_nilCheck Z (tm Z) Z) (xf (.ptr o0 0) underlying184 sizeOf144 Z (xf (.ptr o0 4) underlying144 sizeOf4 Z ?_))))))))
 refine xs 1 (parse.parser.ct (.own p139) (.own q1) { p_ with in_ := { p_.in_ with Args := p_.in_.Args ++ [r137], Left := w64 (p_.in_.Left - 1), Body := false } }) sizeOf4 Z (xa (.ptr o0 0) Z (pu_nilCheck Z (tm Z) Z) (xf (.ptr o0 0) underlying184 sizeOf144 Z (xf (.ptr o0 5) underlying144 sizeOf3 Z (xs 1 (parse.parser.ct (.own p139) (.own q1) { p_ with in_ := ({ Rest := p_.in_.Rest, Args := p_.in_.Args ++ [r137], Left := w64 (p_.in_.Left - 1), Size := p_.in_.Size, Body := false, Need := 0, Dead := p_.in_.Dead } : api.Input) }) sizeOf3 Z (xe (xr (xy Z (xy Z ?_))))))))
 refine xz (.i (w64 ((if p_.in_.Need < 0 then 0 else p_.in_.Need) + 2))) Z ?_
 obtain ⟨r140, r140e, h⟩ := bind_some h
 refine aops_weak (weak_pick [1, 0, 2] (by decide) Z) (xk (parse.parser.past.ok r140e o0 p139 q1) call144 Z ?_)
 rintro _ _ ⟨t141, t142, rfl, rfl⟩
 refine xe ?_
 obtain ⟨s146, s146e, h149⟩ := bind_some h
 refine aw_meet (ν := Nat × Nat) (fun v => []) (fun v => [(o0, .cells [.str s146.1, .sl (.own v.1) 1 (m3L s146.2.1), .i s146.2.2.1, .i s146.2.2.2.1, .bool s146.2.2.2.2.1, .i s146.2.2.2.2.2.1, .i s146.2.2.2.2.2.2.1, .str s146.2.2.2.2.2.2.2.1, .i s146.2.2.2.2.2.2.2.2.1, .i s146.2.2.2.2.2.2.2.2.2.1, .i s146.2.2.2.2.2.2.2.2.2.2.1, .sl (.own v.2) 2 (m6L s146.2.2.2.2.2.2.2.2.2.2.2)]), (v.1, .spare), (v.2, .spare)]) ?_ ?_
 have h := s146e
 refine aw_upd (xr (xy Z (xa (.ptr o0 0) Z (pu_nilCheck Z (tm Z) Z) (xf (.ptr o0 0) underlying184 sizeOf144 Z (xf (.ptr o0 2) underlying144 sizeOf3 Z (xl 0 isAgg3 Z (xz (bd (r140.in_.Left = 0)) Z (xe ?_))))))))
 refine aw_cond (b := decide (r140.in_.Left = 0)) (tm Z) (fun hb154 => ?_) (fun hb154 => ?_)
 replace h := ite_t (dec_t hb154) h
 refine aw_region (xy Z (xy Z (xa (.ptr o0 0) Z (pu_nilCheck Z (tm Z) Z) (xf (.ptr o0 0) underlying184 sizeOf144 Z (xf (.ptr o0 1) underlying144 sizeOf65 Z (xl 0 isAgg65 Z ?_))))))
 obtain ⟨r151, r151e, h⟩ := bind_some h
 refine xc Z (op_call (vs := [.ptr o0 0, .sl .no 1 (m3L r140.in_.Args)]) (H := [(o0, .cells (parse.parser.ct (.own t141) (.own t142) r140)), (t141, .spare), (t142, .spare)]) Z call137 ⟨(tm Z), (AEv.le (tm Z) (AV.Le.forget _ _ _)), trivial⟩ (List.Perm.refl _) (parse.parser.whole.ok r151e o0 t141 t142) ?_)
 rintro _ _ ⟨t152, rfl, rfl⟩
 refine xe (upd_claimCell 0 1 Z Z fun t153 => (upd_done ?_))
 cases h
 exact ⟨(t153, t152), wi [1, 0, 2] Z⟩
 replace h := ite_f (dec_f hb154) h
 refine aw_skip (upd_done ?_)
 cases h
 exact ⟨(t141, t142), wi [0, 1, 2] Z⟩
 rintro ⟨n147, n148⟩
 have h := h149
 refine xr (xz (.bool true) Z (xe (aw_ret ?_)))
 cases h
 exact rt ⟨n147, n148, Z, Z⟩ Z (wi [0, 1, 2] Z)
 have h := s155e
 refine xr (xz (.i 0) Z (xe (aw_block (aw_while (σ := parse.parser.body.S0) (ν := Unit) (parse.parser.body.body0 p_) (fun s124 v => [(0, .ptr o0 0), (3, .i (if p_.in_.Need < 0 then 0 else p_.in_.Need)), (11, .i s124.t11)]) (fun s124 v => [(o0, .cells (parse.parser.ct (.own q0) (.own q1) p_)), (q0, .spare), (q1, .spare)]) ⟨0⟩ () _ h (wi [0, 1, 2] Z) ?_))))
 rintro s124 _ x126 h hx125
 unfold parse.parser.body.body0 at h
 refine xr (xz (bd (s124.t11 < 2)) Z (xe (aw_seq (cd h Z (fun _ h => ?_) (fun _ h => ?_)))))
 refine aw_skip (aw_seq (aw_block (xr (xy Z (xy Z (xe (aw_seq (aw_seq ?_))))))))
 refine aw_region (xy Z (xa (.ptr o0 0) Z (pu_nilCheck Z (tm Z) Z) (xf (.ptr o0 7) underlying184 sizeOf9 Z (xl 0 isAgg9 Z (xa (.i (p_.s.length : Int)) Z (pu_strLen Z underlying9 (tm Z)) (xy Z (xz (.i (w64 ((p_.s.length : Int) - (if p_.in_.Need < 0 then 0 else p_.in_.Need)))) Z (xy Z (xz (bd ((w64 ((p_.s.length : Int) - (if p_.in_.Need < 0 then 0 else p_.in_.Need))) ≤ s124.t11)) Z ?_)))))))))
 refine xe (cd h Z (fun _ h => ?_) (fun _ h => ?_))
 refine xr (xz (.bool false) Z (xe (aw_ret ?_)))
 cases h
 cases congrArg some (hx125 _ rfl)
 cases onSum_inr h106
 exact rt ⟨q0, q1, Z, Z⟩ Z (wi [0, 1, 2] Z)
 refine aw_skip (aw_seq ?_)
 obtain ⟨c128, h⟩ := need_of h
 obtain ⟨c129, h⟩ := need_of h
 refine aw_planR (by decide +kernel) [[], [], [], [(0, 0, false)], [], [], [], [], [], [], []] [[], [], []] [[[(o0, .cells (parse.parser.ct (.own q0) (.own q1) p_))]], [[(q0, .spare)]], [[(q1, .spare)]]] [.ptr o0 0, .ptr o0 0, .ptr o0 7, .str p_.s, .i (if p_.in_.Need < 0 then 0 else p_.in_.Need), .i s124.t11, .i (w64 ((if p_.in_.Need < 0 then 0 else p_.in_.Need) + s124.t11)), .int .u8 (bix p_.s (w64 ((if p_.in_.Need < 0 then 0 else p_.in_.Need) + s124.t11))), .i s124.t11, .int .u8 (bix [13, 10] s124.t11), bn ((bix p_.s (w64 ((if p_.in_.Need < 0 then 0 else p_.in_.Need) + s124.t11))) = (bix [13, 10] s124.t11))] (by decide +kernel) Z Z ?_ ?_
 exact ⟨ym Z Z Z, yp Z (pu_nilCheck Z (tm Z) Z), yp Z (fa Z underlying184 Z sizeOf9 Z Z Z), stepg_plain Z (op_load1 (i := 0) Z isAgg9 (tm Z) Z Z ⟨Z, Z⟩), ym Z Z Z, ym Z Z Z, yp Z (pe Z), yp Z (pu_strIdxM Z underlying9 (tm Z) (tm Z) c128), ym Z Z Z, yp Z (pu_strIdxM Z underlying9 (AEv.const Z) (tm Z) c129), yp Z (pe Z), trivial⟩
 refine aw_cond (b := (!decide ((bix p_.s (w64 ((if p_.in_.Need < 0 then 0 else p_.in_.Need) + s124.t11))) = (bix [13, 10] s124.t11)))) (tm Z) (fun hb133 => ?_) (fun hb133 => ?_)
 replace h := ite_f (ndec_t hb133) h
 refine xr (xy Z ?_)
 obtain ⟨r130, r130e, h⟩ := bind_some h
 refine xk (parse.parser.dies.ok r130e o0 q0 q1) call143 Z ?_
 rintro _ _ ⟨t131, rfl, rfl⟩
 refine xy Z (xe (aw_claimCell 0 1 Z Z fun t132 => (aw_ret ?_)))
 cases h
 cases congrArg some (hx125 _ rfl)
 cases onSum_inr h106
 exact rt ⟨t132, t131, Z, Z⟩ Z (wi [1, 0, 2] Z)
 replace h := ite_t (ndec_f hb133) h
 refine aw_skip (aw_region (xz (.i (w64 (s124.t11 + 1))) Z (xy Z (xe ?_))))
 cases h
 exact ⟨_, (), Z, wi [0, 1, 2] Z⟩
 refine aw_exit ?_
 cases h
 have h := congrArg some (hx125 _ rfl)
 exact ⟨(), (), (some_of h).symm, wi [0, 1, 2] Z⟩

theorem parse.parser.header.ok {mark most over p_ r} (h : parse.parser.header mark most over p_ = some r) (o0 q0 q1 : Nat) : Sp prog 135 [.ptr o0 0, .int .u8 mark, .i most, .i over] [(o0, .cells (parse.parser.ct (.own q0) (.own q1) p_)), (q0, .spare), (q1, .spare)] (fun v H => ∃ n0 n1, v = .tup [.i r.1, .bool r.2.1] ∧ H = [(o0, .cells [.str r.2.2.in_.Rest, .sl (.own n0) 1 (m3L r.2.2.in_.Args), .i r.2.2.in_.Left, .i r.2.2.in_.Size, .bool r.2.2.in_.Body, .i r.2.2.in_.Need, .i r.2.2.in_.Dead, .str r.2.2.s, .i r.2.2.l.Args, .i r.2.2.l.Bulk, .i r.2.2.l.Line, .sl (.own n1) 2 (m6L r.2.2.out)]), (n0, .spare), (n1, .spare)]) := by
 unfold parse.parser.header at h
 refine sb [.tmp 8, .tmp 9] func135 Z (xr (xz (.i 0) Z (xz (.bool false) Z (xe (aw_seq (xr (xy Z ?_)))))))
 refine xa (.ptr o0 0) Z (pu_nilCheck Z (tm Z) Z) (xf (.ptr o0 7) underlying184 sizeOf9 Z (xl 0 isAgg9 Z (xa (bd (p_.s = nS)) Z (pu_str (v := bd (p_.s = nS)) Z Z (tm Z) (AEv.const Z) Z) (xe (cd h Z (fun _ h => ?_) (fun _ h => ?_))))))
 refine xr (xz (.i 0) Z (xz (.bool false) Z (xe (aw_ret ?_))))
 cases h
 exact rt ⟨q0, q1, Z, Z⟩ Z (wi [0, 1, 2] Z)
 refine aw_skip (aw_seq (xr (xy Z (xa (.ptr o0 0) Z (pu_nilCheck Z (tm Z) Z) (xf (.ptr o0 7) underlying184 sizeOf9 Z (xl 0 isAgg9 Z ?_))))))
 obtain ⟨c214, h⟩ := need_of h
 refine xa (.int .u8 (bix p_.s 0)) Z (pu_strIdxM Z underlying9 (tm Z) (AEv.int _ _) c214) (xy Z (xz (bn ((bix p_.s 0) = mark)) Z (xe (cn h Z (fun _ h => ?_) (fun _ h => ?_)))))
 refine xr (xy Z ?_)
 obtain ⟨r215, r215e, h⟩ := bind_some h
 refine xk (parse.parser.dies.ok r215e o0 q0 q1) call143 Z ?_
 rintro _ _ ⟨t216, rfl, rfl⟩
 refine xz (.i 0) Z (xy Z (xe (aw_claimCell 0 1 Z Z fun t217 => (aw_ret ?_))))
 cases h
 exact rt ⟨t217, t216, Z, Z⟩ Z (wi [1, 0, 2] Z)
 refine aw_skip (xr (xz (.i 0) Z (xe ?_)))
 obtain ⟨s428, s428e, h321⟩ := bind_some h
 refine aw_join (σ := Unit) (ν := Unit) (fun u v => []) (fun u v => [(o0, .cells (parse.parser.ct (.own q0) (.own q1) p_)), (q0, .spare), (q1, .spare)]) (fun u => s428 = .inl u) ?_ ?_
 intro s320
 intro _
 rintro rfl
 have h := onSum_inl h321
 refine xr (xz (.i 0) Z (xz (.bool false) Z (xe (aw_ret ?_))))
 cases h
 exact rt ⟨q0, q1, Z, Z⟩ Z (wi [0, 1, 2] Z)
 have h := s428e
 refine xr (xz (.i 1) Z (xe (aw_block (aw_while (σ := parse.parser.header.S0) (ν := Unit) (parse.parser.header.body0 p_ most over) (fun s389 v => [(0, .ptr o0 0), (2, .i most), (3, .i over), (10, .i s389.n), (11, .i s389.i)]) (fun s389 v => [(o0, .cells (parse.parser.ct (.own q0) (.own q1) p_)), (q0, .spare), (q1, .spare)]) ⟨0, 1⟩ () _ h (wi [0, 1, 2] Z) ?_))))
 rintro s389 _ x391 h hx390
 unfold parse.parser.header.body0 at h
 refine aw_seq (xr (xy Z (xy Z (xa (.ptr o0 0) Z (pu_nilCheck Z (tm Z) Z) (xf (.ptr o0 7) underlying184 sizeOf9 Z (xl 0 isAgg9 Z (xa (.i (p_.s.length : Int)) Z (pu_strLen Z underlying9 (tm Z)) (xz (bd (s389.i < (p_.s.length : Int))) Z ?_))))))))
 refine xe (cd h Z (fun _ h => ?_) (fun _ h => ?_))
 refine aw_skip (aw_seq (aw_block (xr (xy Z (xa (.ptr o0 0) Z (pu_nilCheck Z (tm Z) Z) (xf (.ptr o0 7) underlying184 sizeOf9 Z (xl 0 isAgg9 Z (xy Z ?_))))))))
 obtain ⟨c393, h⟩ := need_of h
 refine xa (.int .u8 (bix p_.s s389.i)) Z (pu_strIdxM Z underlying9 (tm Z) (tm Z) c393) (xy Z (xe (aw_seq ?_)))
 obtain ⟨s395, s395e, h396⟩ := letO_of h
 refine aw_meet (ν := Unit) (fun v => [(0, .ptr o0 0), (2, .i most), (3, .i over), (10, .i s389.n), (11, .i s389.i), (12, .int .u8 (bix p_.s s389.i)), (47, .bool s395)]) (fun v => [(o0, .cells (parse.parser.ct (.own q0) (.own q1) p_)), (q0, .spare), (q1, .spare)]) ?_ ?_
 have h := s395e.symm
 refine aw_region (xy Z (xz (bd ((bix p_.s s389.i) = 13)) Z (xy Z ?_)))
 rcases Bool.eq_false_or_eq_true (decide ((bix p_.s s389.i) = 13)) with hb398 | hb398
 replace h := ite_t (dec_t hb398) h
 refine aops_known 44 Z hb398 (xq Z Z Z Z (xp (bd (1 < s389.i)) Z Z (pe Z) (xz (bd (1 < s389.i)) Z (xe ?_))))
 subst h
 exact ⟨(), wi [0, 1, 2] Z⟩
 replace h := ite_f (dec_f hb398) h
 refine aops_known 44 Z hb398 (xu Z (xu Z (xz (.bool false) Z (xe ?_))))
 subst h
 exact ⟨(), wi [0, 1, 2] Z⟩
 intro _
 have h := h396
 refine aw_cond (b := s395) (tm Z) (fun hb426 => ?_) (fun hb426 => ?_)
 replace h := ite_t hb426 h
 refine aw_seq (xr (xy Z (xz (.i (w64 (s389.i + 1))) Z (xy Z (xa (.ptr o0 0) Z (pu_nilCheck Z (tm Z) Z) (xf (.ptr o0 7) underlying184 sizeOf9 Z (xl 0 isAgg9 Z (xa (.i (p_.s.length : Int)) Z (pu_strLen Z underlying9 (tm Z)) ?_))))))))
 refine xz (bd ((w64 (s389.i + 1)) = (p_.s.length : Int))) Z (xe (cd h Z (fun _ h => ?_) (fun _ h => ?_)))
 refine xr (xz (.i 0) Z (xz (.bool false) Z (xe (aw_ret ?_))))
 cases h
 cases congrArg some (hx390 _ rfl)
 cases onSum_inr h321
 exact rt ⟨q0, q1, Z, Z⟩ Z (wi [0, 1, 2] Z)
 refine aw_skip (aw_seq (xr (xy Z (xa (.ptr o0 0) Z (pu_nilCheck Z (tm Z) Z) (xf (.ptr o0 7) underlying184 sizeOf9 Z (xl 0 isAgg9 Z (xy Z (xz (.i (w64 (s389.i + 1))) Z ?_))))))))
 obtain ⟨c399, h⟩ := need_of h
 refine xa (.int .u8 (bix p_.s (w64 (s389.i + 1)))) Z (pu_strIdxM Z underlying9 (tm Z) (tm Z) c399) (xz (bn ((bix p_.s (w64 (s389.i + 1))) = 10)) Z (xe (cn h Z (fun _ h => ?_) (fun _ h => ?_))))
 refine xr (xy Z ?_)
 obtain ⟨r400, r400e, h⟩ := bind_some h
 refine xk (parse.parser.dies.ok r400e o0 q0 q1) call143 Z ?_
 rintro _ _ ⟨t401, rfl, rfl⟩
 refine xz (.i 0) Z (xy Z (xe (aw_claimCell 0 1 Z Z fun t402 => (aw_ret ?_))))
 cases h
 cases congrArg some (hx390 _ rfl)
 cases onSum_inr h321
 exact rt ⟨t402, t401, Z, Z⟩ Z (wi [1, 0, 2] Z)
 refine aw_skip (xr (xy Z (xy Z (xz (.i (w64 (s389.i + 2))) Z ?_))))
 obtain ⟨r403, r403e, h⟩ := bind_some h
 refine xk (parse.parser.past.ok r403e o0 q0 q1) call144 Z ?_
 rintro _ _ ⟨t404, t405, rfl, rfl⟩
 refine xe (xr (xy Z (xy Z (xz (.bool true) Z (xe (aw_ret ?_))))))
 cases h
 cases congrArg some (hx390 _ rfl)
 cases onSum_inr h321
 exact rt ⟨t404, t405, Z, Z⟩ Z (wi [0, 1, 2] Z)
 replace h := ite_fb hb426 h
 refine aw_skip (aw_seq ?_)
 obtain ⟨s411, s411e, h412⟩ := letO_of h
 refine aw_meet (ν := Unit) (fun v => [(0, .ptr o0 0), (2, .i most), (3, .i over), (10, .i s389.n), (11, .i s389.i), (12, .int .u8 (bix p_.s s389.i)), (84, .bool s411)]) (fun v => [(o0, .cells (parse.parser.ct (.own q0) (.own q1) p_)), (q0, .spare), (q1, .spare)]) ?_ ?_
 have h := s411e.symm
 refine aw_region (xy Z (xz (bd ((bix p_.s s389.i) < 48)) Z (xy Z ?_)))
 rcases Bool.eq_false_or_eq_true (decide ((bix p_.s s389.i) < 48)) with hb414 | hb414
 replace h := ite_t (dec_t hb414) h
 refine aops_known 73 Z hb414 (xu Z (xu Z (xz (.bool true) Z (xy Z (xu Z (xu Z (xu Z (xv Z Z (xv Z Z ?_)))))))))
 refine xu Z (xz (.bool true) Z (xe ?_))
 subst h
 exact ⟨(), wi [0, 1, 2] Z⟩
 replace h := ite_f (dec_f hb414) h
 refine aops_known 73 Z hb414 (xq Z Z Z Z (xp (bd (57 < (bix p_.s s389.i))) Z Z (pe Z) (xz (bd (57 < (bix p_.s s389.i))) Z (xy Z ?_))))
 rcases Bool.eq_false_or_eq_true (decide (57 < (bix p_.s s389.i))) with hb415 | hb415
 replace h := ite_t (dec_t hb415) h
 refine aops_known 77 Z hb415 (xu Z (xu Z (xu Z (xv Z Z (xv Z Z (xu Z (xz (.bool true) Z (xe ?_))))))))
 subst h
 exact ⟨(), wi [0, 1, 2] Z⟩
 replace h := ite_f (dec_f hb415) h
 refine aops_known 77 Z hb415 (xq Z Z Z Z (xp (bd (1 < s389.i)) Z Z (pe Z) (xq Z Z Z Z ?_)))
 rcases Bool.eq_false_or_eq_true (decide (1 < s389.i)) with hb416 | hb416
 replace h := ite_t (dec_t hb416) h
 refine aops_known 80 Z hb416 (xq Z Z Z Z (xp (bd (s389.n = 0)) Z Z (pe Z) (xp (bd (s389.n = 0)) Z Z (pe Z) (xz (bd (s389.n = 0)) Z (xe ?_)))))
 subst h
 exact ⟨(), wi [0, 1, 2] Z⟩
 replace h := ite_f (dec_f hb416) h
 refine aops_known 80 Z hb416 (xu Z (xu Z (xp (.bool false) Z Z (pe Z) (xz (.bool false) Z (xe ?_)))))
 subst h
 exact ⟨(), wi [0, 1, 2] Z⟩
 intro _
 have h := h412
 refine aw_cond (b := s411) (tm Z) (fun hb425 => ?_) (fun hb425 => ?_)
 replace h := ite_t hb425 h
 refine xr (xy Z ?_)
 obtain ⟨r417, r417e, h⟩ := bind_some h
 refine xk (parse.parser.dies.ok r417e o0 q0 q1) call143 Z ?_
 rintro _ _ ⟨t418, rfl, rfl⟩
 refine xz (.i 0) Z (xy Z (xe (aw_claimCell 0 1 Z Z fun t419 => (aw_ret ?_))))
 cases h
 cases congrArg some (hx390 _ rfl)
 cases onSum_inr h321
 exact rt ⟨t419, t418, Z, Z⟩ Z (wi [1, 0, 2] Z)
 replace h := ite_fb hb425 h
 refine aw_skip (xr (xy Z (xz (.i (w64 (10 * s389.n))) Z (xy Z (xz (.int .u8 (IntKind.wrap .u8 ((bix p_.s s389.i) - 48))) Z (xa (.i (w64 (IntKind.wrap .u8 ((bix p_.s s389.i) - 48)))) Z (pu_conv Z underlying5 underlying3 (tm Z)) ?_))))))
 obtain ⟨x420, x420e, h⟩ := letO_of h
 refine xa (.i x420) Z (APure.eq (pe Z) (congrArg (AV.int .i64) x420e.symm)) (xy Z (xe (xr (xy Z (xy Z (xz (bd (most < x420)) Z (xe (cd h Z (fun _ h => ?_) (fun _ h => ?_)))))))))
 refine xr (xy Z (xy Z ?_))
 obtain ⟨r421, r421e, h⟩ := bind_some h
 refine xk (parse.parser.dies.ok r421e o0 q0 q1) call143 Z ?_
 rintro _ _ ⟨t422, rfl, rfl⟩
 refine xz (.i 0) Z (xy Z (xe (aw_claimCell 0 1 Z Z fun t423 => (aw_ret ?_))))
 cases h
 cases congrArg some (hx390 _ rfl)
 cases onSum_inr h321
 exact rt ⟨t423, t422, Z, Z⟩ Z (wi [1, 0, 2] Z)
 refine aw_skip (aw_region (xy Z (xz (.i (w64 (s389.i + 1))) Z (xy Z (xe ?_)))))
 cases h
 exact ⟨_, (), Z, wi [0, 1, 2] Z⟩
 refine aw_exit ?_
 cases h
 have h := congrArg some (hx390 _ rfl)
 exact ⟨(), (), (some_of h).symm, wi [0, 1, 2] Z⟩

theorem stringslite.IndexByte.ok {s_ c_ r} (h : stringslite.IndexByte s_ c_ = some r) : Sp prog 149 [.str s_, .int .u8 c_] [] (fun v H => v = .i r ∧ H = []) := by
 unfold stringslite.IndexByte at h
 refine sb [.tmp 4] func149 Z (xr (xz (.i 0) Z (xe (xr (xy Z (xy Z (xa (.i (Lib.indexByte s_ (u8 c_))) Z (pu_indexByte Z func153 (by kernel_rfl) (by kernel_rfl) (by kernel_rfl) (by kernel_rfl) (tm Z) (tm Z)) ?_)))))))
 refine xy Z (xe (aw_ret ?_))
 cases h
 exact rt ⟨Z, Z⟩ Z w0

theorem strings.IndexByte.ok {s_ c_ r} (h : strings.IndexByte s_ c_ = some r) : Sp prog 145 [.str s_, .int .u8 c_] [] (fun v H => v = .i r ∧ H = []) := by
 unfold strings.IndexByte at h
 refine sb [.tmp 4] func145 Z (xr (xz (.i 0) Z (xe (xr (xy Z (xy Z ?_))))))
 obtain ⟨r2, r2e, h⟩ := bind_some h
 refine xo (stringslite.IndexByte.ok r2e) call149 Z (xy Z (xe (aw_ret ?_)))
 cases h
 exact rt ⟨Z, Z⟩ Z w0

theorem stringslite.HasSuffix.ok {s_ suffix r} (h : stringslite.HasSuffix s_ suffix = some r) : Sp prog 156 [.str s_, .str suffix] [] (fun v H => v = .bool r ∧ H = []) := by
 unfold stringslite.HasSuffix at h
 refine sb [.tmp 4] func156 Z (xr (xz (.bool false) Z (xe ?_)))
 obtain ⟨s10, s10e, h11⟩ := bind_some h
 refine aw_meet (ν := Unit) (fun v => [(4, .bool s10)]) (fun v => []) ?_ ?_
 have h := s10e
 refine aw_region (xy Z (xa (.i (s_.length : Int)) Z (pu_strLen Z underlying9 (tm Z)) (xy Z (xa (.i (suffix.length : Int)) Z (pu_strLen Z underlying9 (tm Z)) (xz (bd ((suffix.length : Int) ≤ (s_.length : Int))) Z (xy Z ?_))))))
 rcases Bool.eq_false_or_eq_true (decide ((suffix.length : Int) ≤ (s_.length : Int))) with hb13 | hb13
 replace h := ite_t (dec_t hb13) h
 refine aops_known 10 Z hb13 (xq Z Z Z Z (xq Z Z Z Z (xp (.i (s_.length : Int)) Z Z (pu_strLen Z underlying9 (tm Z)) (xq Z Z Z Z (xp (.i (suffix.length : Int)) Z Z (pu_strLen Z underlying9 (tm Z)) (xp (.i (w64 ((s_.length : Int) - (suffix.length : Int)))) Z Z (pe Z) ?_))))))
 obtain ⟨c14, h⟩ := need_of h
 refine xp (.str (sub s_ (w64 ((s_.length : Int) - (suffix.length : Int))) (s_.length : Int))) Z Z (pu_strSliceM Z underlying9 (tm Z) ⟨_, (tm Z)⟩ Z c14) (xq Z Z Z Z (xp (bd ((sub s_ (w64 ((s_.length : Int) - (suffix.length : Int))) (s_.length : Int)) = suffix)) Z Z (pu_str (v := bd ((sub s_ (w64 ((s_.length : Int) - (suffix.length : Int))) (s_.length : Int)) = suffix)) Z Z (tm Z) (tm Z) Z) (xz (bd ((sub s_ (w64 ((s_.length : Int) - (suffix.length : Int))) (s_.length : Int)) = suffix)) Z (xy Z (xe ?_)))))
 cases h
 exact ⟨(), wi [] Z⟩
 replace h := ite_f (dec_f hb13) h
 refine aops_known 10 Z hb13 (xu Z (xu Z (xu Z (xu Z (xu Z (xu Z (xu Z (xu Z (xu Z ?_)))))))))
 refine xz (.bool false) Z (xy Z (xe ?_))
 cases h
 exact ⟨(), wi [] Z⟩
 intro _
 have h := h11
 refine aw_ret ?_
 cases h
 exact rt ⟨Z, Z⟩ Z w0

theorem stringslite.TrimSuffix.ok {s_ suffix r} (h : stringslite.TrimSuffix s_ suffix = some r) : Sp prog 152 [.str s_, .str suffix] [] (fun v H => v = .str r ∧ H = []) := by
 unfold stringslite.TrimSuffix at h
 refine sb [.tmp 4] func152 Z (xr (xa (.str nS) Z (pu_assign Z (AEv.const Z)) (xe (aw_seq (xr (xy Z (xy Z ?_)))))))
 obtain ⟨r4, r4e, h⟩ := bind_some h
 refine xo (stringslite.HasSuffix.ok r4e) call156 Z (xe (cb h Z (fun _ h => ?_) (fun _ h => ?_)))
 refine xr (xy Z (xy Z (xa (.i (s_.length : Int)) Z (pu_strLen Z underlying9 (tm Z)) (xy Z (xa (.i (suffix.length : Int)) Z (pu_strLen Z underlying9 (tm Z)) (xz (.i (w64 ((s_.length : Int) - (suffix.length : Int)))) Z ?_))))))
 obtain ⟨c5, h⟩ := need_of h
 refine xa (.str (sub s_ 0 (w64 ((s_.length : Int) - (suffix.length : Int))))) Z (pu_strSliceM Z underlying9 (tm Z) Z ⟨_, (tm Z)⟩ c5) (xy Z (xe (aw_ret ?_)))
 cases h
 exact rt ⟨Z, Z⟩ Z w0
 refine aw_skip (xr (xy Z (xy Z (xe (aw_ret ?_)))))
 cases h
 exact rt ⟨Z, Z⟩ Z w0

theorem strings.TrimSuffix.ok {s_ suffix r} (h : strings.TrimSuffix s_ suffix = some r) : Sp prog 147 [.str s_, .str suffix] [] (fun v H => v = .str r ∧ H = []) := by
 unfold strings.TrimSuffix at h
 refine sb [.tmp 4] func147 Z (xr (xa (.str nS) Z (pu_assign Z (AEv.const Z)) (xe (xr (xy Z (xy Z ?_))))))
 obtain ⟨r2, r2e, h⟩ := bind_some h
 refine xo (stringslite.TrimSuffix.ok r2e) call152 Z (xy Z (xe (aw_ret ?_)))
 cases h
 exact rt ⟨Z, Z⟩ Z w0

theorem line.blank.ok {c_ r} (h : line.blank c_ = some r) : Sp prog 150 [.int .u8 c_] [] (fun v H => v = .bool r ∧ H = []) := by
 unfold line.blank at h
 refine sb [.tmp 2] func150 Z (xr (xz (.bool false) Z (xe ?_)))
 obtain ⟨s7, s7e, h8⟩ := letO_of h
 refine aw_meet (ν := Unit) (fun v => [(2, .bool s7)]) (fun v => []) ?_ ?_
 have h := s7e.symm
 refine aw_region (xy Z (xz (bd (c_ = 32)) Z (xy Z ?_)))
 rcases Bool.eq_false_or_eq_true (decide (c_ = 32)) with hb10 | hb10
 replace h := ite_t (dec_t hb10) h
 refine aops_known 5 Z hb10 (xu Z (xu Z (xz (.bool true) Z (xy Z (xe ?_)))))
 subst h
 exact ⟨(), wi [] Z⟩
 replace h := ite_f (dec_f hb10) h
 refine aops_known 5 Z hb10 (xq Z Z Z Z (xp (bd (c_ = 9)) Z Z (pe Z) (xz (bd (c_ = 9)) Z (xy Z (xe ?_)))))
 subst h
 exact ⟨(), wi [] Z⟩
 intro _
 have h := h8
 refine aw_ret ?_
 cases h
 exact rt ⟨Z, Z⟩ Z w0

theorem line.quoted_1.ok {i a1_ r} (h : line.quoted_1 i a1_ = some r) (o0 : Nat) : Sp prog 154 [.i i, .ptr o0 0] [(o0, .cells [.str a1_])] (fun v H => v = .bool r ∧ H = [(o0, .cells [.str a1_])]) := by
 unfold line.quoted_1 at h
 refine sb [.tmp 3] func154 Z (xr (xz (.bool false) Z (xe ?_)))
 obtain ⟨s13, s13e, h14⟩ := bind_some h
 refine aw_meet (ν := Unit) (fun v => [(3, .bool s13)]) (fun v => [(o0, .cells [.str a1_])]) ?_ ?_
 have h := s13e
 refine aw_region (xy Z (xl 0 isAgg9 Z (xa (.i (a1_.length : Int)) Z (pu_strLen Z underlying9 (tm Z)) (xz (bd (i = (a1_.length : Int))) Z (xy Z ?_)))))
 rcases Bool.eq_false_or_eq_true (decide (i = (a1_.length : Int))) with hb16 | hb16
 replace h := ite_t (dec_t hb16) h
 refine aops_known 8 Z hb16 (xu Z (xu Z (xu Z (xu Z (xz (.bool true) Z (xy Z (xe ?_)))))))
 cases h
 exact ⟨(), wi [0] Z⟩
 replace h := ite_f (dec_f hb16) h
 refine aops_known 8 Z hb16 (xg Z Z (op_load1 (i := 0) Z isAgg9 (tm Z) Z Z (xq Z Z Z Z ?_)))
 obtain ⟨c17, h⟩ := need_of h
 refine xp (.int .u8 (bix a1_ i)) Z Z (pu_strIdxM Z underlying9 (tm Z) (tm Z) c17) ?_
 obtain ⟨r18, r18e, h⟩ := bind_some h
 refine xg Z Z (op_call (vs := [.int .u8 (bix a1_ i)]) (H := []) Z call150 ⟨(tm Z), trivial⟩ (List.Perm.refl _) (line.blank.ok r18e) ?_)
 rintro _ _ ⟨rfl, rfl⟩
 refine xz (.bool r18) Z (xy Z (xe ?_))
 cases h
 exact ⟨(), wi [0] Z⟩
 intro _
 have h := h14
 refine aw_ret ?_
 cases h
 exact rt ⟨Z, Z⟩ Z (wi [0] Z)

theorem line.hex.ok {c_ r} (h : line.hex c_ = some r) : Sp prog 157 [.int .u8 c_] [] (fun v H => v = .i r ∧ H = []) := by
 unfold line.hex at h
 refine sb [.tmp 2] func157 Z (xr (xz (.i 0) Z (xe (aw_seq (aw_block ?_)))))
 obtain ⟨s20, s20e, h21⟩ := letO_of h
 refine aw_meet (ν := Unit) (fun v => [(0, .int .u8 c_), (3, .bool s20)]) (fun v => []) ?_ ?_
 have h := s20e.symm
 refine aw_region (xy Z (xz (bd (48 ≤ c_)) Z (xy Z ?_)))
 rcases Bool.eq_false_or_eq_true (decide (48 ≤ c_)) with hb23 | hb23
 replace h := ite_t (dec_t hb23) h
 refine aops_known 6 Z hb23 (xq Z Z Z Z (xp (bd (c_ ≤ 57)) Z Z (pe Z) (xz (bd (c_ ≤ 57)) Z (xy Z (xe ?_)))))
 subst h
 exact ⟨(), wi [] Z⟩
 replace h := ite_f (dec_f hb23) h
 refine aops_known 6 Z hb23 (xu Z (xu Z (xz (.bool false) Z (xy Z (xe ?_)))))
 subst h
 exact ⟨(), wi [] Z⟩
 intro _
 have h := h21
 refine aw_cond (b := s20) (tm Z) (fun hb36 => ?_) (fun hb36 => ?_)
 replace h := ite_t hb36 h
 refine xr (xy Z (xz (.int .u8 (IntKind.wrap .u8 (c_ - 48))) Z (xa (.i (w64 (IntKind.wrap .u8 (c_ - 48)))) Z (pu_conv Z underlying5 underlying3 (tm Z)) (xy Z (xe (aw_ret ?_))))))
 cases h
 exact rt ⟨Z, Z⟩ Z w0
 replace h := ite_fb hb36 h
 obtain ⟨s25, s25e, h26⟩ := letO_of h
 refine aw_meet (ν := Unit) (fun v => [(0, .int .u8 c_), (13, .bool s25)]) (fun v => []) ?_ ?_
 have h := s25e.symm
 refine aw_region (xy Z (xz (bd (97 ≤ c_)) Z (xy Z ?_)))
 rcases Bool.eq_false_or_eq_true (decide (97 ≤ c_)) with hb28 | hb28
 replace h := ite_t (dec_t hb28) h
 refine aops_known 16 Z hb28 (xq Z Z Z Z (xp (bd (c_ ≤ 102)) Z Z (pe Z) (xz (bd (c_ ≤ 102)) Z (xy Z (xe ?_)))))
 subst h
 exact ⟨(), wi [] Z⟩
 replace h := ite_f (dec_f hb28) h
 refine aops_known 16 Z hb28 (xu Z (xu Z (xz (.bool false) Z (xy Z (xe ?_)))))
 subst h
 exact ⟨(), wi [] Z⟩
 intro _
 have h := h26
 refine aw_cond (b := s25) (tm Z) (fun hb35 => ?_) (fun hb35 => ?_)
 replace h := ite_t hb35 h
 refine xr (xy Z (xz (.int .u8 (IntKind.wrap .u8 (c_ - 97))) Z (xa (.i (w64 (IntKind.wrap .u8 (c_ - 97)))) Z (pu_conv Z underlying5 underlying3 (tm Z)) (xz (.i (w64 ((w64 (IntKind.wrap .u8 (c_ - 97))) + 10))) Z (xy Z (xe (aw_ret ?_)))))))
 cases h
 exact rt ⟨Z, Z⟩ Z w0
 replace h := ite_fb hb35 h
 obtain ⟨s30, s30e, h31⟩ := letO_of h
 refine aw_meet (ν := Unit) (fun v => [(0, .int .u8 c_), (24, .bool s30)]) (fun v => []) ?_ ?_
 have h := s30e.symm
 refine aw_region (xy Z (xz (bd (65 ≤ c_)) Z (xy Z ?_)))
 rcases Bool.eq_false_or_eq_true (decide (65 ≤ c_)) with hb33 | hb33
 replace h := ite_t (dec_t hb33) h
 refine aops_known 27 Z hb33 (xq Z Z Z Z (xp (bd (c_ ≤ 70)) Z Z (pe Z) (xz (bd (c_ ≤ 70)) Z (xy Z (xe ?_)))))
 subst h
 exact ⟨(), wi [] Z⟩
 replace h := ite_f (dec_f hb33) h
 refine aops_known 27 Z hb33 (xu Z (xu Z (xz (.bool false) Z (xy Z (xe ?_)))))
 subst h
 exact ⟨(), wi [] Z⟩
 intro _
 have h := h31
 refine aw_cond (b := s30) (tm Z) (fun hb34 => ?_) (fun hb34 => ?_)
 replace h := ite_t hb34 h
 refine xr (xy Z (xz (.int .u8 (IntKind.wrap .u8 (c_ - 65))) Z (xa (.i (w64 (IntKind.wrap .u8 (c_ - 65)))) Z (pu_conv Z underlying5 underlying3 (tm Z)) (xz (.i (w64 ((w64 (IntKind.wrap .u8 (c_ - 65))) + 10))) Z (xy Z (xe (aw_ret ?_)))))))
 cases h
 exact rt ⟨Z, Z⟩ Z w0
 replace h := ite_fb hb34 h
 refine aw_skip (xr (xz (.i (-1)) Z (xe (aw_ret ?_))))
 cases h
 exact rt ⟨Z, Z⟩ Z w0

theorem line.turn.ok {s_ at_ r} (h : line.turn s_ at_ = some r) : Sp prog 155 [.str s_, .i at_] [] (fun v H => v = .tup [.int .u8 r.1, .i r.2] ∧ H = []) := by
 unfold line.turn at h
 refine sb [.tmp 4, .tmp 5] func155 Z (xr (xz (.int .u8 0) Z (xz (.i 0) Z (xe (aw_seq ?_)))))
 obtain ⟨s40, s40e, h41⟩ := bind_some h
 refine aw_meet (ν := Unit) (fun v => [(0, .str s_), (1, .i at_), (32, .bool s40)]) (fun v => []) ?_ ?_
 have h := s40e
 refine aw_region (xy Z (xy Z ?_))
 obtain ⟨c43, h⟩ := need_of h
 refine xa (.int .u8 (bix s_ at_)) Z (pu_strIdxM Z underlying9 (tm Z) (tm Z) c43) (xz (bd ((bix s_ at_) = 120)) Z (xy Z ?_))
 rcases Bool.eq_false_or_eq_true (decide ((bix s_ at_) = 120)) with hb44 | hb44
 replace h := ite_t (dec_t hb44) h
 refine aops_known 10 Z hb44 (xq Z Z Z Z (xp (.i (w64 (at_ + 2))) Z Z (pe Z) (xq Z Z Z Z (xp (.i (s_.length : Int)) Z Z (pu_strLen Z underlying9 (tm Z)) (xp (bd ((w64 (at_ + 2)) < (s_.length : Int))) Z Z (pe Z) (xz (bd ((w64 (at_ + 2)) < (s_.length : Int))) Z (xy Z ?_)))))))
 rcases Bool.eq_false_or_eq_true (decide ((w64 (at_ + 2)) < (s_.length : Int))) with hb45 | hb45
 replace h := ite_t (dec_t hb45) h
 refine aops_known 17 Z hb45 (xq Z Z Z Z (xq Z Z Z Z (xp (.i (w64 (at_ + 1))) Z Z (pe Z) ?_)))
 obtain ⟨c46, h⟩ := need_of h
 refine xp (.int .u8 (bix s_ (w64 (at_ + 1)))) Z Z (pu_strIdxM Z underlying9 (tm Z) (tm Z) c46) ?_
 obtain ⟨r47, r47e, h⟩ := bind_some h
 refine xg Z Z (op_call (vs := [.int .u8 (bix s_ (w64 (at_ + 1)))]) (H := []) Z call157 ⟨(tm Z), trivial⟩ (List.Perm.refl _) (line.hex.ok r47e) ?_)
 rintro _ _ ⟨rfl, rfl⟩
 refine xp (bd (0 ≤ r47)) Z Z (pe Z) (xz (bd (0 ≤ r47)) Z (xy Z ?_))
 rcases Bool.eq_false_or_eq_true (decide (0 ≤ r47)) with hb48 | hb48
 replace h := ite_t (dec_t hb48) h
 refine aops_known 25 Z hb48 (xq Z Z Z Z (xq Z Z Z Z (xp (.i (w64 (at_ + 2))) Z Z (pe Z) ?_)))
 obtain ⟨c49, h⟩ := need_of h
 refine xp (.int .u8 (bix s_ (w64 (at_ + 2)))) Z Z (pu_strIdxM Z underlying9 (tm Z) (tm Z) c49) ?_
 obtain ⟨r50, r50e, h⟩ := bind_some h
 refine xg Z Z (op_call (vs := [.int .u8 (bix s_ (w64 (at_ + 2)))]) (H := []) Z call157 ⟨(tm Z), trivial⟩ (List.Perm.refl _) (line.hex.ok r50e) ?_)
 rintro _ _ ⟨rfl, rfl⟩
 refine xp (bd (0 ≤ r50)) Z Z (pe Z) (xz (bd (0 ≤ r50)) Z (xe ?_))
 cases h
 exact ⟨(), wi [] Z⟩
 replace h := ite_f (dec_f hb48) h
 refine aops_known 25 Z hb48 (xu Z (xu Z (xu Z (xu Z (xu Z (xu Z (xz (.bool false) Z (xe ?_))))))))
 cases h
 exact ⟨(), wi [] Z⟩
 replace h := ite_f (dec_f hb45) h
 refine aops_known 17 Z hb45 (xu Z (xu Z (xu Z (xu Z (xu Z (xu Z (xz (.bool false) Z (xy Z (xu Z ?_)))))))))
 refine xu Z (xu Z (xu Z (xu Z (xu Z (xz (.bool false) Z (xe ?_))))))
 cases h
 exact ⟨(), wi [] Z⟩
 replace h := ite_f (dec_f hb44) h
 refine aops_known 10 Z hb44 (xu Z (xu Z (xu Z (xu Z (xu Z (xz (.bool false) Z (xy Z (xu Z (xu Z ?_)))))))))
 refine xu Z (xu Z (xu Z (xu Z (xz (.bool false) Z (xy Z (xu Z (xu Z (xu Z (xu Z ?_)))))))))
 refine xu Z (xu Z (xz (.bool false) Z (xe ?_)))
 cases h
 exact ⟨(), wi [] Z⟩
 intro _
 have h := h41
 refine aw_cond (b := s40) (tm Z) (fun hb62 => ?_) (fun hb62 => ?_)
 replace h := ite_t hb62 h
 refine aw_seq ?_
 obtain ⟨c51, h⟩ := need_of h
 obtain ⟨r52, r52e, h⟩ := bind_some h
 obtain ⟨c53, h⟩ := need_of h
 obtain ⟨r54, r54e, h⟩ := bind_some h
 refine aw_planR (by decide +kernel) [[], [], [], [], [], [], [], [], [], [], [], [], [], [], [], [], []] [] [] [.str s_, .i at_, .i (w64 (at_ + 1)), .int .u8 (bix s_ (w64 (at_ + 1))), .i r52, .i (w64 (16 * r52)), .str s_, .i at_, .i (w64 (at_ + 2)), .int .u8 (bix s_ (w64 (at_ + 2))), .i r54, .i (w64 ((w64 (16 * r52)) + r54)), .int .u8 (IntKind.wrap .u8 (w64 ((w64 (16 * r52)) + r54))), .i at_, .i (w64 (at_ + 3)), .int .u8 (IntKind.wrap .u8 (w64 ((w64 (16 * r52)) + r54))), .i (w64 (at_ + 3))] (by decide +kernel) Z Z ?_ ?_
 exact ⟨ym Z Z Z, ym Z Z Z, yp Z (pe Z), yp Z (pu_strIdxM Z underlying9 (tm Z) (tm Z) c51), stepg_plain Z (op_call (vs := [.int .u8 (bix s_ (w64 (at_ + 1)))]) (H := []) Z call157 ⟨(tm Z), trivial⟩ (R := []) (List.Perm.refl _) (line.hex.ok r52e) (by rintro _ _ ⟨rfl, rfl⟩; exact ⟨Z, Z⟩)), yp Z (pe Z), ym Z Z Z, ym Z Z Z, yp Z (pe Z), yp Z (pu_strIdxM Z underlying9 (tm Z) (tm Z) c53), stepg_plain Z (op_call (vs := [.int .u8 (bix s_ (w64 (at_ + 2)))]) (H := []) Z call157 ⟨(tm Z), trivial⟩ (R := []) (List.Perm.refl _) (line.hex.ok r54e) (by rintro _ _ ⟨rfl, rfl⟩; exact ⟨Z, Z⟩)), yp Z (pe Z), yp Z (pu_conv Z underlying3 underlying5 (tm Z)), ym Z Z Z, yp Z (pe Z), ym Z Z Z, ym Z Z Z, trivial⟩
 refine aw_ret ?_
 cases h
 exact rt ⟨Z, Z⟩ Z w0
 replace h := ite_fb hb62 h
 refine aw_skip (aw_seq (xr (xy Z (xy Z ?_))))
 obtain ⟨c55, h⟩ := need_of h
 refine xa (.int .u8 (bix s_ at_)) Z (pu_strIdxM Z underlying9 (tm Z) (tm Z) c55) (xe (aw_block (xr (xz (bd ((bix s_ at_) = 110)) Z (xy Z (xe (cd h Z (fun _ h => ?_) (fun _ h => ?_))))))))
 refine xr (xy Z (xz (.i (w64 (at_ + 1))) Z (xz (.int .u8 10) Z (xy Z (xe (aw_ret ?_))))))
 cases h
 exact rt ⟨Z, Z⟩ Z w0
 refine xr (xz (bd ((bix s_ at_) = 114)) Z (xy Z (xe (cd h Z (fun _ h => ?_) (fun _ h => ?_)))))
 refine xr (xy Z (xz (.i (w64 (at_ + 1))) Z (xz (.int .u8 13) Z (xy Z (xe (aw_ret ?_))))))
 cases h
 exact rt ⟨Z, Z⟩ Z w0
 refine xr (xz (bd ((bix s_ at_) = 116)) Z (xy Z (xe (cd h Z (fun _ h => ?_) (fun _ h => ?_)))))
 refine xr (xy Z (xz (.i (w64 (at_ + 1))) Z (xz (.int .u8 9) Z (xy Z (xe (aw_ret ?_))))))
 cases h
 exact rt ⟨Z, Z⟩ Z w0
 refine xr (xz (bd ((bix s_ at_) = 98)) Z (xy Z (xe (cd h Z (fun _ h => ?_) (fun _ h => ?_)))))
 refine xr (xy Z (xz (.i (w64 (at_ + 1))) Z (xz (.int .u8 8) Z (xy Z (xe (aw_ret ?_))))))
 cases h
 exact rt ⟨Z, Z⟩ Z w0
 refine xr (xz (bd ((bix s_ at_) = 97)) Z (xy Z (xe (cd h Z (fun _ h => ?_) (fun _ h => ?_)))))
 refine xr (xy Z (xz (.i (w64 (at_ + 1))) Z (xz (.int .u8 7) Z (xy Z (xe (aw_ret ?_))))))
 cases h
 exact rt ⟨Z, Z⟩ Z w0
 refine aw_skip (xr (xy Z (xy Z ?_)))
 obtain ⟨c56, h⟩ := need_of h
 refine xa (.int .u8 (bix s_ at_)) Z (pu_strIdxM Z underlying9 (tm Z) (tm Z) c56) (xy Z (xz (.i (w64 (at_ + 1))) Z (xy Z (xy Z (xe (aw_ret ?_))))))
 cases h
 exact rt ⟨Z, Z⟩ Z w0

theorem line.quoted.ok {s_ at_ mark r} (h : line.quoted s_ at_ mark = some r) : Sp prog 151 [.str s_, .i at_, .int .u8 mark] [] (fun v H => ∃ n0, v = .tup [.sl (.own n0) 1 (m5L r.1), .i r.2.1, .bool r.2.2] ∧ H = [(n0, .spare)]) := by
 unfold line.quoted at h
 refine sb [.tmp 6, .tmp 7, .tmp 8] func151 Z (xr (xb [.str s_] Z fun p228 => xa (.sl .full 1 e3L) Z (pu_assign Z (AEv.nil 1 (by decide))) (xz (.i 0) Z (xz (.bool false) Z (xe (xr (xa (.sl .full 1 e3L) Z (pu_assign Z (AEv.nil 1 (by decide))) (xe (aw_seq (aw_region ?_))))))))))
 refine xa (.fn 154 [.ptr p228 0]) Z (pu_makeFunc Z ⟨(tm Z), trivial⟩) (xy Z (xe ?_))
 obtain ⟨s455, s455e, h341⟩ := bind_some h
 refine aw_join (σ := Int) (ν := Unit) (fun u v => [(1, .i u)]) (fun u v => []) (fun u => s455 = .inl u) ?_ ?_
 intro s340
 intro _
 rintro rfl
 have h := onSum_inl h341
 refine xr (xy Z (xa (.sl .full 1 e3L) Z (pu_assign Z (AEv.nil 1 (by decide))) (xy Z (xz (.bool false) Z (xe (aw_claim 6 (tm Z) fun t454 => (aw_ret ?_)))))))
 cases h
 exact rt ⟨t454, Z, Z⟩ Z (wi [0] Z)
 have h := s455e
 refine aw_block (aw_claim 9 (tm Z) fun t453 => (aw_while (σ := line.quoted.S0) (ν := Nat) (line.quoted.body0 s_ mark) (fun s414 v => [(1, .i s414.at_), (2, .int .u8 mark), (3, .ptr p228 0), (9, .sl (.own v) 1 (m5L s414.b)), (10, .fn 154 [.ptr p228 0])]) (fun s414 v => [(p228, .cells [.str s_]), (v, .spare)]) ⟨at_, nS⟩ t453 _ h (wi [1, 0] Z) ?_))
 rintro s414 n415 x417 h hx416
 unfold line.quoted.body0 at h
 refine aw_seq (xr (xy Z (xl 0 isAgg9 Z (xa (.i (s_.length : Int)) Z (pu_strLen Z underlying9 (tm Z)) (xz (bd (s414.at_ < (s_.length : Int))) Z (xe (cd h Z (fun _ h => ?_) (fun _ h => ?_))))))))
 refine aw_skip (aw_block (xr (xl 0 isAgg9 Z (xy Z ?_))))
 obtain ⟨c419, h⟩ := need_of h
 refine xa (.int .u8 (bix s_ s414.at_)) Z (pu_strIdxM Z underlying9 (tm Z) (tm Z) c419) (xy Z (xe (aw_block (xr (xy Z (xy Z (xz (bd ((bix s_ s414.at_) = mark)) Z (xy Z ?_))))))))
 refine xe (cd h Z (fun _ h => ?_) (fun _ h => ?_))
 refine xr (xy Z (xy Z (xz (.i (w64 (s414.at_ + 1))) Z (xy Z (xy Z (xz (.i (w64 (s414.at_ + 1))) Z ?_))))))
 obtain ⟨r420, r420e, h⟩ := bind_some h
 refine xc Z (op_callV (vs := [.i (w64 (s414.at_ + 1))]) (H := [(p228, .cells [.str s_])]) Z (tm Z) call154 ⟨(tm Z), trivial⟩ (List.Perm.refl _) (line.quoted_1.ok r420e p228) ?_)
 rintro _ _ ⟨rfl, rfl⟩
 refine xy Z (xy Z (xy Z (xe (aw_ret ?_))))
 cases h
 cases congrArg some (hx416 _ rfl)
 cases onSum_inr h341
 exact rt ⟨n415, Z, Z⟩ Z (wi [1] Z)
 obtain ⟨s423, s423e, h424⟩ := letO_of h
 refine aw_meet (ν := Unit) (fun v => [(1, .i s414.at_), (2, .int .u8 mark), (3, .ptr p228 0), (9, .sl (.own n415) 1 (m5L s414.b)), (10, .fn 154 [.ptr p228 0]), (11, .int .u8 (bix s_ s414.at_)), (38, .bool s423)]) (fun v => [(p228, .cells [.str s_]), (n415, .spare)]) ?_ ?_
 have h := s423e.symm
 refine aw_region (xy Z (xz (bd ((bix s_ s414.at_) = 92)) Z (xy Z ?_)))
 rcases Bool.eq_false_or_eq_true (decide ((bix s_ s414.at_) = 92)) with hb426 | hb426
 replace h := ite_t (dec_t hb426) h
 refine aops_known 41 Z hb426 (xq Z Z Z Z (xp (bd (mark = 34)) Z Z (pe Z) (xz (bd (mark = 34)) Z (xy Z ?_))))
 rcases Bool.eq_false_or_eq_true (decide (mark = 34)) with hb427 | hb427
 replace h := ite_t (dec_t hb427) h
 refine aops_known 45 Z hb427 (xq Z Z Z Z (xp (.i (w64 (s414.at_ + 1))) Z Z (pe Z) (xg Z Z (op_load1 (i := 0) Z isAgg9 (tm Z) Z Z (xp (.i (s_.length : Int)) Z Z (pu_strLen Z underlying9 (tm Z)) (xp (bd ((w64 (s414.at_ + 1)) < (s_.length : Int))) Z Z (pe Z) (xz (bd ((w64 (s414.at_ + 1)) < (s_.length : Int))) Z (xy Z (xe ?_)))))))))
 subst h
 exact ⟨(), wi [0, 1] Z⟩
 replace h := ite_f (dec_f hb427) h
 refine aops_known 45 Z hb427 (xu Z (xu Z (xu Z (xu Z (xu Z (xz (.bool false) Z (xy Z (xe ?_))))))))
 subst h
 exact ⟨(), wi [0, 1] Z⟩
 replace h := ite_f (dec_f hb426) h
 refine aops_known 41 Z hb426 (xu Z (xu Z (xz (.bool false) Z (xy Z (xu Z (xu Z (xu Z (xu Z (xu Z ?_)))))))))
 refine xz (.bool false) Z (xy Z (xe ?_))
 subst h
 exact ⟨(), wi [0, 1] Z⟩
 intro _
 have h := h424
 refine aw_cond (b := s423) (tm Z) (fun hb450 => ?_) (fun hb450 => ?_)
 replace h := ite_t hb450 h
 refine xr (xz (.int .u8 0) Z (xe (xr (xl 0 isAgg9 Z (xy Z (xz (.i (w64 (s414.at_ + 1))) Z ?_))))))
 obtain ⟨r428, r428e, h⟩ := bind_some h
 refine xo (line.turn.ok r428e) call155 Z (xy Z (xz (.int .u8 r428.1) Z (xz (.i r428.2) Z (xy Z (xy Z (xe (aw_region (xy Z (xy Z ?_)))))))))
 obtain ⟨c429, h⟩ := need_of h
 refine xc Z (op_buildSlice (xs := ([u8 r428.1] : List UInt8).map byteAV) (aparts := [(0, byteAV (u8 r428.1))]) Z underlying114 sizeOf5 zeroValue5 (by decide) (by decide) ⟨Z, (AEv.le (tm Z) (AV.Le.of_eq (byteAV_u8 c429.1 c429.2).symm)), trivial⟩ Z Z Z ?_)
 obtain ⟨c430, h⟩ := need_of h
 refine xc Z (op_appendOM (q := 1) Z underlying114 underlying114 (.inl Z) typeInfo5 Z Z Z (by decide) (tm Z) Z (given_sl (tm Z)) c430 ?_)
 intro t431
 refine xy Z (xe ?_)
 cases h
 exact ⟨_, t431, Z, wi [0, 1] Z⟩
 replace h := ite_fb hb450 h
 obtain ⟨s436, s436e, h437⟩ := bind_some h
 refine aw_meet (ν := Unit) (fun v => [(1, .i s414.at_), (2, .int .u8 mark), (3, .ptr p228 0), (9, .sl (.own n415) 1 (m5L s414.b)), (10, .fn 154 [.ptr p228 0]), (11, .int .u8 (bix s_ s414.at_)), (63, .bool s436)]) (fun v => [(p228, .cells [.str s_]), (n415, .spare)]) ?_ ?_
 have h := s436e
 refine aw_region (xy Z (xz (bd ((bix s_ s414.at_) = 92)) Z (xy Z ?_)))
 rcases Bool.eq_false_or_eq_true (decide ((bix s_ s414.at_) = 92)) with hb439 | hb439
 replace h := ite_t (dec_t hb439) h
 refine aops_known 66 Z hb439 (xq Z Z Z Z (xp (bd (mark = 39)) Z Z (pe Z) (xz (bd (mark = 39)) Z (xy Z ?_))))
 rcases Bool.eq_false_or_eq_true (decide (mark = 39)) with hb440 | hb440
 replace h := ite_t (dec_t hb440) h
 refine aops_known 70 Z hb440 (xq Z Z Z Z (xp (.i (w64 (s414.at_ + 1))) Z Z (pe Z) (xg Z Z (op_load1 (i := 0) Z isAgg9 (tm Z) Z Z (xp (.i (s_.length : Int)) Z Z (pu_strLen Z underlying9 (tm Z)) (xp (bd ((w64 (s414.at_ + 1)) < (s_.length : Int))) Z Z (pe Z) (xz (bd ((w64 (s414.at_ + 1)) < (s_.length : Int))) Z (xy Z ?_))))))))
 rcases Bool.eq_false_or_eq_true (decide ((w64 (s414.at_ + 1)) < (s_.length : Int))) with hb441 | hb441
 replace h := ite_t (dec_t hb441) h
 refine aops_known 77 Z hb441 (xg Z Z (op_load1 (i := 0) Z isAgg9 (tm Z) Z Z (xq Z Z Z Z (xp (.i (w64 (s414.at_ + 1))) Z Z (pe Z) ?_))))
 obtain ⟨c442, h⟩ := need_of h
 refine xp (.int .u8 (bix s_ (w64 (s414.at_ + 1)))) Z Z (pu_strIdxM Z underlying9 (tm Z) (tm Z) c442) (xq Z Z Z Z (xp (bd ((bix s_ (w64 (s414.at_ + 1))) = mark)) Z Z (pe Z) (xz (bd ((bix s_ (w64 (s414.at_ + 1))) = mark)) Z (xy Z (xe ?_)))))
 cases h
 exact ⟨(), wi [0, 1] Z⟩
 replace h := ite_f (dec_f hb441) h
 refine aops_known 77 Z hb441 (xu Z (xu Z (xu Z (xu Z (xu Z (xu Z (xz (.bool false) Z (xy Z (xe ?_)))))))))
 cases h
 exact ⟨(), wi [0, 1] Z⟩
 replace h := ite_f (dec_f hb440) h
 refine aops_known 70 Z hb440 (xu Z (xu Z (xu Z (xu Z (xu Z (xz (.bool false) Z (xy Z (xu Z (xu Z ?_)))))))))
 refine xu Z (xu Z (xu Z (xu Z (xz (.bool false) Z (xy Z (xe ?_))))))
 cases h
 exact ⟨(), wi [0, 1] Z⟩
 replace h := ite_f (dec_f hb439) h
 refine aops_known 66 Z hb439 (xu Z (xu Z (xz (.bool false) Z (xy Z (xu Z (xu Z (xu Z (xu Z (xu Z ?_)))))))))
 refine xz (.bool false) Z (xy Z (xu Z (xu Z (xu Z (xu Z (xu Z (xu Z (xz (.bool false) Z (xy Z ?_)))))))))
 refine xe ?_
 cases h
 exact ⟨(), wi [0, 1] Z⟩
 intro _
 have h := h437
 refine aw_cond (b := s436) (tm Z) (fun hb449 => ?_) (fun hb449 => ?_)
 replace h := ite_t hb449 h
 refine xr (xy Z (xy Z ?_))
 obtain ⟨c443, h⟩ := need_of h
 refine xc Z (op_buildSlice (xs := ([u8 mark] : List UInt8).map byteAV) (aparts := [(0, byteAV (u8 mark))]) Z underlying114 sizeOf5 zeroValue5 (by decide) (by decide) ⟨Z, (AEv.le (tm Z) (AV.Le.of_eq (byteAV_u8 c443.1 c443.2).symm)), trivial⟩ Z Z Z ?_)
 obtain ⟨c444, h⟩ := need_of h
 refine xc Z (op_appendOM (q := 1) Z underlying114 underlying114 (.inl Z) typeInfo5 Z Z Z (by decide) (tm Z) Z (given_sl (tm Z)) c444 ?_)
 intro t445
 refine xy Z (xe (aw_region (xy Z (xz (.i (w64 (s414.at_ + 2))) Z (xy Z (xe ?_))))))
 cases h
 exact ⟨_, t445, Z, wi [0, 1] Z⟩
 replace h := ite_fb hb449 h
 refine xr (xy Z (xy Z ?_))
 obtain ⟨c446, h⟩ := need_of h
 refine xc Z (op_buildSlice (xs := ([u8 (bix s_ s414.at_)] : List UInt8).map byteAV) (aparts := [(0, byteAV (u8 (bix s_ s414.at_)))]) Z underlying114 sizeOf5 zeroValue5 (by decide) (by decide) ⟨Z, (AEv.le (tm Z) (AV.Le.of_eq (byteAV_u8 c446.1 c446.2).symm)), trivial⟩ Z Z Z ?_)
 obtain ⟨c447, h⟩ := need_of h
 refine xc Z (op_appendOM (q := 1) Z underlying114 underlying114 (.inl Z) typeInfo5 Z Z Z (by decide) (tm Z) Z (given_sl (tm Z)) c447 ?_)
 intro t448
 refine xy Z (xe (aw_region (xy Z (xz (.i (w64 (s414.at_ + 1))) Z (xy Z (xe ?_))))))
 cases h
 exact ⟨_, t448, Z, wi [0, 1] Z⟩
 refine aw_exit ?_
 cases h
 have h := congrArg some (hx416 _ rfl)
 exact ⟨s414.at_, (), (some_of h).symm, wi [] Z⟩

theorem line.Split.ok {s_ r} (h : line.Split s_ = some r) : Sp prog 146 [.str s_] [] (fun v H => ∃ n0, v = .tup [.sl (.own n0) 1 (m3L r.1), .bool r.2] ∧ H = [(n0, .spare)]) := by
 unfold line.Split at h
 refine sb [.tmp 2, .tmp 3] func146 Z (xr (xa (.sl .full 1 e2L) Z (pu_assign Z (AEv.nil 1 (by decide))) (xz (.bool false) Z (xe (xr (xa (.sl .full 1 e2L) Z (pu_assign Z (AEv.nil 1 (by decide))) (xe ?_)))))))
 refine xr (xz (.i 0) Z (xe (aw_block (aw_claim 4 (tm Z) fun t1705 => (aw_while (σ := line.Split.S0) (ν := Nat) (line.Split.body0 s_) (fun s1418 v => [(0, .str s_), (4, .sl (.own v) 1 (m3L s1418.out)), (5, .i s1418.at_)]) (fun s1418 v => [(v, .spare)]) ⟨([] : List (List UInt8)), 0⟩ t1705 _ h (wi [0] Z) ?_)))))
 rintro s1418 n1419 x1421 h hx1420
 unfold line.Split.body0 at h
 refine aw_block ?_
 obtain ⟨s1459, s1459e, h1460⟩ := bind_some h
 refine aw_meet (ν := Unit) (fun v => [(0, .str s_), (4, .sl (.own n1419) 1 (m3L s1418.out)), (5, .i s1459)]) (fun v => [(n1419, .spare)]) ?_ ?_
 have h := s1459e
 refine aw_block (aw_while (σ := line.Split.S2) (ν := Unit) (line.Split.body2 s_) (fun s1484 v => [(0, .str s_), (4, .sl (.own n1419) 1 (m3L s1418.out)), (5, .i s1484.at_)]) (fun s1484 v => [(n1419, .spare)]) ⟨s1418.at_⟩ () _ h (wi [0] Z) ?_)
 rintro s1484 _ x1486 h hx1485
 unfold line.Split.body2 at h
 refine aw_seq ?_
 obtain ⟨s1491, s1491e, h1492⟩ := bind_some h
 refine aw_meet (ν := Unit) (fun v => [(0, .str s_), (4, .sl (.own n1419) 1 (m3L s1418.out)), (5, .i s1484.at_), (19, .bool s1491)]) (fun v => [(n1419, .spare)]) ?_ ?_
 have h := s1491e
 refine aw_region (xy Z (xy Z (xa (.i (s_.length : Int)) Z (pu_strLen Z underlying9 (tm Z)) (xz (bd (s1484.at_ < (s_.length : Int))) Z (xy Z ?_)))))
 rcases Bool.eq_false_or_eq_true (decide (s1484.at_ < (s_.length : Int))) with hb1494 | hb1494
 replace h := ite_t (dec_t hb1494) h
 refine aops_known 14 Z hb1494 (xq Z Z Z Z (xq Z Z Z Z ?_))
 obtain ⟨c1495, h⟩ := need_of h
 refine xp (.int .u8 (bix s_ s1484.at_)) Z Z (pu_strIdxM Z underlying9 (tm Z) (tm Z) c1495) ?_
 obtain ⟨r1496, r1496e, h⟩ := bind_some h
 refine xg Z Z (op_call (vs := [.int .u8 (bix s_ s1484.at_)]) (H := []) Z call150 ⟨(tm Z), trivial⟩ (List.Perm.refl _) (line.blank.ok r1496e) ?_)
 rintro _ _ ⟨rfl, rfl⟩
 refine xz (.bool r1496) Z (xe ?_)
 cases h
 exact ⟨(), wi [0] Z⟩
 replace h := ite_f (dec_f hb1494) h
 refine aops_known 14 Z hb1494 (xu Z (xu Z (xu Z (xu Z (xz (.bool false) Z (xe ?_))))))
 cases h
 exact ⟨(), wi [0] Z⟩
 intro _
 have h := h1492
 refine aw_cond (b := s1491) (tm Z) (fun hb1497 => ?_) (fun hb1497 => ?_)
 replace h := ite_t hb1497 h
 refine aw_skip (aw_block (aw_region (xy Z (xz (.i (w64 (s1484.at_ + 1))) Z (xy Z (xe ?_))))))
 cases h
 exact ⟨_, (), Z, wi [0] Z⟩
 replace h := ite_fb hb1497 h
 refine aw_exit ?_
 cases h
 cases congrArg some (hx1485 _ rfl)
 exact ⟨(), wi [0] Z⟩
 intro _
 have h := h1460
 refine aw_seq (xr (xy Z (xy Z (xa (.i (s_.length : Int)) Z (pu_strLen Z underlying9 (tm Z)) (xz (bd (s1459 = (s_.length : Int))) Z (xe (cd h Z (fun _ h => ?_) (fun _ h => ?_))))))))
 refine xr (xy Z (xy Z (xz (.bool true) Z (xe (aw_ret ?_)))))
 cases h
 cases congrArg some (hx1420 _ rfl)
 exact rt ⟨n1419, Z, Z⟩ Z (wi [0] Z)
 refine aw_skip (xr (xa (.sl .full 1 e3L) Z (pu_assign Z (AEv.nil 1 (by decide))) (xe ?_)))
 obtain ⟨s1703, s1703e, h1599⟩ := bind_some h
 refine aw_join (σ := Int × (List UInt8)) (ν := Nat) (fun u v => [(0, .str s_), (4, .sl (.own n1419) 1 (m3L s1418.out)), (5, .i u.1), (6, .sl (.own v) 1 (m5L u.2))]) (fun u v => [(n1419, .spare), (v, .spare)]) (fun u => s1703 = .inl u) ?_ ?_
 intro s1597
 intro n1598
 rintro rfl
 have h := onSum_inl h1599
 refine aw_region (xy Z (xy Z (xc Z (op_bytesStr Z underlying114 underlying5 underlying9 (tm Z) (xc Z (op_buildSlice (xs := ([s1597.2] : List (List UInt8)).map AV.str) (aparts := [(0, .str s1597.2)]) Z underlying65 sizeOf9 zeroValue9 (by decide) (by decide) ⟨Z, (tm Z), trivial⟩ Z Z Z ?_))))))
 obtain ⟨c1701, h⟩ := need_of h
 refine xc Z (op_appendOM (q := 0) Z underlying65 underlying65 (.inl Z) typeInfo9 Z Z Z (by decide) (tm Z) Z (given_sl (tm Z)) c1701 ?_)
 intro t1702
 refine xy Z (xe ?_)
 cases h
 exact ⟨_, t1702, Z, wi [0] Z⟩
 have h := s1703e
 refine aw_block (aw_claim 6 (tm Z) fun t1700 => (aw_while (σ := line.Split.S4) (ν := Nat) (line.Split.body4 s_) (fun s1664 v => [(0, .str s_), (4, .sl (.own n1419) 1 (m3L s1418.out)), (5, .i s1664.at_), (6, .sl (.own v) 1 (m5L s1664.b))]) (fun s1664 v => [(n1419, .spare), (v, .spare)]) ⟨s1459, nS⟩ t1700 _ h (wi [1, 0] Z) ?_))
 rintro s1664 n1665 x1667 h hx1666
 unfold line.Split.body4 at h
 refine aw_seq ?_
 obtain ⟨s1672, s1672e, h1673⟩ := bind_some h
 refine aw_meet (ν := Unit) (fun v => [(0, .str s_), (4, .sl (.own n1419) 1 (m3L s1418.out)), (5, .i s1664.at_), (6, .sl (.own n1665) 1 (m5L s1664.b)), (37, .bool s1672)]) (fun v => [(n1419, .spare), (n1665, .spare)]) ?_ ?_
 have h := s1672e
 refine aw_region (xy Z (xy Z (xa (.i (s_.length : Int)) Z (pu_strLen Z underlying9 (tm Z)) (xz (bd (s1664.at_ < (s_.length : Int))) Z (xy Z ?_)))))
 rcases Bool.eq_false_or_eq_true (decide (s1664.at_ < (s_.length : Int))) with hb1675 | hb1675
 replace h := ite_t (dec_t hb1675) h
 refine aops_known 31 Z hb1675 (xq Z Z Z Z (xq Z Z Z Z ?_))
 obtain ⟨c1676, h⟩ := need_of h
 refine xp (.int .u8 (bix s_ s1664.at_)) Z Z (pu_strIdxM Z underlying9 (tm Z) (tm Z) c1676) ?_
 obtain ⟨r1677, r1677e, h⟩ := bind_some h
 refine xg Z Z (op_call (vs := [.int .u8 (bix s_ s1664.at_)]) (H := []) Z call150 ⟨(tm Z), trivial⟩ (List.Perm.refl _) (line.blank.ok r1677e) ?_)
 rintro _ _ ⟨rfl, rfl⟩
 refine xp (.bool (!r1677)) Z Z (pe Z) (xz (.bool (!r1677)) Z (xe ?_))
 cases h
 exact ⟨(), wi [0, 1] Z⟩
 replace h := ite_f (dec_f hb1675) h
 refine aops_known 31 Z hb1675 (xu Z (xu Z (xu Z (xu Z (xu Z (xz (.bool false) Z (xe ?_)))))))
 cases h
 exact ⟨(), wi [0, 1] Z⟩
 intro _
 have h := h1673
 refine aw_cond (b := s1672) (tm Z) (fun hb1699 => ?_) (fun hb1699 => ?_)
 replace h := ite_t hb1699 h
 refine aw_skip (aw_block (aw_seq ?_))
 obtain ⟨s1681, s1681e, h1682⟩ := bind_some h
 refine aw_meet (ν := Unit) (fun v => [(0, .str s_), (4, .sl (.own n1419) 1 (m3L s1418.out)), (5, .i s1664.at_), (6, .sl (.own n1665) 1 (m5L s1664.b)), (47, .bool s1681)]) (fun v => [(n1419, .spare), (n1665, .spare)]) ?_ ?_
 have h := s1681e
 refine aw_region (xy Z (xy Z ?_))
 obtain ⟨c1684, h⟩ := need_of h
 refine xa (.int .u8 (bix s_ s1664.at_)) Z (pu_strIdxM Z underlying9 (tm Z) (tm Z) c1684) (xz (bn ((bix s_ s1664.at_) = 34)) Z (xy Z ?_))
 rcases Bool.eq_false_or_eq_true (!decide ((bix s_ s1664.at_) = 34)) with hb1685 | hb1685
 replace h := ite_f (ndec_t hb1685) h
 refine aops_known 42 Z hb1685 (xq Z Z Z Z (xq Z Z Z Z ?_))
 obtain ⟨c1686, h⟩ := need_of h
 refine xp (.int .u8 (bix s_ s1664.at_)) Z Z (pu_strIdxM Z underlying9 (tm Z) (tm Z) c1686) (xp (bn ((bix s_ s1664.at_) = 39)) Z Z (pe Z) (xz (bn ((bix s_ s1664.at_) = 39)) Z (xe ?_)))
 cases h
 exact ⟨(), wi [0, 1] Z⟩
 replace h := ite_t (ndec_f hb1685) h
 refine aops_known 42 Z hb1685 (xu Z (xu Z (xu Z (xu Z (xz (.bool false) Z (xe ?_))))))
 cases h
 exact ⟨(), wi [0, 1] Z⟩
 intro _
 have h := h1682
 refine aw_cond (b := s1681) (tm Z) (fun hb1698 => ?_) (fun hb1698 => ?_)
 replace h := ite_t hb1698 h
 refine xr (xy Z (xy Z (xy Z ?_)))
 obtain ⟨c1687, h⟩ := need_of h
 refine xa (.int .u8 (bix s_ s1664.at_)) Z (pu_strIdxM Z underlying9 (tm Z) (tm Z) c1687) ?_
 obtain ⟨c1688, h⟩ := need_of h
 refine xc Z (op_buildSlice (xs := ([u8 (bix s_ s1664.at_)] : List UInt8).map byteAV) (aparts := [(0, byteAV (u8 (bix s_ s1664.at_)))]) Z underlying114 sizeOf5 zeroValue5 (by decide) (by decide) ⟨Z, (AEv.le (tm Z) (AV.Le.of_eq (byteAV_u8 c1688.1 c1688.2).symm)), trivial⟩ Z Z Z ?_)
 obtain ⟨c1689, h⟩ := need_of h
 refine xc Z (op_appendOM (q := 1) Z underlying114 underlying114 (.inl Z) typeInfo5 Z Z Z (by decide) (tm Z) Z (given_sl (tm Z)) c1689 ?_)
 intro t1690
 refine xy Z (xe (xr (xy Z (xz (.i (w64 (s1664.at_ + 1))) Z (xy Z (xe (aw_exit ?_)))))))
 cases h
 exact ⟨_, t1690, Z, wi [0, 1] Z⟩
 replace h := ite_fb hb1698 h
 refine aw_skip (xr (xy Z (xy Z (xz (.i (w64 (s1664.at_ + 1))) Z (xy Z (xy Z ?_))))))
 obtain ⟨c1691, h⟩ := need_of h
 refine xa (.int .u8 (bix s_ s1664.at_)) Z (pu_strIdxM Z underlying9 (tm Z) (tm Z) c1691) ?_
 obtain ⟨r1692, r1692e, h⟩ := bind_some h
 refine xk (line.quoted.ok r1692e) call151 Z ?_
 rintro _ _ ⟨t1693, rfl, rfl⟩
 refine xy Z (xz (.sl (.own t1693) 1 (m5L r1692.1)) Z (xz (.i r1692.2.1) Z (xz (.bool r1692.2.2) Z (xy Z (xy Z (xy Z (xe (aw_seq (aw_seq ?_)))))))))
 refine aw_region (xy Z (xz (.bool (!r1692.2.2)) Z (xe (cb h Z (fun _ h => ?_) (fun _ h => ?_)))))
 refine xr (xa (.sl .full 1 e2L) Z (pu_assign Z (AEv.nil 1 (by decide))) (xz (.bool false) Z (xe (aw_claim 2 (tm Z) fun t1694 => (aw_ret ?_)))))
 cases h
 cases congrArg some (hx1666 _ rfl)
 cases onSum_inr h1599
 cases congrArg some (hx1420 _ rfl)
 exact rt ⟨t1694, Z, Z⟩ Z (wi [0] Z)
 refine aw_skip (xr (xy Z (xy Z ?_)))
 obtain ⟨c1695, h⟩ := need_of h
 refine xc Z (op_appendOM (q := 2) Z underlying114 underlying114 (.inl Z) typeInfo5 Z Z Z (by decide) (tm Z) Z (given_sl (tm Z)) c1695 ?_)
 intro t1696
 refine xy Z (xe (aw_region (xy Z (xy Z (xe ?_)))))
 cases h
 exact ⟨_, t1696, Z, wi [1, 2] Z⟩
 replace h := ite_fb hb1699 h
 refine aw_exit ?_
 cases h
 have h := congrArg some (hx1666 _ rfl)
 exact ⟨(s1664.at_, s1664.b), n1665, (some_of h).symm, wi [0, 1] Z⟩

theorem parse.parser.line_1.ok {s_ b1_ r} (h : parse.parser.line_1 s_ b1_ = some r) (o0 o1 q0 q1 : Nat) : Sp prog 148 [.str s_, .ptr o0 0] [(o0, .cells [.ptr o1 0]), (o1, .cells (parse.parser.ct (.own q0) (.own q1) b1_)), (q0, .spare), (q1, .spare)] (fun v H => ∃ n0 n1, v = .bool r ∧ H = [(o0, .cells [.ptr o1 0]), (o1, .cells (parse.parser.ct (.own n0) (.own n1) b1_)), (n0, .spare), (n1, .spare)]) := by
 unfold parse.parser.line_1 at h
 refine sb [.tmp 3] func148 Z (xr (xz (.bool false) Z (xe (xr (xy Z (xa (.i (s_.length : Int)) Z (pu_strLen Z underlying9 (tm Z)) (xl 0 isAgg182 Z ?_)))))))
 refine xa (.ptr o1 0) Z (pu_nilCheck Z (tm Z) Z) (xf (.ptr o1 8) underlying184 sizeOf149 Z (xf (.ptr o1 9) underlying149 sizeOf3 Z (xl 1 isAgg3 Z (xz (bd (b1_.l.Bulk < (s_.length : Int))) Z (xy Z (xe (aw_ret ?_)))))))
 cases h
 exact rt ⟨q0, q1, Z, Z⟩ Z (wi [0, 1, 2, 3] Z)

theorem slices.IndexFunc_string_parse_parser_line_1.ok {s_ b1_ r} (h : slices.IndexFunc_string_parse_parser_line_1 s_ b1_ = some r) (o0 o1 q0 q1 : Nat) : Sp prog 95 [.sl .no 1 (m3L s_), .fn 148 [.ptr o0 0]] [(o0, .cells [.ptr o1 0]), (o1, .cells (parse.parser.ct (.own q0) (.own q1) b1_)), (q0, .spare), (q1, .spare)] (fun v H => ∃ n0 n1, v = .i r ∧ H = [(o0, .cells [.ptr o1 0]), (o1, .cells (parse.parser.ct (.own n0) (.own n1) b1_)), (n0, .spare), (n1, .spare)]) := by
 unfold slices.IndexFunc_string_parse_parser_line_1 at h
 refine sb [.tmp 4] func95 Z (xr (xz (.i 0) Z (xe ?_)))
 obtain ⟨s124, s124e, h94⟩ := bind_some h
 refine aw_join (σ := Unit) (ν := Nat × Nat) (fun u v => []) (fun u v => [(o0, .cells [.ptr o1 0]), (o1, .cells (parse.parser.ct (.own v.1) (.own v.2) b1_)), (v.1, .spare), (v.2, .spare)]) (fun u => s124 = .inl u) ?_ ?_
 intro s91
 rintro ⟨n92, n93⟩
 rintro rfl
 have h := onSum_inl h94
 refine xr (xz (.i (-1)) Z (xe (aw_ret ?_)))
 cases h
 exact rt ⟨n92, n93, Z, Z⟩ Z (wi [0, 1, 2, 3] Z)
 have h := s124e
 refine xr (xy Z (xa (.i (s_.length : Int)) Z (pu_lenM Z underlying65 (tm Z)) (xz (.i 0) Z (xe (aw_block (aw_while (σ := slices.IndexFunc_string_parse_parser_line_1.S0) (ν := Nat × Nat) (slices.IndexFunc_string_parse_parser_line_1.body0 s_ b1_) (fun s112 v => [(0, .sl .no 1 (m3L s_)), (1, .fn 148 [.ptr o0 0]), (7, .i (s_.length : Int)), (8, .i s112.t8)]) (fun s112 v => [(o0, .cells [.ptr o1 0]), (o1, .cells (parse.parser.ct (.own v.1) (.own v.2) b1_)), (v.1, .spare), (v.2, .spare)]) ⟨0⟩ (q0, q1) _ h (wi [0, 1, 2, 3] Z) ?_))))))
 rintro s112 ⟨n113, n114⟩ x116 h hx115
 unfold slices.IndexFunc_string_parse_parser_line_1.body0 at h
 refine xr (xz (bd (s112.t8 < (s_.length : Int))) Z (xe (aw_seq (cd h Z (fun _ h => ?_) (fun _ h => ?_)))))
 refine aw_skip (aw_seq (aw_block (xr (xy Z (xy Z (xe (aw_seq (aw_region ?_))))))))
 refine xy Z (xy Z (xy Z ?_))
 obtain ⟨c118, h⟩ := need_of h
 refine xa (.vptr [.str (ix s_ s112.t8)]) Z (pu_indexAddrM Z underlying65 sizeOf9 (tm Z) (tm Z) c118 Z) (xc Z (op_loadV1 Z isAgg9 (tm Z) Z ?_))
 obtain ⟨r119, r119e, h⟩ := bind_some h
 refine xc Z (op_callV (vs := [.str (ix s_ s112.t8)]) (H := [(o0, .cells [.ptr o1 0]), (o1, .cells (parse.parser.ct (.own n113) (.own n114) b1_)), (n113, .spare), (n114, .spare)]) Z (tm Z) call148 ⟨(tm Z), trivial⟩ (List.Perm.refl _) (parse.parser.line_1.ok r119e o0 o1 n113 n114) ?_)
 rintro _ _ ⟨t120, t121, rfl, rfl⟩
 refine xe (cb h Z (fun _ h => ?_) (fun _ h => ?_))
 refine xr (xy Z (xy Z (xe (aw_ret ?_))))
 cases h
 cases congrArg some (hx115 _ rfl)
 cases onSum_inr h94
 exact rt ⟨t120, t121, Z, Z⟩ Z (wi [0, 1, 2, 3] Z)
 refine aw_skip (aw_region (xz (.i (w64 (s112.t8 + 1))) Z (xy Z (xe ?_))))
 cases h
 exact ⟨_, (t120, t121), Z, wi [0, 1, 2, 3] Z⟩
 refine aw_exit ?_
 cases h
 have h := congrArg some (hx115 _ rfl)
 exact ⟨(), (n113, n114), (some_of h).symm, wi [0, 1, 2, 3] Z⟩

theorem slices.ContainsFunc_string_parse_parser_line_1.ok {s_ b1_ r} (h : slices.ContainsFunc_string_parse_parser_line_1 s_ b1_ = some r) (o0 o1 q0 q1 : Nat) : Sp prog 76 [.sl .no 1 (m3L s_), .fn 148 [.ptr o0 0]] [(o0, .cells [.ptr o1 0]), (o1, .cells (parse.parser.ct (.own q0) (.own q1) b1_)), (q0, .spare), (q1, .spare)] (fun v H => ∃ n0 n1, v = .bool r ∧ H = [(o0, .cells [.ptr o1 0]), (o1, .cells (parse.parser.ct (.own n0) (.own n1) b1_)), (n0, .spare), (n1, .spare)]) := by
 unfold slices.ContainsFunc_string_parse_parser_line_1 at h
 refine sb [.tmp 4] func76 Z (xr (xz (.bool false) Z (xe (xr (xy Z (xy Z ?_))))))
 obtain ⟨r4, r4e, h⟩ := bind_some h
 refine xk (slices.IndexFunc_string_parse_parser_line_1.ok r4e o0 o1 q0 q1) call95 Z ?_
 rintro _ _ ⟨t5, t6, rfl, rfl⟩
 refine xz (bd (0 ≤ r4)) Z (xy Z (xe (aw_ret ?_)))
 cases h
 exact rt ⟨t5, t6, Z, Z⟩ Z (wi [0, 1, 2, 3] Z)

end Go.Pu
