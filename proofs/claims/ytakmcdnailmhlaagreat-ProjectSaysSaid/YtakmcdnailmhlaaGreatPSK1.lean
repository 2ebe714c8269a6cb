/- Printed by lift.py: the functions come to them. -/
import Derived.Test.YtakmcdnailmhlaaGreatLiftWS
import Derived.Test.YtakmcdnailmhlaaGreatPSK0
set_option maxRecDepth 100000
set_option maxHeartbeats 0
namespace Go.Pu
open Go.Lift Go.Proofs.Tryz Go.RowKit Go.Proofs

theorem line.quoted.ok {s_ at_ mark r} (h : line.quoted s_ at_ mark = some r) : Sp prog 96 [.str s_, .i at_, .int .u8 mark] [] (fun v H => ∃ n0, v = .tup [.sl (.own n0) 1 (m5L r.1), .i r.2.1, .bool r.2.2] ∧ H = [(n0, .spare)]) := by
 unfold line.quoted at h
 refine sb [.tmp 6, .tmp 7, .tmp 8] func96 Z (xr (xb [.str s_] Z fun p228 => xa (.sl .full 1 e3L) Z (pu_assign Z (AEv.nil 1 (by decide))) (xz (.i 0) Z (xz (.bool false) Z (xe (xr (xa (.sl .full 1 e3L) Z (pu_assign Z (AEv.nil 1 (by decide))) (xe (aw_seq (aw_region ?_))))))))))
 refine xa (.fn 101 [.ptr p228 0]) Z (pu_makeFunc Z ⟨(tm Z), trivial⟩) (xy Z (xe ?_))
 obtain ⟨s455, s455e, h341⟩ := bind_some h
 refine aw_join (σ := Int) (ν := Unit) (fun u v => [(1, .i u)]) (fun u v => []) (fun u => s455 = .inl u) ?_ ?_
 intro s340
 intro _
 rintro rfl
 have h := onSum_inl h341
 refine xr (xy Z (xa (.sl .full 1 e3L) Z (pu_assign Z (AEv.nil 1 (by decide))) (xy Z (xz (.bool false) Z (xe (aw_claim 6 (tm Z) fun t454 => (aw_ret ?_)))))))
 cases h
 exact rt ⟨t454, Z, Z⟩ Z (wi [0] Z)
 have h := s455e
 refine aw_block (aw_claim 9 (tm Z) fun t453 => (aw_while (σ := line.quoted.S0) (ν := Nat) (line.quoted.body0 s_ mark) (fun s414 v => [(1, .i s414.at_), (2, .int .u8 mark), (3, .ptr p228 0), (9, .sl (.own v) 1 (m5L s414.b)), (10, .fn 101 [.ptr p228 0])]) (fun s414 v => [(p228, .cells [.str s_]), (v, .spare)]) ⟨at_, nS⟩ t453 _ h (wi [1, 0] Z) ?_))
 rintro s414 n415 x417 h hx416
 unfold line.quoted.body0 at h
 refine aw_seq (xr (xy Z (xl 0 isAgg9 Z (xa (.i (s_.length : Int)) Z (pu_strLen Z underlying9 (tm Z)) (xz (bd (s414.at_ < (s_.length : Int))) Z (xe (cd h Z (fun _ h => ?_) (fun _ h => ?_))))))))
 refine aw_skip (aw_block (xr (xl 0 isAgg9 Z (xy Z ?_))))
 obtain ⟨c419, h⟩ := need_of h
 refine xa (.int .u8 (bix s_ s414.at_)) Z (pu_strIdxM Z underlying9 (tm Z) (tm Z) c419) (xy Z (xe (aw_block (xr (xy Z (xy Z (xz (bd ((bix s_ s414.at_) = mark)) Z (xy Z ?_))))))))
 refine xe (cd h Z (fun _ h => ?_) (fun _ h => ?_))
 refine xr (xy Z (xy Z (xz (.i (w64 (s414.at_ + 1))) Z (xy Z (xy Z (xz (.i (w64 (s414.at_ + 1))) Z ?_))))))
 obtain ⟨r420, r420e, h⟩ := bind_some h
 refine xc Z (op_callV (vs := [.i (w64 (s414.at_ + 1))]) (H := [(p228, .cells [.str s_])]) Z (tm Z) call101 ⟨(tm Z), trivial⟩ (List.Perm.refl _) (line.quoted_1.ok r420e p228) ?_)
 rintro _ _ ⟨rfl, rfl⟩
 refine xy Z (xy Z (xy Z (xe (aw_ret ?_))))
 cases h
 cases congrArg some (hx416 _ rfl)
 cases onSum_inr h341
 exact rt ⟨n415, Z, Z⟩ Z (wi [1] Z)
 obtain ⟨s423, s423e, h424⟩ := letO_of h
 refine aw_meet (ν := Unit) (fun v => [(1, .i s414.at_), (2, .int .u8 mark), (3, .ptr p228 0), (9, .sl (.own n415) 1 (m5L s414.b)), (10, .fn 101 [.ptr p228 0]), (11, .int .u8 (bix s_ s414.at_)), (38, .bool s423)]) (fun v => [(p228, .cells [.str s_]), (n415, .spare)]) ?_ ?_
 have h := s423e.symm
 refine aw_region (xy Z (xz (bd ((bix s_ s414.at_) = 92)) Z (xy Z ?_)))
 rcases Bool.eq_false_or_eq_true (decide ((bix s_ s414.at_) = 92)) with hb426 | hb426
 replace h := ite_t (dec_t hb426) h
 refine aops_known 41 Z hb426 (xq Z Z Z Z (xp (bd (mark = 34)) Z Z (pe Z) (xz (bd (mark = 34)) Z (xy Z ?_))))
 rcases Bool.eq_false_or_eq_true (decide (mark = 34)) with hb427 | hb427
 replace h := ite_t (dec_t hb427) h
 refine aops_known 45 Z hb427 (xq Z Z Z Z (xp (.i (w64 (s414.at_ + 1))) Z Z (pe Z) (xg Z Z (op_load1 (i := 0) Z isAgg9 (tm Z) Z Z (xp (.i (s_.length : Int)) Z Z (pu_strLen Z underlying9 (tm Z)) (xp (bd ((w64 (s414.at_ + 1)) < (s_.length : Int))) Z Z (pe Z) (xz (bd ((w64 (s414.at_ + 1)) < (s_.length : Int))) Z (xy Z (xe ?_)))))))))
 subst h
 exact ⟨(), wi [0, 1] Z⟩
 replace h := ite_f (dec_f hb427) h
 refine aops_known 45 Z hb427 (xu Z (xu Z (xu Z (xu Z (xu Z (xz (.bool false) Z (xy Z (xe ?_))))))))
 subst h
 exact ⟨(), wi [0, 1] Z⟩
 replace h := ite_f (dec_f hb426) h
 refine aops_known 41 Z hb426 (xu Z (xu Z (xz (.bool false) Z (xy Z (xu Z (xu Z (xu Z (xu Z (xu Z ?_)))))))))
 refine xz (.bool false) Z (xy Z (xe ?_))
 subst h
 exact ⟨(), wi [0, 1] Z⟩
 intro _
 have h := h424
 refine aw_cond (b := s423) (tm Z) (fun hb450 => ?_) (fun hb450 => ?_)
 replace h := ite_t hb450 h
 refine xr (xz (.int .u8 0) Z (xe (xr (xl 0 isAgg9 Z (xy Z (xz (.i (w64 (s414.at_ + 1))) Z ?_))))))
 obtain ⟨r428, r428e, h⟩ := bind_some h
 refine xo (line.turn.ok r428e) call102 Z (xy Z (xz (.int .u8 r428.1) Z (xz (.i r428.2) Z (xy Z (xy Z (xe (aw_region (xy Z (xy Z ?_)))))))))
 obtain ⟨c429, h⟩ := need_of h
 refine xc Z (op_buildSlice (xs := ([u8 r428.1] : List UInt8).map byteAV) (aparts := [(0, byteAV (u8 r428.1))]) Z underlying126 sizeOf5 zeroValue5 (by decide) (by decide) ⟨Z, (AEv.le (tm Z) (AV.Le.of_eq (byteAV_u8 c429.1 c429.2).symm)), trivial⟩ Z Z Z ?_)
 obtain ⟨c430, h⟩ := need_of h
 refine xc Z (op_appendOM (q := 1) Z underlying126 underlying126 (.inl Z) typeInfo5 Z Z Z (by decide) (tm Z) Z (given_sl (tm Z)) c430 ?_)
 intro t431
 refine xy Z (xe ?_)
 cases h
 exact ⟨_, t431, Z, wi [0, 1] Z⟩
 replace h := ite_fb hb450 h
 obtain ⟨s436, s436e, h437⟩ := bind_some h
 refine aw_meet (ν := Unit) (fun v => [(1, .i s414.at_), (2, .int .u8 mark), (3, .ptr p228 0), (9, .sl (.own n415) 1 (m5L s414.b)), (10, .fn 101 [.ptr p228 0]), (11, .int .u8 (bix s_ s414.at_)), (63, .bool s436)]) (fun v => [(p228, .cells [.str s_]), (n415, .spare)]) ?_ ?_
 have h := s436e
 refine aw_region (xy Z (xz (bd ((bix s_ s414.at_) = 92)) Z (xy Z ?_)))
 rcases Bool.eq_false_or_eq_true (decide ((bix s_ s414.at_) = 92)) with hb439 | hb439
 replace h := ite_t (dec_t hb439) h
 refine aops_known 66 Z hb439 (xq Z Z Z Z (xp (bd (mark = 39)) Z Z (pe Z) (xz (bd (mark = 39)) Z (xy Z ?_))))
 rcases Bool.eq_false_or_eq_true (decide (mark = 39)) with hb440 | hb440
 replace h := ite_t (dec_t hb440) h
 refine aops_known 70 Z hb440 (xq Z Z Z Z (xp (.i (w64 (s414.at_ + 1))) Z Z (pe Z) (xg Z Z (op_load1 (i := 0) Z isAgg9 (tm Z) Z Z (xp (.i (s_.length : Int)) Z Z (pu_strLen Z underlying9 (tm Z)) (xp (bd ((w64 (s414.at_ + 1)) < (s_.length : Int))) Z Z (pe Z) (xz (bd ((w64 (s414.at_ + 1)) < (s_.length : Int))) Z (xy Z ?_))))))))
 rcases Bool.eq_false_or_eq_true (decide ((w64 (s414.at_ + 1)) < (s_.length : Int))) with hb441 | hb441
 replace h := ite_t (dec_t hb441) h
 refine aops_known 77 Z hb441 (xg Z Z (op_load1 (i := 0) Z isAgg9 (tm Z) Z Z (xq Z Z Z Z (xp (.i (w64 (s414.at_ + 1))) Z Z (pe Z) ?_))))
 obtain ⟨c442, h⟩ := need_of h
 refine xp (.int .u8 (bix s_ (w64 (s414.at_ + 1)))) Z Z (pu_strIdxM Z underlying9 (tm Z) (tm Z) c442) (xq Z Z Z Z (xp (bd ((bix s_ (w64 (s414.at_ + 1))) = mark)) Z Z (pe Z) (xz (bd ((bix s_ (w64 (s414.at_ + 1))) = mark)) Z (xy Z (xe ?_)))))
 cases h
 exact ⟨(), wi [0, 1] Z⟩
 replace h := ite_f (dec_f hb441) h
 refine aops_known 77 Z hb441 (xu Z (xu Z (xu Z (xu Z (xu Z (xu Z (xz (.bool false) Z (xy Z (xe ?_)))))))))
 cases h
 exact ⟨(), wi [0, 1] Z⟩
 replace h := ite_f (dec_f hb440) h
 refine aops_known 70 Z hb440 (xu Z (xu Z (xu Z (xu Z (xu Z (xz (.bool false) Z (xy Z (xu Z (xu Z ?_)))))))))
 refine xu Z (xu Z (xu Z (xu Z (xz (.bool false) Z (xy Z (xe ?_))))))
 cases h
 exact ⟨(), wi [0, 1] Z⟩
 replace h := ite_f (dec_f hb439) h
 refine aops_known 66 Z hb439 (xu Z (xu Z (xz (.bool false) Z (xy Z (xu Z (xu Z (xu Z (xu Z (xu Z ?_)))))))))
 refine xz (.bool false) Z (xy Z (xu Z (xu Z (xu Z (xu Z (xu Z (xu Z (xz (.bool false) Z (xy Z ?_)))))))))
 refine xe ?_
 cases h
 exact ⟨(), wi [0, 1] Z⟩
 intro _
 have h := h437
 refine aw_cond (b := s436) (tm Z) (fun hb449 => ?_) (fun hb449 => ?_)
 replace h := ite_t hb449 h
 refine xr (xy Z (xy Z ?_))
 obtain ⟨c443, h⟩ := need_of h
 refine xc Z (op_buildSlice (xs := ([u8 mark] : List UInt8).map byteAV) (aparts := [(0, byteAV (u8 mark))]) Z underlying126 sizeOf5 zeroValue5 (by decide) (by decide) ⟨Z, (AEv.le (tm Z) (AV.Le.of_eq (byteAV_u8 c443.1 c443.2).symm)), trivial⟩ Z Z Z ?_)
 obtain ⟨c444, h⟩ := need_of h
 refine xc Z (op_appendOM (q := 1) Z underlying126 underlying126 (.inl Z) typeInfo5 Z Z Z (by decide) (tm Z) Z (given_sl (tm Z)) c444 ?_)
 intro t445
 refine xy Z (xe (aw_region (xy Z (xz (.i (w64 (s414.at_ + 2))) Z (xy Z (xe ?_))))))
 cases h
 exact ⟨_, t445, Z, wi [0, 1] Z⟩
 replace h := ite_fb hb449 h
 refine xr (xy Z (xy Z ?_))
 obtain ⟨c446, h⟩ := need_of h
 refine xc Z (op_buildSlice (xs := ([u8 (bix s_ s414.at_)] : List UInt8).map byteAV) (aparts := [(0, byteAV (u8 (bix s_ s414.at_)))]) Z underlying126 sizeOf5 zeroValue5 (by decide) (by decide) ⟨Z, (AEv.le (tm Z) (AV.Le.of_eq (byteAV_u8 c446.1 c446.2).symm)), trivial⟩ Z Z Z ?_)
 obtain ⟨c447, h⟩ := need_of h
 refine xc Z (op_appendOM (q := 1) Z underlying126 underlying126 (.inl Z) typeInfo5 Z Z Z (by decide) (tm Z) Z (given_sl (tm Z)) c447 ?_)
 intro t448
 refine xy Z (xe (aw_region (xy Z (xz (.i (w64 (s414.at_ + 1))) Z (xy Z (xe ?_))))))
 cases h
 exact ⟨_, t448, Z, wi [0, 1] Z⟩
 refine aw_exit ?_
 cases h
 have h := congrArg some (hx416 _ rfl)
 exact ⟨s414.at_, (), (some_of h).symm, wi [] Z⟩

theorem line.Split.ok {s_ r} (h : line.Split s_ = some r) : Sp prog 89 [.str s_] [] (fun v H => ∃ n0, v = .tup [.sl (.own n0) 1 (m3L r.1), .bool r.2] ∧ H = [(n0, .spare)]) := by
 unfold line.Split at h
 refine sb [.tmp 2, .tmp 3] func89 Z (xr (xa (.sl .full 1 e2L) Z (pu_assign Z (AEv.nil 1 (by decide))) (xz (.bool false) Z (xe (xr (xa (.sl .full 1 e2L) Z (pu_assign Z (AEv.nil 1 (by decide))) (xe ?_)))))))
 refine xr (xz (.i 0) Z (xe (aw_block (aw_claim 4 (tm Z) fun t1705 => (aw_while (σ := line.Split.S0) (ν := Nat) (line.Split.body0 s_) (fun s1418 v => [(0, .str s_), (4, .sl (.own v) 1 (m3L s1418.out)), (5, .i s1418.at_)]) (fun s1418 v => [(v, .spare)]) ⟨([] : List (List UInt8)), 0⟩ t1705 _ h (wi [0] Z) ?_)))))
 rintro s1418 n1419 x1421 h hx1420
 unfold line.Split.body0 at h
 refine aw_block ?_
 obtain ⟨s1459, s1459e, h1460⟩ := bind_some h
 refine aw_meet (ν := Unit) (fun v => [(0, .str s_), (4, .sl (.own n1419) 1 (m3L s1418.out)), (5, .i s1459)]) (fun v => [(n1419, .spare)]) ?_ ?_
 have h := s1459e
 refine aw_block (aw_while (σ := line.Split.S2) (ν := Unit) (line.Split.body2 s_) (fun s1484 v => [(0, .str s_), (4, .sl (.own n1419) 1 (m3L s1418.out)), (5, .i s1484.at_)]) (fun s1484 v => [(n1419, .spare)]) ⟨s1418.at_⟩ () _ h (wi [0] Z) ?_)
 rintro s1484 _ x1486 h hx1485
 unfold line.Split.body2 at h
 refine aw_seq ?_
 obtain ⟨s1491, s1491e, h1492⟩ := bind_some h
 refine aw_meet (ν := Unit) (fun v => [(0, .str s_), (4, .sl (.own n1419) 1 (m3L s1418.out)), (5, .i s1484.at_), (19, .bool s1491)]) (fun v => [(n1419, .spare)]) ?_ ?_
 have h := s1491e
 refine aw_region (xy Z (xy Z (xa (.i (s_.length : Int)) Z (pu_strLen Z underlying9 (tm Z)) (xz (bd (s1484.at_ < (s_.length : Int))) Z (xy Z ?_)))))
 rcases Bool.eq_false_or_eq_true (decide (s1484.at_ < (s_.length : Int))) with hb1494 | hb1494
 replace h := ite_t (dec_t hb1494) h
 refine aops_known 14 Z hb1494 (xq Z Z Z Z (xq Z Z Z Z ?_))
 obtain ⟨c1495, h⟩ := need_of h
 refine xp (.int .u8 (bix s_ s1484.at_)) Z Z (pu_strIdxM Z underlying9 (tm Z) (tm Z) c1495) ?_
 obtain ⟨r1496, r1496e, h⟩ := bind_some h
 refine xg Z Z (op_call (vs := [.int .u8 (bix s_ s1484.at_)]) (H := []) Z call95 ⟨(tm Z), trivial⟩ (List.Perm.refl _) (line.blank.ok r1496e) ?_)
 rintro _ _ ⟨rfl, rfl⟩
 refine xz (.bool r1496) Z (xe ?_)
 cases h
 exact ⟨(), wi [0] Z⟩
 replace h := ite_f (dec_f hb1494) h
 refine aops_known 14 Z hb1494 (xu Z (xu Z (xu Z (xu Z (xz (.bool false) Z (xe ?_))))))
 cases h
 exact ⟨(), wi [0] Z⟩
 intro _
 have h := h1492
 refine aw_cond (b := s1491) (tm Z) (fun hb1497 => ?_) (fun hb1497 => ?_)
 replace h := ite_t hb1497 h
 refine aw_skip (aw_block (aw_region (xy Z (xz (.i (w64 (s1484.at_ + 1))) Z (xy Z (xe ?_))))))
 cases h
 exact ⟨_, (), Z, wi [0] Z⟩
 replace h := ite_fb hb1497 h
 refine aw_exit ?_
 cases h
 cases congrArg some (hx1485 _ rfl)
 exact ⟨(), wi [0] Z⟩
 intro _
 have h := h1460
 refine aw_seq (xr (xy Z (xy Z (xa (.i (s_.length : Int)) Z (pu_strLen Z underlying9 (tm Z)) (xz (bd (s1459 = (s_.length : Int))) Z (xe (cd h Z (fun _ h => ?_) (fun _ h => ?_))))))))
 refine xr (xy Z (xy Z (xz (.bool true) Z (xe (aw_ret ?_)))))
 cases h
 cases congrArg some (hx1420 _ rfl)
 exact rt ⟨n1419, Z, Z⟩ Z (wi [0] Z)
 refine aw_skip (xr (xa (.sl .full 1 e3L) Z (pu_assign Z (AEv.nil 1 (by decide))) (xe ?_)))
 obtain ⟨s1703, s1703e, h1599⟩ := bind_some h
 refine aw_join (σ := Int × (List UInt8)) (ν := Nat) (fun u v => [(0, .str s_), (4, .sl (.own n1419) 1 (m3L s1418.out)), (5, .i u.1), (6, .sl (.own v) 1 (m5L u.2))]) (fun u v => [(n1419, .spare), (v, .spare)]) (fun u => s1703 = .inl u) ?_ ?_
 intro s1597
 intro n1598
 rintro rfl
 have h := onSum_inl h1599
 refine aw_region (xy Z (xy Z (xc Z (op_bytesStr Z underlying126 underlying5 underlying9 (tm Z) (xc Z (op_buildSlice (xs := ([s1597.2] : List (List UInt8)).map AV.str) (aparts := [(0, .str s1597.2)]) Z underlying71 sizeOf9 zeroValue9 (by decide) (by decide) ⟨Z, (tm Z), trivial⟩ Z Z Z ?_))))))
 obtain ⟨c1701, h⟩ := need_of h
 refine xc Z (op_appendOM (q := 0) Z underlying71 underlying71 (.inl Z) typeInfo9 Z Z Z (by decide) (tm Z) Z (given_sl (tm Z)) c1701 ?_)
 intro t1702
 refine xy Z (xe ?_)
 cases h
 exact ⟨_, t1702, Z, wi [0] Z⟩
 have h := s1703e
 refine aw_block (aw_claim 6 (tm Z) fun t1700 => (aw_while (σ := line.Split.S4) (ν := Nat) (line.Split.body4 s_) (fun s1664 v => [(0, .str s_), (4, .sl (.own n1419) 1 (m3L s1418.out)), (5, .i s1664.at_), (6, .sl (.own v) 1 (m5L s1664.b))]) (fun s1664 v => [(n1419, .spare), (v, .spare)]) ⟨s1459, nS⟩ t1700 _ h (wi [1, 0] Z) ?_))
 rintro s1664 n1665 x1667 h hx1666
 unfold line.Split.body4 at h
 refine aw_seq ?_
 obtain ⟨s1672, s1672e, h1673⟩ := bind_some h
 refine aw_meet (ν := Unit) (fun v => [(0, .str s_), (4, .sl (.own n1419) 1 (m3L s1418.out)), (5, .i s1664.at_), (6, .sl (.own n1665) 1 (m5L s1664.b)), (37, .bool s1672)]) (fun v => [(n1419, .spare), (n1665, .spare)]) ?_ ?_
 have h := s1672e
 refine aw_region (xy Z (xy Z (xa (.i (s_.length : Int)) Z (pu_strLen Z underlying9 (tm Z)) (xz (bd (s1664.at_ < (s_.length : Int))) Z (xy Z ?_)))))
 rcases Bool.eq_false_or_eq_true (decide (s1664.at_ < (s_.length : Int))) with hb1675 | hb1675
 replace h := ite_t (dec_t hb1675) h
 refine aops_known 31 Z hb1675 (xq Z Z Z Z (xq Z Z Z Z ?_))
 obtain ⟨c1676, h⟩ := need_of h
 refine xp (.int .u8 (bix s_ s1664.at_)) Z Z (pu_strIdxM Z underlying9 (tm Z) (tm Z) c1676) ?_
 obtain ⟨r1677, r1677e, h⟩ := bind_some h
 refine xg Z Z (op_call (vs := [.int .u8 (bix s_ s1664.at_)]) (H := []) Z call95 ⟨(tm Z), trivial⟩ (List.Perm.refl _) (line.blank.ok r1677e) ?_)
 rintro _ _ ⟨rfl, rfl⟩
 refine xp (.bool (!r1677)) Z Z (pe Z) (xz (.bool (!r1677)) Z (xe ?_))
 cases h
 exact ⟨(), wi [0, 1] Z⟩
 replace h := ite_f (dec_f hb1675) h
 refine aops_known 31 Z hb1675 (xu Z (xu Z (xu Z (xu Z (xu Z (xz (.bool false) Z (xe ?_)))))))
 cases h
 exact ⟨(), wi [0, 1] Z⟩
 intro _
 have h := h1673
 refine aw_cond (b := s1672) (tm Z) (fun hb1699 => ?_) (fun hb1699 => ?_)
 replace h := ite_t hb1699 h
 refine aw_skip (aw_block (aw_seq ?_))
 obtain ⟨s1681, s1681e, h1682⟩ := bind_some h
 refine aw_meet (ν := Unit) (fun v => [(0, .str s_), (4, .sl (.own n1419) 1 (m3L s1418.out)), (5, .i s1664.at_), (6, .sl (.own n1665) 1 (m5L s1664.b)), (47, .bool s1681)]) (fun v => [(n1419, .spare), (n1665, .spare)]) ?_ ?_
 have h := s1681e
 refine aw_region (xy Z (xy Z ?_))
 obtain ⟨c1684, h⟩ := need_of h
 refine xa (.int .u8 (bix s_ s1664.at_)) Z (pu_strIdxM Z underlying9 (tm Z) (tm Z) c1684) (xz (bn ((bix s_ s1664.at_) = 34)) Z (xy Z ?_))
 rcases Bool.eq_false_or_eq_true (!decide ((bix s_ s1664.at_) = 34)) with hb1685 | hb1685
 replace h := ite_f (ndec_t hb1685) h
 refine aops_known 42 Z hb1685 (xq Z Z Z Z (xq Z Z Z Z ?_))
 obtain ⟨c1686, h⟩ := need_of h
 refine xp (.int .u8 (bix s_ s1664.at_)) Z Z (pu_strIdxM Z underlying9 (tm Z) (tm Z) c1686) (xp (bn ((bix s_ s1664.at_) = 39)) Z Z (pe Z) (xz (bn ((bix s_ s1664.at_) = 39)) Z (xe ?_)))
 cases h
 exact ⟨(), wi [0, 1] Z⟩
 replace h := ite_t (ndec_f hb1685) h
 refine aops_known 42 Z hb1685 (xu Z (xu Z (xu Z (xu Z (xz (.bool false) Z (xe ?_))))))
 cases h
 exact ⟨(), wi [0, 1] Z⟩
 intro _
 have h := h1682
 refine aw_cond (b := s1681) (tm Z) (fun hb1698 => ?_) (fun hb1698 => ?_)
 replace h := ite_t hb1698 h
 refine xr (xy Z (xy Z (xy Z ?_)))
 obtain ⟨c1687, h⟩ := need_of h
 refine xa (.int .u8 (bix s_ s1664.at_)) Z (pu_strIdxM Z underlying9 (tm Z) (tm Z) c1687) ?_
 obtain ⟨c1688, h⟩ := need_of h
 refine xc Z (op_buildSlice (xs := ([u8 (bix s_ s1664.at_)] : List UInt8).map byteAV) (aparts := [(0, byteAV (u8 (bix s_ s1664.at_)))]) Z underlying126 sizeOf5 zeroValue5 (by decide) (by decide) ⟨Z, (AEv.le (tm Z) (AV.Le.of_eq (byteAV_u8 c1688.1 c1688.2).symm)), trivial⟩ Z Z Z ?_)
 obtain ⟨c1689, h⟩ := need_of h
 refine xc Z (op_appendOM (q := 1) Z underlying126 underlying126 (.inl Z) typeInfo5 Z Z Z (by decide) (tm Z) Z (given_sl (tm Z)) c1689 ?_)
 intro t1690
 refine xy Z (xe (xr (xy Z (xz (.i (w64 (s1664.at_ + 1))) Z (xy Z (xe (aw_exit ?_)))))))
 cases h
 exact ⟨_, t1690, Z, wi [0, 1] Z⟩
 replace h := ite_fb hb1698 h
 refine aw_skip (xr (xy Z (xy Z (xz (.i (w64 (s1664.at_ + 1))) Z (xy Z (xy Z ?_))))))
 obtain ⟨c1691, h⟩ := need_of h
 refine xa (.int .u8 (bix s_ s1664.at_)) Z (pu_strIdxM Z underlying9 (tm Z) (tm Z) c1691) ?_
 obtain ⟨r1692, r1692e, h⟩ := bind_some h
 refine xk (line.quoted.ok r1692e) call96 Z ?_
 rintro _ _ ⟨t1693, rfl, rfl⟩
 refine xy Z (xz (.sl (.own t1693) 1 (m5L r1692.1)) Z (xz (.i r1692.2.1) Z (xz (.bool r1692.2.2) Z (xy Z (xy Z (xy Z (xe (aw_seq (aw_seq ?_)))))))))
 refine aw_region (xy Z (xz (.bool (!r1692.2.2)) Z (xe (cb h Z (fun _ h => ?_) (fun _ h => ?_)))))
 refine xr (xa (.sl .full 1 e2L) Z (pu_assign Z (AEv.nil 1 (by decide))) (xz (.bool false) Z (xe (aw_claim 2 (tm Z) fun t1694 => (aw_ret ?_)))))
 cases h
 cases congrArg some (hx1666 _ rfl)
 cases onSum_inr h1599
 cases congrArg some (hx1420 _ rfl)
 exact rt ⟨t1694, Z, Z⟩ Z (wi [0] Z)
 refine aw_skip (xr (xy Z (xy Z ?_)))
 obtain ⟨c1695, h⟩ := need_of h
 refine xc Z (op_appendOM (q := 2) Z underlying126 underlying126 (.inl Z) typeInfo5 Z Z Z (by decide) (tm Z) Z (given_sl (tm Z)) c1695 ?_)
 intro t1696
 refine xy Z (xe (aw_region (xy Z (xy Z (xe ?_)))))
 cases h
 exact ⟨_, t1696, Z, wi [1, 2] Z⟩
 replace h := ite_fb hb1699 h
 refine aw_exit ?_
 cases h
 have h := congrArg some (hx1666 _ rfl)
 exact ⟨(s1664.at_, s1664.b), n1665, (some_of h).symm, wi [0, 1] Z⟩

theorem parse.parser.line_1.ok {s_ b1_ r} (h : parse.parser.line_1 s_ b1_ = some r) (o0 o1 q0 q1 : Nat) : Sp prog 91 [.str s_, .ptr o0 0] [(o0, .cells [.ptr o1 0]), (o1, .cells (parse.parser.ct (.own q0) (.own q1) b1_)), (q0, .spare), (q1, .spare)] (fun v H => ∃ n0 n1, v = .bool r ∧ H = [(o0, .cells [.ptr o1 0]), (o1, .cells (parse.parser.ct (.own n0) (.own n1) b1_)), (n0, .spare), (n1, .spare)]) := by
 unfold parse.parser.line_1 at h
 refine sb [.tmp 3] func91 Z (xr (xz (.bool false) Z (xe (xr (xy Z (xa (.i (s_.length : Int)) Z (pu_strLen Z underlying9 (tm Z)) (xl 0 isAgg109 Z ?_)))))))
 refine xa (.ptr o1 0) Z (pu_nilCheck Z (tm Z) Z) (xf (.ptr o1 8) underlying111 sizeOf66 Z (xf (.ptr o1 9) underlying66 sizeOf3 Z (xl 1 isAgg3 Z (xz (bd (b1_.l.Bulk < (s_.length : Int))) Z (xy Z (xe (aw_ret ?_)))))))
 cases h
 exact rt ⟨q0, q1, Z, Z⟩ Z (wi [0, 1, 2, 3] Z)

theorem slices.IndexFunc_string_parse_parser_line_1.ok {s_ b1_ r} (h : slices.IndexFunc_string_parse_parser_line_1 s_ b1_ = some r) (o0 o1 q0 q1 : Nat) : Sp prog 98 [.sl .no 1 (m3L s_), .fn 91 [.ptr o0 0]] [(o0, .cells [.ptr o1 0]), (o1, .cells (parse.parser.ct (.own q0) (.own q1) b1_)), (q0, .spare), (q1, .spare)] (fun v H => ∃ n0 n1, v = .i r ∧ H = [(o0, .cells [.ptr o1 0]), (o1, .cells (parse.parser.ct (.own n0) (.own n1) b1_)), (n0, .spare), (n1, .spare)]) := by
 unfold slices.IndexFunc_string_parse_parser_line_1 at h
 refine sb [.tmp 4] func98 Z (xr (xz (.i 0) Z (xe ?_)))
 obtain ⟨s124, s124e, h94⟩ := bind_some h
 refine aw_join (σ := Unit) (ν := Nat × Nat) (fun u v => []) (fun u v => [(o0, .cells [.ptr o1 0]), (o1, .cells (parse.parser.ct (.own v.1) (.own v.2) b1_)), (v.1, .spare), (v.2, .spare)]) (fun u => s124 = .inl u) ?_ ?_
 intro s91
 rintro ⟨n92, n93⟩
 rintro rfl
 have h := onSum_inl h94
 refine xr (xz (.i (-1)) Z (xe (aw_ret ?_)))
 cases h
 exact rt ⟨n92, n93, Z, Z⟩ Z (wi [0, 1, 2, 3] Z)
 have h := s124e
 refine xr (xy Z (xa (.i (s_.length : Int)) Z (pu_lenM Z underlying71 (tm Z)) (xz (.i 0) Z (xe (aw_block (aw_while (σ := slices.IndexFunc_string_parse_parser_line_1.S0) (ν := Nat × Nat) (slices.IndexFunc_string_parse_parser_line_1.body0 s_ b1_) (fun s112 v => [(0, .sl .no 1 (m3L s_)), (1, .fn 91 [.ptr o0 0]), (7, .i (s_.length : Int)), (8, .i s112.t8)]) (fun s112 v => [(o0, .cells [.ptr o1 0]), (o1, .cells (parse.parser.ct (.own v.1) (.own v.2) b1_)), (v.1, .spare), (v.2, .spare)]) ⟨0⟩ (q0, q1) _ h (wi [0, 1, 2, 3] Z) ?_))))))
 rintro s112 ⟨n113, n114⟩ x116 h hx115
 unfold slices.IndexFunc_string_parse_parser_line_1.body0 at h
 refine xr (xz (bd (s112.t8 < (s_.length : Int))) Z (xe (aw_seq (cd h Z (fun _ h => ?_) (fun _ h => ?_)))))
 refine aw_skip (aw_seq (aw_block (xr (xy Z (xy Z (xe (aw_seq (aw_region ?_))))))))
 refine xy Z (xy Z (xy Z ?_))
 obtain ⟨c118, h⟩ := need_of h
 refine xa (.vptr [.str (ix s_ s112.t8)]) Z (pu_indexAddrM Z underlying71 sizeOf9 (tm Z) (tm Z) c118 Z) (xc Z (op_loadV1 Z isAgg9 (tm Z) Z ?_))
 obtain ⟨r119, r119e, h⟩ := bind_some h
 refine xc Z (op_callV (vs := [.str (ix s_ s112.t8)]) (H := [(o0, .cells [.ptr o1 0]), (o1, .cells (parse.parser.ct (.own n113) (.own n114) b1_)), (n113, .spare), (n114, .spare)]) Z (tm Z) call91 ⟨(tm Z), trivial⟩ (List.Perm.refl _) (parse.parser.line_1.ok r119e o0 o1 n113 n114) ?_)
 rintro _ _ ⟨t120, t121, rfl, rfl⟩
 refine xe (cb h Z (fun _ h => ?_) (fun _ h => ?_))
 refine xr (xy Z (xy Z (xe (aw_ret ?_))))
 cases h
 cases congrArg some (hx115 _ rfl)
 cases onSum_inr h94
 exact rt ⟨t120, t121, Z, Z⟩ Z (wi [0, 1, 2, 3] Z)
 refine aw_skip (aw_region (xz (.i (w64 (s112.t8 + 1))) Z (xy Z (xe ?_))))
 cases h
 exact ⟨_, (t120, t121), Z, wi [0, 1, 2, 3] Z⟩
 refine aw_exit ?_
 cases h
 have h := congrArg some (hx115 _ rfl)
 exact ⟨(), (n113, n114), (some_of h).symm, wi [0, 1, 2, 3] Z⟩

theorem slices.ContainsFunc_string_parse_parser_line_1.ok {s_ b1_ r} (h : slices.ContainsFunc_string_parse_parser_line_1 s_ b1_ = some r) (o0 o1 q0 q1 : Nat) : Sp prog 92 [.sl .no 1 (m3L s_), .fn 91 [.ptr o0 0]] [(o0, .cells [.ptr o1 0]), (o1, .cells (parse.parser.ct (.own q0) (.own q1) b1_)), (q0, .spare), (q1, .spare)] (fun v H => ∃ n0 n1, v = .bool r ∧ H = [(o0, .cells [.ptr o1 0]), (o1, .cells (parse.parser.ct (.own n0) (.own n1) b1_)), (n0, .spare), (n1, .spare)]) := by
 unfold slices.ContainsFunc_string_parse_parser_line_1 at h
 refine sb [.tmp 4] func92 Z (xr (xz (.bool false) Z (xe (xr (xy Z (xy Z ?_))))))
 obtain ⟨r4, r4e, h⟩ := bind_some h
 refine xk (slices.IndexFunc_string_parse_parser_line_1.ok r4e o0 o1 q0 q1) call98 Z ?_
 rintro _ _ ⟨t5, t6, rfl, rfl⟩
 refine xz (bd (0 ≤ r4)) Z (xy Z (xe (aw_ret ?_)))
 cases h
 exact rt ⟨t5, t6, Z, Z⟩ Z (wi [0, 1, 2, 3] Z)

theorem parse.parser.line.ok {p_ r} (h : parse.parser.line p_ = some r) (o0 q0 q1 : Nat) : Sp prog 77 [.ptr o0 0] [(o0, .cells (parse.parser.ct (.own q0) (.own q1) p_)), (q0, .spare), (q1, .spare)] (fun v H => ∃ n0 n1, v = .bool r.1 ∧ H = [(o0, .cells [.str r.2.in_.Rest, .sl (.own n0) 1 (m3L r.2.in_.Args), .i r.2.in_.Left, .i r.2.in_.Size, .bool r.2.in_.Body, .i r.2.in_.Need, .i r.2.in_.Dead, .str r.2.s, .i r.2.l.Args, .i r.2.l.Bulk, .i r.2.l.Line, .sl (.own n1) 2 (m4L r.2.out)]), (n0, .spare), (n1, .spare)]) := by
 unfold parse.parser.line at h
 refine sb [.tmp 2] func77 Z (xr (xb [.ptr o0 0] Z fun p35 => xz (.bool false) Z (xe (xr (xl 0 isAgg109 Z (xa (.ptr o0 0) Z (pu_nilCheck Z (tm Z) Z) (xf (.ptr o0 7) underlying111 sizeOf9 Z (xl 1 isAgg9 Z ?_))))))))
 obtain ⟨r36, r36e, h⟩ := bind_some h
 refine xo (strings.IndexByte.ok r36e) call88 Z (xy Z (xe (aw_seq ?_)))
 obtain ⟨s39, s39e, h40⟩ := letO_of h
 refine aw_meet (ν := Unit) (fun v => [(1, .ptr p35 0), (3, .i r36), (35, .bool s39)]) (fun v => [(p35, .cells [.ptr o0 0]), (o0, .cells (parse.parser.ct (.own q0) (.own q1) p_)), (q0, .spare), (q1, .spare)]) ?_ ?_
 have h := s39e.symm
 rcases Bool.eq_false_or_eq_true (decide (r36 < 0)) with hb42 | hb42
 replace h := ite_t (dec_t hb42) h
 rcases Bool.eq_false_or_eq_true (decide (p_.l.Line < (p_.s.length : Int))) with hb43 | hb43
 replace h := ite_t (dec_t hb43) h
 refine aw_planR (by decide +kernel) [[], [], [], [(0, 0, false)], [], [], [(1, 0, false)], [], [(0, 0, false)], [], [], [], [(1, 0, false)], [], [], [], [], [], [], [], [], [], [], []] [[], [], [], []] [[[(p35, .cells [.ptr o0 0])]], [[(o0, .cells (parse.parser.ct (.own q0) (.own q1) p_))]], [[(q0, .spare)]], [[(q1, .spare)]]] [.i r36, bd (r36 < 0), .bool true, .ptr o0 0, .ptr o0 0, .ptr o0 7, .str p_.s, .i (p_.s.length : Int), .ptr o0 0, .ptr o0 0, .ptr o0 8, .ptr o0 10, .i p_.l.Line, bd (p_.l.Line < (p_.s.length : Int)), bd (p_.l.Line < (p_.s.length : Int)), .bool true, .lit undef, .lit undef, .lit undef, .lit undef, .lit undef, .lit undef, .lit undef, .bool true] (by decide +kernel) Z Z ?_ ?_
 exact ⟨ym Z Z Z, yp Z (pe Z), AStepG.cast (ym Z Z Z) (congrArg AV.bool hb42), yg Z Z (op_load1 (i := 0) Z isAgg109 (tm Z) Z Z ⟨Z, Z⟩), yq Z Z (pu_nilCheck Z (tm Z) Z), yq Z Z (fa Z underlying111 Z sizeOf9 Z Z Z), yg Z Z (op_load1 (i := 0) Z isAgg9 (tm Z) Z Z ⟨Z, Z⟩), yq Z Z (pu_strLen Z underlying9 (tm Z)), yg Z Z (op_load1 (i := 0) Z isAgg109 (tm Z) Z Z ⟨Z, Z⟩), yq Z Z (pu_nilCheck Z (tm Z) Z), yq Z Z (fa Z underlying111 Z sizeOf66 Z Z Z), yq Z Z (fa Z underlying66 Z sizeOf3 Z Z Z), yg Z Z (op_load1 (i := 0) Z isAgg3 (tm Z) Z Z ⟨Z, Z⟩), yq Z Z (pe Z), yp Z (pe Z), AStepG.cast (ym Z Z Z) (congrArg AV.bool hb43), yx Z Z Z, yx Z Z Z, yx Z Z Z, yx Z Z Z, yx Z Z Z, yx Z Z Z, yx Z Z Z, yp Z (pe Z), trivial⟩
 subst h
 exact ⟨(), wi [0, 1, 2, 3] Z⟩
 replace h := ite_f (dec_f hb43) h
 refine aw_planR (by decide +kernel) [[], [], [], [(0, 0, false)], [], [], [(1, 0, false)], [], [(0, 0, false)], [], [], [], [(1, 0, false)], [], [], [], [], [(0, 0, false)], [], [], [], [(1, 0, false)], [], []] [[], [], [], []] [[[(p35, .cells [.ptr o0 0])]], [[(o0, .cells (parse.parser.ct (.own q0) (.own q1) p_))]], [[(q0, .spare)]], [[(q1, .spare)]]] [.i r36, bd (r36 < 0), .bool true, .ptr o0 0, .ptr o0 0, .ptr o0 7, .str p_.s, .i (p_.s.length : Int), .ptr o0 0, .ptr o0 0, .ptr o0 8, .ptr o0 10, .i p_.l.Line, bd (p_.l.Line < (p_.s.length : Int)), bd (p_.l.Line < (p_.s.length : Int)), .bool false, .i r36, .ptr o0 0, .ptr o0 0, .ptr o0 8, .ptr o0 10, .i p_.l.Line, bd (p_.l.Line < r36), bd (p_.l.Line < r36)] (by decide +kernel) Z Z ?_ ?_
 exact ⟨ym Z Z Z, yp Z (pe Z), AStepG.cast (ym Z Z Z) (congrArg AV.bool hb42), yg Z Z (op_load1 (i := 0) Z isAgg109 (tm Z) Z Z ⟨Z, Z⟩), yq Z Z (pu_nilCheck Z (tm Z) Z), yq Z Z (fa Z underlying111 Z sizeOf9 Z Z Z), yg Z Z (op_load1 (i := 0) Z isAgg9 (tm Z) Z Z ⟨Z, Z⟩), yq Z Z (pu_strLen Z underlying9 (tm Z)), yg Z Z (op_load1 (i := 0) Z isAgg109 (tm Z) Z Z ⟨Z, Z⟩), yq Z Z (pu_nilCheck Z (tm Z) Z), yq Z Z (fa Z underlying111 Z sizeOf66 Z Z Z), yq Z Z (fa Z underlying66 Z sizeOf3 Z Z Z), yg Z Z (op_load1 (i := 0) Z isAgg3 (tm Z) Z Z ⟨Z, Z⟩), yq Z Z (pe Z), yp Z (pe Z), AStepG.cast (ym Z Z Z) (congrArg AV.bool hb43), yq Z Z (pe Z), yg Z Z (op_load1 (i := 0) Z isAgg109 (tm Z) Z Z ⟨Z, Z⟩), yq Z Z (pu_nilCheck Z (tm Z) Z), yq Z Z (fa Z underlying111 Z sizeOf66 Z Z Z), yq Z Z (fa Z underlying66 Z sizeOf3 Z Z Z), yg Z Z (op_load1 (i := 0) Z isAgg3 (tm Z) Z Z ⟨Z, Z⟩), yq Z Z (pe Z), yp Z (pe Z), trivial⟩
 subst h
 exact ⟨(), wi [0, 1, 2, 3] Z⟩
 replace h := ite_f (dec_f hb42) h
 refine aw_planR (by decide +kernel) [[], [], [], [], [], [], [], [], [], [], [], [], [], [], [], [], [], [(0, 0, false)], [], [], [], [(1, 0, false)], [], []] [[], [], [], []] [[[(p35, .cells [.ptr o0 0])]], [[(o0, .cells (parse.parser.ct (.own q0) (.own q1) p_))]], [[(q0, .spare)]], [[(q1, .spare)]]] [.i r36, bd (r36 < 0), .bool false, .lit undef, .lit undef, .lit undef, .lit undef, .lit undef, .lit undef, .lit undef, .lit undef, .lit undef, .lit undef, .lit undef, .bool false, .bool false, .i r36, .ptr o0 0, .ptr o0 0, .ptr o0 8, .ptr o0 10, .i p_.l.Line, bd (p_.l.Line < r36), bd (p_.l.Line < r36)] (by decide +kernel) Z Z ?_ ?_
 exact ⟨ym Z Z Z, yp Z (pe Z), AStepG.cast (ym Z Z Z) (congrArg AV.bool hb42), yx Z Z Z, yx Z Z Z, yx Z Z Z, yx Z Z Z, yx Z Z Z, yx Z Z Z, yx Z Z Z, yx Z Z Z, yx Z Z Z, yx Z Z Z, yx Z Z Z, yp Z (pe Z), ym Z Z Z, yq Z Z (pe Z), yg Z Z (op_load1 (i := 0) Z isAgg109 (tm Z) Z Z ⟨Z, Z⟩), yq Z Z (pu_nilCheck Z (tm Z) Z), yq Z Z (fa Z underlying111 Z sizeOf66 Z Z Z), yq Z Z (fa Z underlying66 Z sizeOf3 Z Z Z), yg Z Z (op_load1 (i := 0) Z isAgg3 (tm Z) Z Z ⟨Z, Z⟩), yq Z Z (pe Z), yp Z (pe Z), trivial⟩
 subst h
 exact ⟨(), wi [0, 1, 2, 3] Z⟩
 intro _
 have h := h40
 refine aw_cond (b := s39) (tm Z) (fun hb73 => ?_) (fun hb73 => ?_)
 replace h := ite_t hb73 h
 refine xr (xl 0 isAgg109 Z ?_)
 obtain ⟨r44, r44e, h⟩ := bind_some h
 refine aops_weak (weak_pick [1, 2, 3, 0] (by decide) Z) (xk (parse.parser.dies.ok r44e o0 q0 q1) call86 Z ?_)
 rintro _ _ ⟨t45, rfl, rfl⟩
 refine xy Z (xe (aw_claimCell 0 1 Z Z fun t46 => (aw_ret ?_)))
 cases h
 exact rt ⟨t46, t45, Z, Z⟩ Z (wi [1, 0, 2] Z)
 replace h := ite_fb hb73 h
 refine aw_skip (aw_seq (xr (xy Z (xz (bd (r36 < 0)) Z (xe (cd h Z (fun _ h => ?_) (fun _ h => ?_)))))))
 refine xr (xz (.bool false) Z (xe (aw_ret ?_)))
 cases h
 exact rt ⟨q0, q1, Z, Z⟩ Z (wi [1, 2, 3] Z)
 refine aw_skip (xr (xl 0 isAgg109 Z (xa (.ptr o0 0) Z (pu_nilCheck Z (tm Z) Z) (xf (.ptr o0 7) underlying111 sizeOf9 Z (xl 1 isAgg9 Z (xy Z ?_))))))
 obtain ⟨c47, h⟩ := need_of h
 refine xa (.str (sub p_.s 0 r36)) Z (pu_strSliceM Z underlying9 (tm Z) Z ⟨_, (tm Z)⟩ c47) ?_
 obtain ⟨r48, r48e, h⟩ := bind_some h
 refine xc Z (op_call (vs := [.str (sub p_.s 0 r36), .str [13]]) (H := []) Z call90 ⟨(tm Z), (AEv.const Z), trivial⟩ (List.Perm.refl _) (strings.TrimSuffix.ok r48e) ?_)
 rintro _ _ ⟨rfl, rfl⟩
 obtain ⟨r49, r49e, h⟩ := bind_some h
 refine xk (line.Split.ok r49e) call89 Z ?_
 rintro _ _ ⟨t50, rfl, rfl⟩
 refine xy Z (xz (.sl (.own t50) 1 (m3L r49.1)) Z (xz (.bool r49.2) Z (xy Z (xy Z (xe (xr (xa (.fn 91 [.ptr p35 0]) Z (pu_makeFunc Z ⟨(tm Z), trivial⟩) (xy Z ?_))))))))
 refine xe (aw_seq (aw_block (xr (xy Z (xz (.bool (!r49.2)) Z (xy Z (xe (cb h Z (fun _ h => ?_) (fun _ h => ?_)))))))))
 refine xr (xl 1 isAgg109 Z ?_)
 obtain ⟨r51, r51e, h⟩ := bind_some h
 refine aops_weak (weak_pick [2, 3, 4, 0, 1] (by decide) Z) (xk (parse.parser.dies.ok r51e o0 q0 q1) call86 Z ?_)
 rintro _ _ ⟨t52, rfl, rfl⟩
 refine xy Z (xe (aw_claimCell 0 1 Z Z fun t53 => (aw_ret ?_)))
 cases h
 exact rt ⟨t53, t52, Z, Z⟩ Z (wi [1, 0, 2] Z)
 refine xr (xy Z (xa (.i (r49.1.length : Int)) Z (pu_lenM Z underlying71 (tm Z)) (xl 1 isAgg109 Z (xa (.ptr o0 0) Z (pu_nilCheck Z (tm Z) Z) (xf (.ptr o0 8) underlying111 sizeOf66 Z (xf (.ptr o0 8) underlying66 sizeOf3 Z (xl 2 isAgg3 Z (xz (bd (p_.l.Args < (r49.1.length : Int))) Z ?_))))))))
 refine xy Z (xe (cd h Z (fun _ h => ?_) (fun _ h => ?_)))
 refine xr (xl 1 isAgg109 Z ?_)
 obtain ⟨r54, r54e, h⟩ := bind_some h
 refine aops_weak (weak_pick [2, 3, 4, 0, 1] (by decide) Z) (xk (parse.parser.dies.ok r54e o0 q0 q1) call86 Z ?_)
 rintro _ _ ⟨t55, rfl, rfl⟩
 refine xy Z (xe (aw_claimCell 0 1 Z Z fun t56 => (aw_ret ?_)))
 cases h
 exact rt ⟨t56, t55, Z, Z⟩ Z (wi [1, 0, 2] Z)
 refine xr (xy Z (xy Z ?_))
 obtain ⟨r57, r57e, h⟩ := bind_some h
 refine aops_weak (weak_pick [1, 2, 3, 4, 0] (by decide) Z) (xc Z (op_call (vs := [.sl .no 1 (m3L r49.1), .fn 91 [.ptr p35 0]]) (H := [(p35, .cells [.ptr o0 0]), (o0, .cells (parse.parser.ct (.own q0) (.own q1) p_)), (q0, .spare), (q1, .spare)]) Z call92 ⟨(AEv.le (tm Z) (AV.Le.forget _ _ _)), (tm Z), trivial⟩ (List.Perm.refl _) (slices.ContainsFunc_string_parse_parser_line_1.ok r57e p35 o0 q0 q1) ?_))
 rintro _ _ ⟨t58, t59, rfl, rfl⟩
 refine xy Z (xe (cb h Z (fun _ h => ?_) (fun _ h => ?_)))
 refine xr (xl 0 isAgg109 Z ?_)
 obtain ⟨r60, r60e, h⟩ := bind_some h
 refine aops_weak (weak_pick [1, 2, 3, 0, 4] (by decide) Z) (xk (parse.parser.dies.ok r60e o0 t58 t59) call86 Z ?_)
 rintro _ _ ⟨t61, rfl, rfl⟩
 refine xy Z (xe (aw_claimCell 0 1 Z Z fun t62 => (aw_ret ?_)))
 cases h
 exact rt ⟨t62, t61, Z, Z⟩ Z (wi [1, 0, 2] Z)
 refine aw_skip (xr (xl 0 isAgg109 Z (xy Z (xz (.i (w64 (r36 + 1))) Z ?_))))
 obtain ⟨r63, r63e, h⟩ := bind_some h
 refine aops_weak (weak_pick [1, 2, 3, 0, 4] (by decide) Z) (xk (parse.parser.past.ok r63e o0 t58 t59) call87 Z ?_)
 rintro _ _ ⟨t64, t65, rfl, rfl⟩
 refine xe (xr (xl 3 isAgg109 Z (xy Z ?_)))
 obtain ⟨r66, r66e, h⟩ := bind_some h
 refine xc Z (op_call (vs := [.ptr o0 0, .sl .no 1 (m3L r49.1)]) (H := [(o0, .cells (parse.parser.ct (.own t64) (.own t65) r63)), (t64, .spare), (t65, .spare)]) Z call78 ⟨(tm Z), (AEv.le (tm Z) (AV.Le.forget _ _ _)), trivial⟩ (List.Perm.refl _) (parse.parser.whole.ok r66e o0 t64 t65) ?_)
 rintro _ _ ⟨t67, rfl, rfl⟩
 refine xe (xr (xz (.bool true) Z (xe (aw_claimCell 0 1 Z Z fun t68 => (aw_ret ?_)))))
 cases h
 exact rt ⟨t68, t67, Z, Z⟩ Z (wi [1, 0, 2] Z)

theorem parse.parser.step.ok {p_ r} (h : parse.parser.step p_ = some r) (o0 q0 q1 : Nat) : Sp prog 61 [.ptr o0 0] [(o0, .cells (parse.parser.ct (.own q0) (.own q1) p_)), (q0, .spare), (q1, .spare)] (fun v H => ∃ n0 n1, v = .bool r.1 ∧ H = [(o0, .cells [.str r.2.in_.Rest, .sl (.own n0) 1 (m3L r.2.in_.Args), .i r.2.in_.Left, .i r.2.in_.Size, .bool r.2.in_.Body, .i r.2.in_.Need, .i r.2.in_.Dead, .str r.2.s, .i r.2.l.Args, .i r.2.l.Bulk, .i r.2.l.Line, .sl (.own n1) 2 (m4L r.2.out)]), (n0, .spare), (n1, .spare)]) := by
 unfold parse.parser.step at h
 refine sb [.tmp 2] func61 Z (xr (xz (.bool false) Z (xe (aw_seq (aw_block (xr (xy Z ?_)))))))
 refine xa (.ptr o0 0) Z (pu_nilCheck Z (tm Z) Z) (xf (.ptr o0 0) underlying111 sizeOf74 Z (xf (.ptr o0 4) underlying74 sizeOf4 Z (xl 0 isAgg4 Z (xy Z (xe (cb h Z (fun _ h => ?_) (fun _ h => ?_)))))))
 refine xr (xy Z ?_)
 obtain ⟨r50, r50e, h⟩ := bind_some h
 refine xk (parse.parser.body.ok r50e o0 q0 q1) call75 Z ?_
 rintro _ _ ⟨t51, t52, rfl, rfl⟩
 refine xy Z (xe (aw_ret ?_))
 cases h
 exact rt ⟨t51, t52, Z, Z⟩ Z (wi [0, 1, 2] Z)
 refine xr (xy Z (xa (.ptr o0 0) Z (pu_nilCheck Z (tm Z) Z) (xf (.ptr o0 0) underlying111 sizeOf74 Z (xf (.ptr o0 2) underlying74 sizeOf3 Z (xl 0 isAgg3 Z (xz (bd (0 < p_.in_.Left)) Z (xy Z (xe ?_))))))))
 refine aw_cond (b := decide (0 < p_.in_.Left)) (tm Z) (fun hb97 => ?_) (fun hb97 => ?_)
 replace h := ite_t (dec_t hb97) h
 refine xr (xy Z (xy Z (xa (.ptr o0 0) Z (pu_nilCheck Z (tm Z) Z) (xf (.ptr o0 8) underlying111 sizeOf66 Z (xf (.ptr o0 9) underlying66 sizeOf3 Z (xl 0 isAgg3 Z ?_))))))
 obtain ⟨r53, r53e, h⟩ := bind_some h
 refine xk (parse.parser.header.ok r53e o0 q0 q1) call76 Z ?_
 rintro _ _ ⟨t54, t55, rfl, rfl⟩
 refine xy Z (xz (.i r53.1) Z (xz (.bool r53.2.1) Z (xy Z (xy Z (xe ?_)))))
 obtain ⟨s57, s57e, h58⟩ := letO_of h
 refine aw_meet (ν := Unit) (fun v => [(4, .bool r53.2.1)]) (fun v => [(o0, .cells (parse.parser.ct (.own t54) (.own t55) { r53.2.2 with in_ := { r53.2.2.in_ with Body := s57.1, Need := s57.2 } })), (t54, .spare), (t55, .spare)]) ?_ ?_
 have h := s57e.symm
 refine xr (xy Z (xe (cb h Z (fun _ h => ?_) (fun _ h => ?_))))
 refine aw_region (xy Z (xy Z (xy Z (xa (.ptr o0 0) Z (pu_nilCheck Z (tm Z) Z) (xf (.ptr o0 0) underlying111 sizeOf74 Z (xf (.ptr o0 4) underlying74 sizeOf4 Z (xs 0 (parse.parser.ct (.own t54) (.own t55) { r53.2.2 with in_ := { r53.2.2.in_ with Body := true } }) sizeOf4 Z (xa (.ptr o0 0) Z (pu_nilCheck Z (tm Z) Z) (xf (.ptr o0 0) underlying111 sizeOf74 Z ?_)))))))))
 refine xf (.ptr o0 5) underlying74 sizeOf3 Z (xs 0 (parse.parser.ct (.own t54) (.own t55) { r53.2.2 with in_ := { r53.2.2.in_ with Body := true, Need := r53.1 } }) sizeOf3 Z (xe ?_))
 subst h
 exact ⟨(), wi [0, 1, 2] Z⟩
 refine aw_skip ?_
 subst h
 exact ⟨(), wi [0, 1, 2] Z⟩
 intro _
 have h := h58
 refine xr (xy Z (xy Z (xe (aw_ret ?_))))
 cases h
 exact rt ⟨t54, t55, Z, Z⟩ Z (wi [0, 1, 2] Z)
 replace h := ite_f (dec_f hb97) h
 refine xr (xy Z (xa (.ptr o0 0) Z (pu_nilCheck Z (tm Z) Z) (xf (.ptr o0 7) underlying111 sizeOf9 Z (xl 0 isAgg9 Z (xa (bd (p_.s = nS)) Z (pu_str (v := bd (p_.s = nS)) Z Z (tm Z) (AEv.const Z) Z) (xy Z (xe (cd h Z (fun _ h => ?_) (fun _ h => ?_)))))))))
 refine xr (xz (.bool false) Z (xe (aw_ret ?_)))
 cases h
 exact rt ⟨q0, q1, Z, Z⟩ Z (wi [0, 1, 2] Z)
 refine xr (xy Z (xa (.ptr o0 0) Z (pu_nilCheck Z (tm Z) Z) (xf (.ptr o0 7) underlying111 sizeOf9 Z (xl 0 isAgg9 Z ?_))))
 obtain ⟨c61, h⟩ := need_of h
 refine xa (.int .u8 (bix p_.s 0)) Z (pu_strIdxM Z underlying9 (tm Z) (AEv.int _ _) c61) (xz (bn ((bix p_.s 0) = 42)) Z (xy Z (xe (cn h Z (fun _ h => ?_) (fun _ h => ?_)))))
 refine xr (xy Z ?_)
 obtain ⟨r62, r62e, h⟩ := bind_some h
 refine xk (parse.parser.line.ok r62e o0 q0 q1) call77 Z ?_
 rintro _ _ ⟨t63, t64, rfl, rfl⟩
 refine xy Z (xe (aw_ret ?_))
 cases h
 exact rt ⟨t63, t64, Z, Z⟩ Z (wi [0, 1, 2] Z)
 refine aw_skip (xr (xy Z (xy Z (xa (.ptr o0 0) Z (pu_nilCheck Z (tm Z) Z) (xf (.ptr o0 8) underlying111 sizeOf66 Z (xf (.ptr o0 8) underlying66 sizeOf3 Z (xl 0 isAgg3 Z ?_)))))))
 obtain ⟨r65, r65e, h⟩ := bind_some h
 refine xk (parse.parser.header.ok r65e o0 q0 q1) call76 Z ?_
 rintro _ _ ⟨t66, t67, rfl, rfl⟩
 refine xy Z (xz (.i r65.1) Z (xz (.bool r65.2.1) Z (xy Z (xy Z (xe ?_)))))
 obtain ⟨s69, s69e, h70⟩ := letO_of h
 refine aw_meet (ν := Unit) (fun v => [(0, .ptr o0 0), (5, .i r65.1), (6, .bool r65.2.1)]) (fun v => [(o0, .cells (parse.parser.ct (.own t66) (.own t67) { r65.2.2 with in_ := { r65.2.2.in_ with Left := s69 } })), (t66, .spare), (t67, .spare)]) ?_ ?_
 have h := s69e.symm
 refine xr (xy Z (xe (cb h Z (fun _ h => ?_) (fun _ h => ?_))))
 refine aw_region (xy Z (xy Z (xa (.ptr o0 0) Z (pu_nilCheck Z (tm Z) Z) (xf (.ptr o0 0) underlying111 sizeOf74 Z (xf (.ptr o0 2) underlying74 sizeOf3 Z (xs 0 (parse.parser.ct (.own t66) (.own t67) { r65.2.2 with in_ := { r65.2.2.in_ with Left := r65.1 } }) sizeOf3 Z (xe ?_)))))))
 subst h
 exact ⟨(), wi [0, 1, 2] Z⟩
 refine aw_skip ?_
 subst h
 exact ⟨(), wi [0, 1, 2] Z⟩
 intro _
 have h := h70
 obtain ⟨s81, s81e, h84⟩ := bind_some h
 refine aw_meet (ν := Nat × Nat) (fun v => [(6, .bool r65.2.1)]) (fun v => [(o0, .cells [.str s81.1, .sl (.own v.1) 1 (m3L s81.2.1), .i s81.2.2.1, .i s81.2.2.2.1, .bool s81.2.2.2.2.1, .i s81.2.2.2.2.2.1, .i s81.2.2.2.2.2.2.1, .str s81.2.2.2.2.2.2.2.1, .i s81.2.2.2.2.2.2.2.2.1, .i s81.2.2.2.2.2.2.2.2.2.1, .i s81.2.2.2.2.2.2.2.2.2.2.1, .sl (.own v.2) 2 (m4L s81.2.2.2.2.2.2.2.2.2.2.2)]), (v.1, .spare), (v.2, .spare)]) ?_ ?_
 have h := s81e
 refine aw_upd ?_
 obtain ⟨s87, s87e, h88⟩ := letO_of h
 refine aw_meet (ν := Unit) (fun v => [(0, .ptr o0 0), (6, .bool r65.2.1), (78, .bool s87)]) (fun v => [(o0, .cells (parse.parser.ct (.own t66) (.own t67) { r65.2.2 with in_ := { r65.2.2.in_ with Left := s69 } })), (t66, .spare), (t67, .spare)]) ?_ ?_
 have h := s87e.symm
 refine aw_region (xy Z (xy Z ?_))
 rcases Bool.eq_false_or_eq_true r65.2.1 with hb90 | hb90
 replace h := ite_t hb90 h
 refine aops_known 75 Z hb90 (xq Z Z Z Z (xp (bd (r65.1 = 0)) Z Z (pe Z) (xz (bd (r65.1 = 0)) Z (xe ?_))))
 subst h
 exact ⟨(), wi [0, 1, 2] Z⟩
 replace h := ite_fb hb90 h
 refine aops_known 75 Z hb90 (xu Z (xu Z (xz (.bool false) Z (xe ?_))))
 subst h
 exact ⟨(), wi [0, 1, 2] Z⟩
 intro _
 have h := h88
 refine aw_cond (b := s87) (tm Z) (fun hb94 => ?_) (fun hb94 => ?_)
 replace h := ite_t hb94 h
 refine aw_region (xy Z ?_)
 obtain ⟨r91, r91e, h⟩ := bind_some h
 refine xc Z (op_call (vs := [.ptr o0 0, .sl .no 1 e2L]) (H := [(o0, .cells (parse.parser.ct (.own t66) (.own t67) { r65.2.2 with in_ := { r65.2.2.in_ with Left := s69 } })), (t66, .spare), (t67, .spare)]) Z call78 ⟨(tm Z), (AEv.le (AEv.nil 1 (by decide)) (AV.Le.forget _ _ _)), trivial⟩ (List.Perm.refl _) (parse.parser.whole.ok r91e o0 t66 t67) ?_)
 rintro _ _ ⟨t92, rfl, rfl⟩
 refine xe (upd_claimCell 0 1 Z Z fun t93 => (upd_done ?_))
 cases h
 exact ⟨(t93, t92), wi [1, 0, 2] Z⟩
 replace h := ite_fb hb94 h
 refine aw_skip (upd_done ?_)
 cases h
 exact ⟨(t66, t67), wi [0, 1, 2] Z⟩
 rintro ⟨n82, n83⟩
 have h := h84
 refine xr (xy Z (xy Z (xe (aw_ret ?_))))
 cases h
 exact rt ⟨n82, n83, Z, Z⟩ Z (wi [0, 1, 2] Z)

theorem parse.Feed.ok {in_ b l r} (h : parse.Feed in_ b l = some r) : Sp prog 42 [.agg (api.Input.ct .no in_), .str b, .agg [.i l.Args, .i l.Bulk, .i l.Line]] [] (fun v H => ∃ n0, v = .tup [.agg [.str r.1.Rest, .sl .no 1 (m3L r.1.Args), .i r.1.Left, .i r.1.Size, .bool r.1.Body, .i r.1.Need, .i r.1.Dead], .sl (.own n0) 2 (m4L r.2.1), .i r.2.2] ∧ H = [(n0, .spare)]) := by
 unfold parse.Feed at h
 refine sb [.cell 6 74, .tmp 7, .tmp 8] func42 Z (xr (xb (api.Input.ct .no in_) Z fun p64 => xb [.i l.Args, .i l.Bulk, .i l.Line] Z fun p65 => xA (.agg [.str nS, .sl .full 1 e2L, .i 0, .i 0, .bool false, .i 0, .i 0]) zeroValue74 Z fun p66 => xa (.sl .full 2 e4L) Z (pu_assign Z (AEv.nil 2 (by decide))) (xz (.i 0) Z (xe (aw_seq (xr (xf (.ptr p64 6) underlying74 sizeOf72 Z (xl 2 isAgg72 Z (xz (bn (in_.Dead = 0)) Z (xe ?_))))))))))
 refine aw_cond (b := (!decide (in_.Dead = 0))) (tm Z) (fun hb127 => ?_) (fun hb127 => ?_)
 replace h := ite_f (ndec_t hb127) h
 refine aw_seq (aw_planR (by decide +kernel) [[], [(2, 0, false)], [], [], [(2, 0, false)], [(0, 0, true)], [], []] [[5], [], []] [[[(p66, .cells [.str nS, .sl .full 1 e2L, .i 0, .i 0, .bool false, .i 0, .i 0])], [(p66, .cells [.str nS, .sl .full 1 e2L, .i 0, .i 0, .bool false, .i 0, .i in_.Dead])]], [[(p65, .cells [.i l.Args, .i l.Bulk, .i l.Line])]], [[(p64, .cells (api.Input.ct .no in_))]]] [.ptr p64 6, .i in_.Dead, .agg [.str nS, .sl .full 1 e2L, .i 0, .i 0, .bool false, .i 0, .i in_.Dead], .ptr p64 6, .i in_.Dead, .un, .sl .full 2 e4L, .i in_.Dead] (by decide +kernel) Z Z ?_ ?_)
 exact ⟨yp Z (fa Z underlying74 Z sizeOf72 Z Z Z), stepg_plain Z (op_load1 (i := 0) Z isAgg72 (tm Z) Z Z ⟨Z, Z⟩), yp Z (pu_build (zs := [.str nS, .sl .full 1 e2L, .i 0, .i 0, .bool false, .i 0, .i 0]) (szs := [1, 1, 1, 1, 1, 1, 1]) (aparts := [(6, .i in_.Dead)]) (cs := [.str nS, .sl .full 1 e2L, .i 0, .i 0, .bool false, .i 0, .i in_.Dead]) Z underlying74 zeroValue74 Z ⟨sizeOf9, sizeOf71, sizeOf3, sizeOf3, sizeOf4, sizeOf3, sizeOf72, trivial⟩ ⟨Z, (tm Z), trivial⟩ Z), yp Z (fa Z underlying74 Z sizeOf72 Z Z Z), stepg_plain Z (op_load1 (i := 0) Z isAgg72 (tm Z) Z Z ⟨Z, Z⟩), stepg_plain Z (op_store (i := 0) (cs' := [.str nS, .sl .full 1 e2L, .i 0, .i 0, .bool false, .i 0, .i in_.Dead]) Z sizeOf74 (tm Z) (v := .agg [.str nS, .sl .full 1 e2L, .i 0, .i 0, .bool false, .i 0, .i in_.Dead]) (tm Z) Z Z Z (nb Z) Z ⟨Z, Z⟩), yp Z (pu_assign Z (AEv.nil 2 (by decide))), ym Z Z Z, trivial⟩
 refine aw_claim 7 (tm Z) fun t67 => (aw_ret ?_)
 cases h
 exact rq [.agg [.str nS, .sl .full 1 e2L, .i 0, .i 0, .bool false, .i 0, .i in_.Dead], .sl (.own t67) 2 e4L, .i in_.Dead] ⟨t67, Z, Z⟩ (AV.Le.tup ⟨(AV.Le.agg ⟨vr, (AV.Le.forget _ _ _), vr, vr, vr, vr, vr, trivial⟩), vr, vr, trivial⟩) ⟨(CellOk.agg 1 (tm Z) Z isAgg74 sizeOf74 (nb Z) Z), (tm Z), (tm Z), trivial⟩ (wi [0] Z)
 replace h := ite_t (ndec_f hb127) h
 refine aw_skip (aw_seq ?_)
 obtain ⟨c68, h⟩ := need_of h
 obtain ⟨r69, r69e, h⟩ := bind_some h
 refine aw_reserve fun p70 => (aw_planR (by decide +kernel) [[(3, 0, false)], [], [(3, 0, false)], [], [], [(2, 0, false)], [], [], [(0, 0, true)], []] [[8], [], [], []] [[[(p70, .resv)], [(p70, .cells (parse.parser.ct .no .full ({ in_ := in_, s := in_.Rest ++ b, l := r69, out := ([] : List api.Request) } : parse.parser)))]], [[(p66, .cells [.str nS, .sl .full 1 e2L, .i 0, .i 0, .bool false, .i 0, .i 0])]], [[(p65, .cells [.i l.Args, .i l.Bulk, .i l.Line])]], [[(p64, .cells (api.Input.ct .no in_))]]] [.agg (api.Input.ct .no in_), .ptr p64 0, .str in_.Rest, .str b, .str (in_.Rest ++ b), .agg [.i l.Args, .i l.Bulk, .i l.Line], .agg [.i r69.Args, .i r69.Bulk, .i r69.Line], .agg (parse.parser.ct .no .full ({ in_ := in_, s := in_.Rest ++ b, l := r69, out := ([] : List api.Request) } : parse.parser)), .ptr p70 0, .ptr p70 0] (by decide +kernel) Z Z ?_ ?_)
 exact ⟨stepg_plain Z (op_loadN (i := 0) Z isAgg74 sizeOf74 (tm Z) Z (nb Z) Z ⟨Z, Z⟩), yp Z (fa Z underlying74 Z sizeOf9 Z Z Z), stepg_plain Z (op_load1 (i := 0) Z isAgg9 (tm Z) Z Z ⟨Z, Z⟩), ym Z Z Z, yp Z (pu_strAdd Z (tm Z) (tm Z) c68), stepg_plain Z (op_loadN (i := 0) Z isAgg66 sizeOf66 (tm Z) Z (nb Z) Z ⟨Z, Z⟩), stepg_plain Z (op_call (vs := [.agg [.i l.Args, .i l.Bulk, .i l.Line]]) (H := []) Z call59 ⟨(tm Z), trivial⟩ (R := []) (List.Perm.refl _) (parse.Limits.ok r69e) (by rintro _ _ ⟨rfl, rfl⟩; exact ⟨Z, Z⟩)), yp Z (pu_build (zs := [.str nS, .sl .full 1 e2L, .i 0, .i 0, .bool false, .i 0, .i 0, .str nS, .i 0, .i 0, .i 0, .sl .full 2 e4L]) (szs := [7, 1, 3, 1]) (aparts := [(0, .agg (api.Input.ct .no in_)), (1, .str (in_.Rest ++ b)), (2, .agg [.i r69.Args, .i r69.Bulk, .i r69.Line])]) (cs := [.str in_.Rest, .sl .no 1 (m3L in_.Args), .i in_.Left, .i in_.Size, .bool in_.Body, .i in_.Need, .i in_.Dead, .str (in_.Rest ++ b), .i r69.Args, .i r69.Bulk, .i r69.Line, .sl .full 2 e4L]) Z underlying111 zeroValue111 Z ⟨sizeOf74, sizeOf9, sizeOf66, sizeOf77, trivial⟩ ⟨Z, (tm Z), ⟨Z, (tm Z), ⟨Z, (tm Z), trivial⟩⟩⟩ Z), stepg_plain Z (aop_settleP (op_box (cs := (parse.parser.ct .no .full ({ in_ := in_, s := in_.Rest ++ b, l := r69, out := ([] : List api.Request) } : parse.parser))) (v := .agg (parse.parser.ct .no .full ({ in_ := in_, s := in_.Rest ++ b, l := r69, out := ([] : List api.Request) } : parse.parser))) Z (tm Z) Z Z fun t => ⟨t, Z, Z⟩) ⟨Z, Z⟩), ym Z Z Z, trivial⟩
 refine xr (xy Z (xy Z (xf (.ptr p64 1) underlying74 sizeOf71 Z (xl 3 isAgg71 Z ?_))))
 obtain ⟨r71, r71e, h⟩ := bind_some h
 refine xk (slices.Clone_string.ok r71e) call60 Z ?_
 rintro _ _ ⟨t72, rfl, rfl⟩
 refine xa (.ptr p70 0) Z (pu_nilCheck Z (tm Z) Z) (xf (.ptr p70 0) underlying111 sizeOf74 Z (xf (.ptr p70 1) underlying74 sizeOf71 Z (xs 1 (parse.parser.ct (.own t72) .full ({ in_ := { in_ with Args := r71 }, s := in_.Rest ++ b, l := r69, out := ([] : List api.Request) } : parse.parser)) sizeOf71 Z (xa (.ptr p70 0) Z (pu_nilCheck Z (tm Z) Z) (xf (.ptr p70 0) underlying111 sizeOf74 Z (xf (.ptr p70 0) underlying74 sizeOf9 Z (ac0 Z Z (op_store (i := 1) (cs' := (parse.parser.ct (.own t72) .full ({ in_ := { in_ with Rest := nS, Args := r71 }, s := in_.Rest ++ b, l := r69, out := ([] : List api.Request) } : parse.parser))) Z sizeOf9 (tm Z) (v := .str nS) (AEv.const Z) Z Z Z (nb Z) Z (xe ?_)))))))))
 obtain ⟨s97, s97e, h100⟩ := bind_some h
 refine aw_meet (ν := Nat × Nat) (fun v => [(6, .ptr p66 0), (9, .ptr p70 0)]) (fun v => [(p66, .cells [.str nS, .sl .full 1 e2L, .i 0, .i 0, .bool false, .i 0, .i 0]), (p70, .cells [.str s97.1, .sl (.own v.1) 1 (m3L s97.2.1), .i s97.2.2.1, .i s97.2.2.2.1, .bool s97.2.2.2.2.1, .i s97.2.2.2.2.2.1, .i s97.2.2.2.2.2.2.1, .str s97.2.2.2.2.2.2.2.1, .i s97.2.2.2.2.2.2.2.2.1, .i s97.2.2.2.2.2.2.2.2.2.1, .i s97.2.2.2.2.2.2.2.2.2.2.1, .sl (.own v.2) 2 (m4L s97.2.2.2.2.2.2.2.2.2.2.2)]), (v.1, .spare), (v.2, .spare)]) ?_ ?_
 have h := s97e
 refine aw_block (aw_claimCell 1 11 Z Z fun t125 => (aw_while (σ := parse.Feed.S0) (ν := Nat × Nat) (parse.Feed.body0 in_ l) (fun s115 v => [(6, .ptr p66 0), (9, .ptr p70 0)]) (fun s115 v => [(p66, .cells [.str nS, .sl .full 1 e2L, .i 0, .i 0, .bool false, .i 0, .i 0]), (p70, .cells [.str s115.c, .sl (.own v.1) 1 (m3L s115.c2), .i s115.c3, .i s115.c4, .bool s115.c5, .i s115.c6, .i s115.c7, .str s115.c8, .i s115.c9, .i s115.c10, .i s115.c11, .sl (.own v.2) 2 (m4L s115.c12)]), (v.1, .spare), (v.2, .spare)]) ⟨nS, r71, in_.Left, in_.Size, in_.Body, in_.Need, in_.Dead, in_.Rest ++ b, r69.Args, r69.Bulk, r69.Line, ([] : List api.Request)⟩ (t72, t125) _ h (wl [3, 2, 1, 0] Z ⟨⟨_, Z, cr, Z⟩, ⟨_, Z, ⟨vr, vr, vr, vr, vr, vr, vr, vr, vr, vr, vr, vr, trivial⟩, Z⟩, ⟨_, Z, Z⟩, ⟨_, Z, Z⟩, trivial⟩ ⟨tm Z, tm Z, trivial⟩) ?_))
 rintro s115 ⟨n116, n117⟩ x119 h hx118
 unfold parse.Feed.body0 at h
 refine aw_seq (xr (xy Z ?_))
 obtain ⟨r121, r121e, h⟩ := bind_some h
 refine aops_weak (weak_pick [1, 2, 3, 0] (by decide) Z) (xk (parse.parser.step.ok r121e p70 n116 n117) call61 Z ?_)
 rintro _ _ ⟨t122, t123, rfl, rfl⟩
 refine xe (cb h Z (fun _ h => ?_) (fun _ h => ?_))
 refine aw_skip (aw_block (aw_skip ?_))
 cases h
 exact ⟨_, (t122, t123), Z, wi [3, 0, 1, 2] Z⟩
 refine aw_exit ?_
 cases h
 cases congrArg some (hx118 _ rfl)
 exact ⟨(t122, t123), wi [3, 0, 1, 2] Z⟩
 rintro ⟨n98, n99⟩
 have h := h100
 refine xr (xy Z (xy Z (xa (.ptr p70 0) Z (pu_nilCheck Z (tm Z) Z) (xf (.ptr p70 7) underlying111 sizeOf9 Z (xl 1 isAgg9 Z ?_)))))
 obtain ⟨r126, r126e, h⟩ := bind_some h
 refine xo (strings.Clone.ok r126e) call62 Z (xa (.ptr p70 0) Z (pu_nilCheck Z (tm Z) Z) (xf (.ptr p70 0) underlying111 sizeOf74 Z (xf (.ptr p70 0) underlying74 sizeOf9 Z (xs 1 [.str r126, .sl (.own n98) 1 (m3L s97.2.1), .i s97.2.2.1, .i s97.2.2.2.1, .bool s97.2.2.2.2.1, .i s97.2.2.2.2.2.1, .i s97.2.2.2.2.2.2.1, .str s97.2.2.2.2.2.2.2.1, .i s97.2.2.2.2.2.2.2.2.1, .i s97.2.2.2.2.2.2.2.2.2.1, .i s97.2.2.2.2.2.2.2.2.2.2.1, .sl (.own n99) 2 (m4L s97.2.2.2.2.2.2.2.2.2.2.2)] sizeOf9 Z (xe (aw_seq (aw_planR (by decide +kernel) [[], [], [], [(1, 0, false)], [], [], [], [(1, 0, false)], [], [], [], [], [(1, 0, false)], [(0, 0, true)], [], []] [[13], [], [], []] [[[(p66, .cells [.str nS, .sl .full 1 e2L, .i 0, .i 0, .bool false, .i 0, .i 0])], [(p66, .cells [.str r126, .sl (.own n98) 1 (m3L s97.2.1), .i s97.2.2.1, .i s97.2.2.2.1, .bool s97.2.2.2.2.1, .i s97.2.2.2.2.2.1, .i s97.2.2.2.2.2.2.1])]], [[(p70, .cells [.str r126, .sl (.own n98) 1 (m3L s97.2.1), .i s97.2.2.1, .i s97.2.2.2.1, .bool s97.2.2.2.2.1, .i s97.2.2.2.2.2.1, .i s97.2.2.2.2.2.2.1, .str s97.2.2.2.2.2.2.2.1, .i s97.2.2.2.2.2.2.2.2.1, .i s97.2.2.2.2.2.2.2.2.2.1, .i s97.2.2.2.2.2.2.2.2.2.2.1, .sl (.own n99) 2 (m4L s97.2.2.2.2.2.2.2.2.2.2.2)])]], [[(n98, .spare)]], [[(n99, .spare)]]] [.ptr p70 0, .ptr p70 0, .ptr p70 0, .agg [.str r126, .sl (.own n98) 1 (m3L s97.2.1), .i s97.2.2.1, .i s97.2.2.2.1, .bool s97.2.2.2.2.1, .i s97.2.2.2.2.2.1, .i s97.2.2.2.2.2.2.1], .ptr p70 0, .ptr p70 0, .ptr p70 11, .sl (.own n99) 2 (m4L s97.2.2.2.2.2.2.2.2.2.2.2), .ptr p70 0, .ptr p70 0, .ptr p70 0, .ptr p70 6, .i s97.2.2.2.2.2.2.1, .un, .sl (.own n99) 2 (m4L s97.2.2.2.2.2.2.2.2.2.2.2), .i s97.2.2.2.2.2.2.1] (by decide +kernel) Z Z ?_ ?_)))))))
 exact ⟨ym Z Z Z, yp Z (pu_nilCheck Z (tm Z) Z), yp Z (fa Z underlying111 Z sizeOf74 Z Z Z), stepg_plain Z (op_loadN (i := 0) Z isAgg74 sizeOf74 (tm Z) Z (nb Z) Z ⟨Z, Z⟩), ym Z Z Z, yp Z (pu_nilCheck Z (tm Z) Z), yp Z (fa Z underlying111 Z sizeOf77 Z Z Z), stepg_plain Z (op_load1 (i := 0) Z isAgg77 (tm Z) Z Z ⟨Z, Z⟩), ym Z Z Z, yp Z (pu_nilCheck Z (tm Z) Z), yp Z (fa Z underlying111 Z sizeOf74 Z Z Z), yp Z (fa Z underlying74 Z sizeOf72 Z Z Z), stepg_plain Z (op_load1 (i := 0) Z isAgg72 (tm Z) Z Z ⟨Z, Z⟩), stepg_plain Z (op_store (i := 0) (cs' := [.str r126, .sl (.own n98) 1 (m3L s97.2.1), .i s97.2.2.1, .i s97.2.2.2.1, .bool s97.2.2.2.2.1, .i s97.2.2.2.2.2.1, .i s97.2.2.2.2.2.2.1]) Z sizeOf74 (tm Z) (v := .agg [.str r126, .sl (.own n98) 1 (m3L s97.2.1), .i s97.2.2.1, .i s97.2.2.2.1, .bool s97.2.2.2.2.1, .i s97.2.2.2.2.2.1, .i s97.2.2.2.2.2.2.1]) (tm Z) Z Z Z (nb Z) Z ⟨Z, Z⟩), ym Z Z Z, ym Z Z Z, trivial⟩
 refine aw_ret ?_
 cases h
 exact rq [.agg [.str r126, .sl (.own n98) 1 (m3L s97.2.1), .i s97.2.2.1, .i s97.2.2.2.1, .bool s97.2.2.2.2.1, .i s97.2.2.2.2.2.1, .i s97.2.2.2.2.2.2.1], .sl (.own n99) 2 (m4L s97.2.2.2.2.2.2.2.2.2.2.2), .i s97.2.2.2.2.2.2.1] ⟨n99, Z, Z⟩ (AV.Le.tup ⟨(AV.Le.agg ⟨vr, (AV.Le.forget _ _ _), vr, vr, vr, vr, vr, trivial⟩), vr, vr, trivial⟩) ⟨(CellOk.agg 0 (tm Z) Z isAgg74 sizeOf74 (nb Z) Z), (tm Z), (tm Z), trivial⟩ (wi [3] Z)

theorem table.Upper.ok {name r} (h : table.Upper name = some r) : Sp prog 63 [.str name] [] (fun v H => v = .str r ∧ H = []) := by
 unfold table.Upper at h
 refine sb [.tmp 2] func63 Z (xr (xa (.str nS) Z (pu_assign Z (AEv.const Z)) (xe (xr (xy Z ?_)))))
 obtain ⟨c174, h⟩ := need_of h
 refine xc Z (op_strBytes Z underlying9 underlying126 underlying5 (tm Z) c174 ?_)
 intro p175
 refine xy Z (xe ?_)
 obtain ⟨s260, s260e, h261⟩ := bind_some h
 refine aw_meet (ν := Unit) (fun v => [(3, .vec p175)]) (fun v => [(p175, .vec 1 (m5L s260))]) ?_ ?_
 have h := s260e
 refine xr (xy Z (xc Z (op_lenVecM (i := 0) Z underlying126 (tm Z) Z (xz (.i 0) Z (xe (aw_block (aw_while (σ := table.Upper.S0) (ν := Unit) (table.Upper.body0 name) (fun s317 v => [(3, .vec p175), (8, .vec p175), (9, .i (name.length : Int)), (10, .i s317.t10)]) (fun s317 v => [(p175, .vec 1 (m5L s317.v))]) ⟨0, name⟩ () _ h (wi [0] Z) ?_)))))))
 rintro s317 _ x319 h hx318
 unfold table.Upper.body0 at h
 refine xr (xz (bd (s317.t10 < (name.length : Int))) Z (xe (aw_seq (cd h Z (fun _ h => ?_) (fun _ h => ?_)))))
 refine aw_skip ?_
 obtain ⟨s332, s332e, h333⟩ := bind_some h
 refine aw_meet (ν := Unit) (fun v => [(3, .vec p175), (8, .vec p175), (9, .i (name.length : Int)), (10, .i s317.t10)]) (fun v => [(p175, .vec 1 (m5L s332))]) ?_ ?_
 have h := s332e
 refine aw_block (xr (xy Z ?_))
 obtain ⟨c335, h⟩ := need_of h
 refine xc Z (op_indexAddrVecM Z underlying126 sizeOf5 (tm Z) (j := 0) Z (tm Z) c335 ?_)
 obtain ⟨c336, h⟩ := need_of h
 refine xc Z (op_loadE1M (i := 0) (sz := 1) Z isAgg5 (tm Z) Z c336 (by decide) Z (xy Z (xy Z (xe ?_))))
 obtain ⟨s338, s338e, h339⟩ := letO_of h
 refine aw_meet (ν := Unit) (fun v => [(3, .vec p175), (4, .i s317.t10), (5, .int .u8 ((ix s317.v s317.t10).toNat : Int)), (8, .vec p175), (9, .i (name.length : Int)), (10, .i s317.t10), (20, .bool s338)]) (fun v => [(p175, .vec 1 (m5L s317.v))]) ?_ ?_
 have h := s338e.symm
 refine aw_region (xy Z (xz (bd (97 ≤ ((ix s317.v s317.t10).toNat : Int))) Z (xy Z ?_)))
 rcases Bool.eq_false_or_eq_true (decide (97 ≤ ((ix s317.v s317.t10).toNat : Int))) with hb341 | hb341
 replace h := ite_t (dec_t hb341) h
 refine aops_known 17 Z hb341 (xq Z Z Z Z (xp (bd (((ix s317.v s317.t10).toNat : Int) ≤ 122)) Z Z (pe Z) (xz (bd (((ix s317.v s317.t10).toNat : Int) ≤ 122)) Z (xe ?_))))
 subst h
 exact ⟨(), wi [0] Z⟩
 replace h := ite_f (dec_f hb341) h
 refine aops_known 17 Z hb341 (xu Z (xu Z (xz (.bool false) Z (xe ?_))))
 subst h
 exact ⟨(), wi [0] Z⟩
 intro _
 have h := h339
 refine aw_cond (b := s338) (tm Z) (fun hb345 => ?_) (fun hb345 => ?_)
 replace h := ite_t hb345 h
 refine aw_region (xy Z (xy Z (xy Z (xz (.int .u8 (IntKind.wrap .u8 (((ix s317.v s317.t10).toNat : Int) - 97))) Z (xz (.int .u8 (IntKind.wrap .u8 ((IntKind.wrap .u8 (((ix s317.v s317.t10).toNat : Int) - 97)) + 65))) Z ?_)))))
 obtain ⟨c342, h⟩ := need_of h
 refine xc Z (op_indexAddrVecM Z underlying126 sizeOf5 (tm Z) (j := 0) Z (tm Z) c342 ?_)
 obtain ⟨c343, h⟩ := need_of h
 obtain ⟨c344, h⟩ := need_of h
 refine ac0 Z Z (op_storeEM (i := 0) (sz := 1) (y' := u8 (IntKind.wrap .u8 ((IntKind.wrap .u8 (((ix s317.v s317.t10).toNat : Int) - 97)) + 65))) Z sizeOf5 (tm Z) (v := .int .u8 (IntKind.wrap .u8 ((IntKind.wrap .u8 (((ix s317.v s317.t10).toNat : Int) - 97)) + 65))) (tm Z) Z c343 Z Z (by decide) (congrArg AV.cells (byteAV_u8 c344.1 c344.2)) (xe ?_))
 cases h
 exact ⟨(), wi [0] Z⟩
 replace h := ite_fb hb345 h
 refine aw_skip ?_
 cases h
 exact ⟨(), wi [0] Z⟩
 intro _
 have h := h333
 refine aw_region (xz (.i (w64 (s317.t10 + 1))) Z (xy Z (xe ?_)))
 cases h
 exact ⟨_, (), Z, wi [0] Z⟩
 refine aw_exit ?_
 cases h
 cases congrArg some (hx318 _ rfl)
 exact ⟨(), wi [0] Z⟩
 intro _
 have h := h261
 refine xr (xy Z (aops_publish 28 0 (tm Z) Z (xc Z (op_bytesStr Z underlying126 underlying5 underlying9 (tm Z) (xy Z (xe (aw_ret ?_)))))))
 cases h
 exact rt ⟨Z, Z⟩ Z w0

theorem auth.Find_1.ok {t_ a1_ r} (h : auth.Find_1 t_ a1_ = some r) (o0 : Nat) : Sp prog 81 [.agg (api.Tenant.ct t_), .ptr o0 0] [(o0, .cells [.str a1_])] (fun v H => v = .bool r ∧ H = [(o0, .cells [.str a1_])]) := by
 unfold auth.Find_1 at h
 refine sb [.tmp 3] func81 Z (xr (xb (api.Tenant.ct t_) Z fun p2 => xz (.bool false) Z (xe (xr (xf (.ptr p2 1) underlying68 sizeOf9 Z (xl 0 isAgg9 Z (xl 1 isAgg9 Z (xa (bd (t_.Token = a1_)) Z (pu_str (v := bd (t_.Token = a1_)) Z Z (tm Z) (tm Z) Z) (xy Z (xe ?_))))))))))
 refine aw_ret ?_
 cases h
 exact rt ⟨Z, Z⟩ Z (wi [1] Z)

theorem slices.IndexFunc_api_Tenant_auth_Find_1.ok {s_ b0_ r} (h : slices.IndexFunc_api_Tenant_auth_Find_1 s_ b0_ = some r) (o0 : Nat) : Sp prog 80 [.sl .no 14 (m0L s_), .fn 81 [.ptr o0 0]] [(o0, .cells [.str b0_])] (fun v H => v = .i r ∧ H = [(o0, .cells [.str b0_])]) := by
 unfold slices.IndexFunc_api_Tenant_auth_Find_1 at h
 refine sb [.tmp 4] func80 Z (xr (xz (.i 0) Z (xe ?_)))
 obtain ⟨s80, s80e, h60⟩ := bind_some h
 refine aw_join (σ := Unit) (ν := Unit) (fun u v => []) (fun u v => [(o0, .cells [.str b0_])]) (fun u => s80 = .inl u) ?_ ?_
 intro s59
 intro _
 rintro rfl
 have h := onSum_inl h60
 refine xr (xz (.i (-1)) Z (xe (aw_ret ?_)))
 cases h
 exact rt ⟨Z, Z⟩ Z (wi [0] Z)
 have h := s80e
 refine xr (xy Z (xa (.i (s_.length : Int)) Z (pu_lenM Z underlying22 (tm Z)) (xz (.i 0) Z (xe (aw_block (aw_while (σ := slices.IndexFunc_api_Tenant_auth_Find_1.S0) (ν := Unit) (slices.IndexFunc_api_Tenant_auth_Find_1.body0 s_ b0_) (fun s72 v => [(0, .sl .no 14 (m0L s_)), (1, .fn 81 [.ptr o0 0]), (7, .i (s_.length : Int)), (8, .i s72.t8)]) (fun s72 v => [(o0, .cells [.str b0_])]) ⟨0⟩ () _ h (wi [0] Z) ?_))))))
 rintro s72 _ x74 h hx73
 unfold slices.IndexFunc_api_Tenant_auth_Find_1.body0 at h
 refine xr (xz (bd (s72.t8 < (s_.length : Int))) Z (xe (aw_seq (cd h Z (fun _ h => ?_) (fun _ h => ?_)))))
 refine aw_skip (aw_seq (aw_block (xr (xy Z (xy Z (xe (aw_seq (aw_region ?_))))))))
 refine xy Z (xy Z (xy Z ?_))
 obtain ⟨c76, h⟩ := need_of h
 refine xa (.vptr [.str (ix s_ s72.t8).Name, .str (ix s_ s72.t8).Token, .i (ix s_ s72.t8).Memory, .i (ix s_ s72.t8).Policy, .i (ix s_ s72.t8).Conns, .i (ix s_ s72.t8).In, .i (ix s_ s72.t8).Out, .i (ix s_ s72.t8).Burst, .i (ix s_ s72.t8).Rate, .i (ix s_ s72.t8).Disk, .i (ix s_ s72.t8).Sync, .i (ix s_ s72.t8).Limits.Args, .i (ix s_ s72.t8).Limits.Bulk, .i (ix s_ s72.t8).Limits.Line]) Z (pu_indexAddrM Z underlying22 sizeOf68 (tm Z) (tm Z) c76 Z) (xc Z (op_loadVN Z isAgg68 sizeOf68 (tm Z) (nb Z) Z ?_))
 obtain ⟨r77, r77e, h⟩ := bind_some h
 refine xc Z (op_callV (vs := [.agg (api.Tenant.ct (ix s_ s72.t8))]) (H := [(o0, .cells [.str b0_])]) Z (tm Z) call81 ⟨(tm Z), trivial⟩ (List.Perm.refl _) (auth.Find_1.ok r77e o0) ?_)
 rintro _ _ ⟨rfl, rfl⟩
 refine xe (cb h Z (fun _ h => ?_) (fun _ h => ?_))
 refine xr (xy Z (xy Z (xe (aw_ret ?_))))
 cases h
 cases congrArg some (hx73 _ rfl)
 cases onSum_inr h60
 exact rt ⟨Z, Z⟩ Z (wi [0] Z)
 refine aw_skip (aw_region (xz (.i (w64 (s72.t8 + 1))) Z (xy Z (xe ?_))))
 cases h
 exact ⟨_, (), Z, wi [0] Z⟩
 refine aw_exit ?_
 cases h
 have h := congrArg some (hx73 _ rfl)
 exact ⟨(), (), (some_of h).symm, wi [0] Z⟩

theorem auth.Find.ok {c_ token r} (h : auth.Find c_ token = some r) : Sp prog 64 [.agg [.sl .no 14 (m0L c_.Tenants), .i c_.Quantum, .i c_.Deadline], .str token] [] (fun v H => v = .i r ∧ H = []) := by
 unfold auth.Find at h
 refine sb [.tmp 4] func64 Z (xr (xb [.sl .no 14 (m0L c_.Tenants), .i c_.Quantum, .i c_.Deadline] Z fun p4 => xb [.str token] Z fun p5 => xz (.i 0) Z (xe (xr (xf (.ptr p4 0) underlying24 sizeOf22 Z (xl 1 isAgg22 Z (xa (.fn 81 [.ptr p5 0]) Z (pu_makeFunc Z ⟨(tm Z), trivial⟩) ?_)))))))
 obtain ⟨r6, r6e, h⟩ := bind_some h
 refine xo (slices.IndexFunc_api_Tenant_auth_Find_1.ok r6e p5) call80 Z (xy Z (xe (aw_ret ?_)))
 cases h
 exact rt ⟨Z, Z⟩ Z w0

theorem auth.verdict.ok {c_ call r} (h : auth.verdict c_ call = some r) : Sp prog 44 [.agg [.sl .no 14 (m0L c_.Tenants), .i c_.Quantum, .i c_.Deadline], .sl .no 1 (m3L call)] [] (fun v H => v = .tup [.i r.1, .i r.2] ∧ H = []) := by
 unfold auth.verdict at h
 refine sb [.tmp 4, .tmp 5] func44 Z (xr (xb [.sl .no 14 (m0L c_.Tenants), .i c_.Quantum, .i c_.Deadline] Z fun p15 => xz (.i 0) Z (xz (.i 0) Z (xe (aw_seq ?_)))))
 obtain ⟨s19, s19e, h20⟩ := bind_some h
 refine aw_meet (ν := Unit) (fun v => [(1, .sl .no 1 (m3L call)), (2, .ptr p15 0), (16, .bool s19)]) (fun v => [(p15, .cells [.sl .no 14 (m0L c_.Tenants), .i c_.Quantum, .i c_.Deadline])]) ?_ ?_
 have h := s19e
 refine aw_region (xy Z ?_)
 obtain ⟨c22, h⟩ := need_of h
 refine xa (.vptr [.str (ix call 0)]) Z (pu_indexAddrM Z underlying71 sizeOf9 (tm Z) (AEv.int _ _) c22 Z) (xc Z (op_loadV1 Z isAgg9 (tm Z) Z ?_))
 obtain ⟨r23, r23e, h⟩ := bind_some h
 refine xo (table.Upper.ok r23e) call63 Z (xa (bn (r23 = [65, 85, 84, 72])) Z (pu_str (v := bn (r23 = [65, 85, 84, 72])) Z Z (tm Z) (AEv.const Z) Z) (xy Z ?_))
 rcases Bool.eq_false_or_eq_true (!decide (r23 = [65, 85, 84, 72])) with hb24 | hb24
 replace h := ite_f (ndec_t hb24) h
 refine aops_known 12 Z hb24 (xu Z (xu Z (xu Z (xz (.bool true) Z (xe ?_)))))
 cases h
 exact ⟨(), wi [0] Z⟩
 replace h := ite_t (ndec_f hb24) h
 refine aops_known 12 Z hb24 (xq Z Z Z Z (xp (.i (call.length : Int)) Z Z (pu_lenM Z underlying71 (tm Z)) (xp (bn ((call.length : Int) = 2)) Z Z (pe Z) (xz (bn ((call.length : Int) = 2)) Z (xe ?_)))))
 cases h
 exact ⟨(), wi [0] Z⟩
 intro _
 have h := h20
 refine aw_cond (b := s19) (tm Z) (fun hb28 => ?_) (fun hb28 => ?_)
 replace h := ite_t hb28 h
 refine xr (xz (.i (-1)) Z (xz (.i 2) Z (xe (aw_ret ?_))))
 cases h
 exact rt ⟨Z, Z⟩ Z w0
 replace h := ite_fb hb28 h
 refine aw_skip (aw_seq ?_)
 obtain ⟨c25, h⟩ := need_of h
 obtain ⟨r26, r26e, h⟩ := bind_some h
 refine aw_planR (by decide +kernel) [[(0, 0, false)], [], [], [], [], []] [[]] [[[(p15, .cells [.sl .no 14 (m0L c_.Tenants), .i c_.Quantum, .i c_.Deadline])]]] [.agg [.sl .no 14 (m0L c_.Tenants), .i c_.Quantum, .i c_.Deadline], .sl .no 1 (m3L call), .vptr [.str (ix call 1)], .str (ix call 1), .i r26, .i r26] (by decide +kernel) Z Z ?_ ?_
 exact ⟨stepg_plain Z (op_loadN (i := 0) Z isAgg24 sizeOf24 (tm Z) Z (nb Z) Z ⟨Z, Z⟩), ym Z Z Z, yp Z (pu_indexAddrM Z underlying71 sizeOf9 (tm Z) (AEv.int _ _) c25 Z), stepg_plain Z (op_loadV1 Z isAgg9 (tm Z) Z ⟨Z, Z⟩), stepg_plain Z (op_call (vs := [.agg [.sl .no 14 (m0L c_.Tenants), .i c_.Quantum, .i c_.Deadline], .str (ix call 1)]) (H := []) Z call64 ⟨(tm Z), (tm Z), trivial⟩ (R := []) (List.Perm.refl _) (auth.Find.ok r26e) (by rintro _ _ ⟨rfl, rfl⟩; exact ⟨Z, Z⟩)), ym Z Z Z, trivial⟩
 refine aw_seq (xr (xy Z (xz (bd (r26 < 0)) Z (xe (cd h Z (fun _ h => ?_) (fun _ h => ?_))))))
 refine xr (xz (.i (-1)) Z (xz (.i 3) Z (xe (aw_ret ?_))))
 cases h
 exact rt ⟨Z, Z⟩ Z w0
 refine aw_skip (xr (xy Z (xy Z (xz (.i 1) Z (xe (aw_ret ?_))))))
 cases h
 exact rt ⟨Z, Z⟩ Z w0

theorem auth.First.ok {c_ in_ s_ r} (h : auth.First c_ in_ s_ = some r) : Sp prog 34 [.agg [.sl .no 14 (m0L c_.Tenants), .i c_.Quantum, .i c_.Deadline], .agg (api.Input.ct .no in_), .str s_] [] (fun v H => v = .tup [.agg [.str r.1.Rest, .sl .no 1 (m3L r.1.Args), .i r.1.Left, .i r.1.Size, .bool r.1.Body, .i r.1.Need, .i r.1.Dead], .str r.2.1, .i r.2.2.1, .i r.2.2.2] ∧ H = []) := by
 unfold auth.First at h
 refine sb [.cell 6 74, .tmp 7, .tmp 8, .tmp 9] func34 Z (xr (xb [.sl .no 14 (m0L c_.Tenants), .i c_.Quantum, .i c_.Deadline] Z fun p81 => xb (api.Input.ct .no in_) Z fun p82 => xA (.agg [.str nS, .sl .full 1 e2L, .i 0, .i 0, .bool false, .i 0, .i 0]) zeroValue74 Z fun p83 => xa (.str nS) Z (pu_assign Z (AEv.const Z)) (xz (.i 0) Z (xz (.i 0) Z (xe (aw_seq (xr (xf (.ptr p82 6) underlying74 sizeOf72 Z (xl 1 isAgg72 Z (xz (bn (in_.Dead = 0)) Z ?_))))))))))
 refine xe (cn h Z (fun _ h => ?_) (fun _ h => ?_))
 refine xr (xL 1 isAgg74 sizeOf74 Z (xs 0 (api.Input.ct .no in_) sizeOf74 Z (xa (.str nS) Z (pu_assign Z (AEv.const Z)) (xz (.i (-1)) Z (xz (.i 4) Z (xe (aw_ret ?_)))))))
 cases h
 exact rq [.agg (api.Input.ct .no in_), .str nS, .i (-1), .i 4] ⟨Z, Z⟩ (AV.Le.tup cr) ⟨(CellOk.agg 0 (tm Z) Z isAgg74 sizeOf74 (nb Z) Z), (tm Z), (tm Z), (tm Z), trivial⟩ w0
 refine aw_skip ?_
 obtain ⟨s159, s159e, h121⟩ := bind_some h
 refine aw_join (σ := (List UInt8) × (List (List UInt8)) × Int × Int × Bool × Int × Int) (ν := Unit) (fun u v => [(4, .ptr p82 0), (6, .ptr p83 0)]) (fun u v => [(p82, .cells [.str u.1, .sl .no 1 (m3L u.2.1), .i u.2.2.1, .i u.2.2.2.1, .bool u.2.2.2.2.1, .i u.2.2.2.2.2.1, .i u.2.2.2.2.2.2]), (p83, .cells [.str nS, .sl .full 1 e2L, .i 0, .i 0, .bool false, .i 0, .i 0])]) (fun u => s159 = .inl u) ?_ ?_
 intro s120
 intro _
 rintro rfl
 have h := onSum_inl h121
 refine xr (xL 0 isAgg74 sizeOf74 Z (xs 1 [.str s120.1, .sl .no 1 (m3L s120.2.1), .i s120.2.2.1, .i s120.2.2.2.1, .bool s120.2.2.2.2.1, .i s120.2.2.2.2.2.1, .i s120.2.2.2.2.2.2] sizeOf74 Z (xa (.str nS) Z (pu_assign Z (AEv.const Z)) (xz (.i (-1)) Z (xz (.i 0) Z (xe (aw_ret ?_)))))))
 cases h
 exact rq [.agg [.str s120.1, .sl .no 1 (m3L s120.2.1), .i s120.2.2.1, .i s120.2.2.2.1, .bool s120.2.2.2.2.1, .i s120.2.2.2.2.2.1, .i s120.2.2.2.2.2.2], .str nS, .i (-1), .i 0] ⟨Z, Z⟩ (AV.Le.tup cr) ⟨(CellOk.agg 1 (tm Z) Z isAgg74 sizeOf74 (nb Z) Z), (tm Z), (tm Z), (tm Z), trivial⟩ w0
 have h := s159e
 refine xr (xy Z (xa (.i (s_.length : Int)) Z (pu_strLen Z underlying9 (tm Z)) (xz (.i 0) Z (xe (aw_block (aw_while (σ := auth.First.S0) (ν := Unit) (auth.First.body0 s_ c_) (fun s145 v => [(2, .str s_), (3, .ptr p81 0), (4, .ptr p82 0), (6, .ptr p83 0), (21, .i (s_.length : Int)), (22, .i s145.t22)]) (fun s145 v => [(p81, .cells [.sl .no 14 (m0L c_.Tenants), .i c_.Quantum, .i c_.Deadline]), (p82, .cells [.str s145.c, .sl .no 1 (m3L s145.c2), .i s145.c3, .i s145.c4, .bool s145.c5, .i s145.c6, .i s145.c7]), (p83, .cells [.str nS, .sl .full 1 e2L, .i 0, .i 0, .bool false, .i 0, .i 0])]) ⟨0, in_.Rest, in_.Args, in_.Left, in_.Size, in_.Body, in_.Need, in_.Dead⟩ () _ h (wi [2, 1, 0] Z) ?_))))))
 rintro s145 _ x147 h hx146
 unfold auth.First.body0 at h
 refine xr (xz (bd (s145.t22 < (s_.length : Int))) Z (xe (aw_seq (cd h Z (fun _ h => ?_) (fun _ h => ?_)))))
 refine aw_skip (aw_seq (aw_block (xr (xy Z (xy Z (xe (aw_seq ?_)))))))
 obtain ⟨c149, h⟩ := need_of h
 obtain ⟨r150, r150e, h⟩ := bind_some h
 obtain ⟨r151, r151e, h⟩ := bind_some h
 refine aw_reserve fun p152 => (aw_planR (by decide +kernel) [[(2, 0, false)], [], [], [], [], [], [], [], [], [], [], [], [(0, 0, true)], [(0, 1, true)], [], []] [[12, 13], [], [], []] [[[(p152, .resv)], [(p152, .cells [.str nS, .sl .full 1 e2L, .i 0, .i 0, .bool false, .i 0, .i 0])], [(p152, .cells (api.Input.ct .no r151.1))]], [[(p81, .cells [.sl .no 14 (m0L c_.Tenants), .i c_.Quantum, .i c_.Deadline])]], [[(p82, .cells [.str s145.c, .sl .no 1 (m3L s145.c2), .i s145.c3, .i s145.c4, .bool s145.c5, .i s145.c6, .i s145.c7])]], [[(p83, .cells [.str nS, .sl .full 1 e2L, .i 0, .i 0, .bool false, .i 0, .i 0])]]] [.agg [.str s145.c, .sl .no 1 (m3L s145.c2), .i s145.c3, .i s145.c4, .bool s145.c5, .i s145.c6, .i s145.c7], .str s_, .i s145.t22, .i s145.t22, .i (w64 (s145.t22 + 1)), .str (sub s_ s145.t22 (w64 (s145.t22 + 1))), .agg [.i r150.Args, .i r150.Bulk, .i r150.Line], .tup [.agg (api.Input.ct .no r151.1), .sl .no 2 (m4L r151.2.1), .i r151.2.2], .tup [.agg (api.Input.ct .no r151.1), .sl .no 2 (m4L r151.2.1), .i r151.2.2], .agg (api.Input.ct .no r151.1), .sl .no 2 (m4L r151.2.1), .i r151.2.2, .ptr p152 0, .un, .sl .no 2 (m4L r151.2.1), .i r151.2.2] (by decide +kernel) Z Z ?_ ?_)
 exact ⟨stepg_plain Z (op_loadN (i := 0) Z isAgg74 sizeOf74 (tm Z) Z (nb Z) Z ⟨Z, Z⟩), ym Z Z Z, ym Z Z Z, ym Z Z Z, yp Z (pe Z), yp Z (pu_strSliceM Z underlying9 (tm Z) ⟨_, (tm Z)⟩ ⟨_, (tm Z)⟩ c149), stepg_plain Z (op_call (vs := []) (H := []) Z call43 trivial (R := []) (List.Perm.refl _) (auth.limits.ok r150e) (by rintro _ _ ⟨rfl, rfl⟩; exact ⟨Z, Z⟩)), stepg_plain Z (aop_forget (.tup [.agg (api.Input.ct .no r151.1), .sl .no 2 (m4L r151.2.1), .i r151.2.2]) [] (op_call (vs := [.agg [.str s145.c, .sl .no 1 (m3L s145.c2), .i s145.c3, .i s145.c4, .bool s145.c5, .i s145.c6, .i s145.c7], .str (sub s_ s145.t22 (w64 (s145.t22 + 1))), .agg [.i r150.Args, .i r150.Bulk, .i r150.Line]]) (H := []) Z call42 ⟨(tm Z), (tm Z), (tm Z), trivial⟩ (R := []) (List.Perm.refl _) (parse.Feed.ok r151e) (by rintro _ _ ⟨_, rfl, rfl⟩; exact ⟨([] : List Nat), _, Z, Z, (AV.Le.tup ⟨vr, (AV.Le.forget _ _ _), vr, trivial⟩), List.nodup_nil, Z⟩)) ⟨Z, Z⟩), ym Z Z Z, yp Z (pe Z), yp Z (pe Z), yp Z (pe Z), stepg_plain Z (aop_settleP (op_alloc (cs := [.str nS, .sl .full 1 e2L, .i 0, .i 0, .bool false, .i 0, .i 0]) (v := .agg [.str nS, .sl .full 1 e2L, .i 0, .i 0, .bool false, .i 0, .i 0]) Z zeroValue74 Z Z Z fun t => ⟨t, Z, Z⟩) ⟨Z, Z⟩), stepg_plain Z (op_store (i := 0) (cs' := (api.Input.ct .no r151.1)) Z sizeOf74 (tm Z) (v := .agg (api.Input.ct .no r151.1)) (tm Z) Z Z Z (nb Z) Z ⟨Z, Z⟩), ym Z Z Z, ym Z Z Z, trivial⟩
 refine aw_seq (xr (xy Z (xz (bn (r151.2.2 = 0)) Z (xe (cn h Z (fun _ h => ?_) (fun _ h => ?_))))))
 refine xr (xL 0 isAgg74 sizeOf74 Z (xs 3 (api.Input.ct .no r151.1) sizeOf74 Z (xa (.str nS) Z (pu_assign Z (AEv.const Z)) (xz (.i (-1)) Z (xz (.i 4) Z (xe (aw_ret ?_)))))))
 cases h
 cases congrArg some (hx146 _ rfl)
 cases onSum_inr h121
 exact rq [.agg (api.Input.ct .no r151.1), .str nS, .i (-1), .i 4] ⟨Z, Z⟩ (AV.Le.tup cr) ⟨(CellOk.agg 3 (tm Z) Z isAgg74 sizeOf74 (nb Z) Z), (tm Z), (tm Z), (tm Z), trivial⟩ w0
 refine aw_skip (aw_seq (xr (xy Z (xa (.i (r151.2.1.length : Int)) Z (pu_lenM Z underlying77 (tm Z)) (xz (bd (0 < (r151.2.1.length : Int))) Z (xe (cd h Z (fun _ h => ?_) (fun _ h => ?_))))))))
 refine aw_seq ?_
 obtain ⟨c153, h⟩ := need_of h
 obtain ⟨r154, r154e, h⟩ := bind_some h
 refine aw_planR (by decide +kernel) [[(1, 0, false)], [], [], [], [], [], [], [], [], [], []] [[], [], [], []] [[[(p152, .cells (api.Input.ct .no r151.1))]], [[(p81, .cells [.sl .no 14 (m0L c_.Tenants), .i c_.Quantum, .i c_.Deadline])]], [[(p82, .cells [.str s145.c, .sl .no 1 (m3L s145.c2), .i s145.c3, .i s145.c4, .bool s145.c5, .i s145.c6, .i s145.c7])]], [[(p83, .cells [.str nS, .sl .full 1 e2L, .i 0, .i 0, .bool false, .i 0, .i 0])]]] [.agg [.sl .no 14 (m0L c_.Tenants), .i c_.Quantum, .i c_.Deadline], .sl .no 2 (m4L r151.2.1), .vptr [.sl .no 1 (m3L (ix r151.2.1 0).Args), .i (ix r151.2.1 0).Size], .vptr [.sl .no 1 (m3L (ix r151.2.1 0).Args), .i (ix r151.2.1 0).Size], .sl .no 1 (m3L (ix r151.2.1 0).Args), .tup [.i r154.1, .i r154.2], .tup [.i r154.1, .i r154.2], .i r154.1, .i r154.2, .i r154.1, .i r154.2] (by decide +kernel) Z Z ?_ ?_
 exact ⟨stepg_plain Z (op_loadN (i := 0) Z isAgg24 sizeOf24 (tm Z) Z (nb Z) Z ⟨Z, Z⟩), ym Z Z Z, yp Z (pu_indexAddrM Z underlying77 sizeOf81 (tm Z) (AEv.int _ _) c153 Z), yp Z (fa Z underlying81 Z sizeOf71 Z Z Z), stepg_plain Z (op_loadV1 Z isAgg71 (tm Z) Z ⟨Z, Z⟩), stepg_plain Z (op_call (vs := [.agg [.sl .no 14 (m0L c_.Tenants), .i c_.Quantum, .i c_.Deadline], .sl .no 1 (m3L (ix r151.2.1 0).Args)]) (H := []) Z call44 ⟨(tm Z), (tm Z), trivial⟩ (R := []) (List.Perm.refl _) (auth.verdict.ok r154e) (by rintro _ _ ⟨rfl, rfl⟩; exact ⟨Z, Z⟩)), ym Z Z Z, yp Z (pe Z), yp Z (pe Z), ym Z Z Z, ym Z Z Z, trivial⟩
 refine aw_seq ?_
 obtain ⟨c155, h⟩ := need_of h
 refine aw_planR (by decide +kernel) [[], [], [], [], [], [], [], [(3, 0, true)], [], [], []] [[], [], [], [7]] [[[(p152, .cells (api.Input.ct .no r151.1))]], [[(p81, .cells [.sl .no 14 (m0L c_.Tenants), .i c_.Quantum, .i c_.Deadline])]], [[(p82, .cells [.str s145.c, .sl .no 1 (m3L s145.c2), .i s145.c3, .i s145.c4, .bool s145.c5, .i s145.c6, .i s145.c7])]], [[(p83, .cells [.str nS, .sl .full 1 e2L, .i 0, .i 0, .bool false, .i 0, .i 0])], [(p83, .cells [.str nS, .sl .full 1 e2L, .i 0, .i 0, .bool false, .i 0, .i 0])]]] [.agg [.str nS, .sl .full 1 e2L, .i 0, .i 0, .bool false, .i 0, .i 0], .str s_, .i s145.t22, .i (w64 (s145.t22 + 1)), .str (sub s_ (w64 (s145.t22 + 1)) (s_.length : Int)), .i r154.1, .i r154.2, .un, .str (sub s_ (w64 (s145.t22 + 1)) (s_.length : Int)), .i r154.1, .i r154.2] (by decide +kernel) Z Z ?_ ?_
 exact ⟨yp Z (pu_build (zs := [.str nS, .sl .full 1 e2L, .i 0, .i 0, .bool false, .i 0, .i 0]) (szs := [1, 1, 1, 1, 1, 1, 1]) (aparts := []) (cs := [.str nS, .sl .full 1 e2L, .i 0, .i 0, .bool false, .i 0, .i 0]) Z underlying74 zeroValue74 Z ⟨sizeOf9, sizeOf71, sizeOf3, sizeOf3, sizeOf4, sizeOf3, sizeOf72, trivial⟩ trivial Z), ym Z Z Z, ym Z Z Z, yp Z (pe Z), yp Z (pu_strSliceM Z underlying9 (tm Z) ⟨_, (tm Z)⟩ Z c155), ym Z Z Z, ym Z Z Z, stepg_plain Z (op_store (i := 0) (cs' := [.str nS, .sl .full 1 e2L, .i 0, .i 0, .bool false, .i 0, .i 0]) Z sizeOf74 (tm Z) (v := .agg [.str nS, .sl .full 1 e2L, .i 0, .i 0, .bool false, .i 0, .i 0]) (tm Z) Z Z Z (nb Z) Z ⟨Z, Z⟩), ym Z Z Z, ym Z Z Z, ym Z Z Z, trivial⟩
 refine aw_ret ?_
 cases h
 cases congrArg some (hx146 _ rfl)
 cases onSum_inr h121
 exact rq [.agg [.str nS, .sl .full 1 e2L, .i 0, .i 0, .bool false, .i 0, .i 0], .str (sub s_ (w64 (s145.t22 + 1)) (s_.length : Int)), .i r154.1, .i r154.2] ⟨Z, Z⟩ (AV.Le.tup ⟨(AV.Le.agg ⟨vr, (AV.Le.forget _ _ _), vr, vr, vr, vr, vr, trivial⟩), vr, vr, vr, trivial⟩) ⟨(CellOk.agg 3 (tm Z) Z isAgg74 sizeOf74 (nb Z) Z), (tm Z), (tm Z), (tm Z), trivial⟩ w0
 refine aw_skip (aw_region (xL 0 isAgg74 sizeOf74 Z (xs 2 (api.Input.ct .no r151.1) sizeOf74 Z (xe (aw_region (xz (.i (w64 (s145.t22 + 1))) Z (xy Z (xe ?_))))))))
 cases h
 exact ⟨_, (), Z, wi [1, 2, 3] Z⟩
 refine aw_exit ?_
 cases h
 have h := congrArg some (hx146 _ rfl)
 exact ⟨(s145.c, s145.c2, s145.c3, s145.c4, s145.c5, s145.c6, s145.c7), (), (some_of h).symm, wi [1, 2] Z⟩

end Go.Pu
