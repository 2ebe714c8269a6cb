/- Printed by lift.py: the functions come to them. -/
import Derived.Test.YtngliepchpkiiaaDoorLiftWS
import Derived.Test.YtngliepchpkiiaaDoorTAK1
set_option maxRecDepth 100000
set_option maxHeartbeats 0
namespace Go.Pu
open Go.Lift Go.Proofs.Tryd Go.RowKit Go.Proofs

theorem mewslaw28.TableAll.ok {at_ turn r} (h : mewslaw28.TableAll at_ turn = some r) : Sp prog 5 [.i at_, .i turn] [] (fun v H => v = .bool r ∧ H = []) := by
 unfold mewslaw28.TableAll at h
 refine sb [.tmp 4] func5 Z (xr (xz (.bool false) Z (xe (aw_seq (aw_region ?_)))))
 obtain ⟨r391, r391e, h⟩ := bind_some h
 refine xo (table.All.ok r391e) call17 Z (xy Z (xe (aw_seq ?_)))
 obtain ⟨s395, s395e, h396⟩ := bind_some h
 refine aw_meet (ν := Unit) (fun v => [(0, .i at_), (1, .i turn), (5, .sl .no 1 (m2L r391)), (23, .bool s395)]) (fun v => []) ?_ ?_
 have h := s395e
 refine aw_region (xy Z (xa (.i (r391.length : Int)) Z (pu_lenM Z underlying31 (tm Z)) ?_))
 obtain ⟨r398, r398e, h⟩ := bind_some h
 refine xk (mewsref28.Commands.ok r398e) call18 Z ?_
 rintro _ _ ⟨t399, rfl, rfl⟩
 refine xa (.i (r398.length : Int)) Z (pu_lenM Z underlying37 (tm Z)) (xz (bn ((r391.length : Int) = (r398.length : Int))) Z (xy Z ?_))
 rcases Bool.eq_false_or_eq_true (!decide ((r391.length : Int) = (r398.length : Int))) with hb400 | hb400
 replace h := ite_f (ndec_t hb400) h
 refine aops_known 19 Z hb400 (xu Z (xu Z (xu Z (xz (.bool true) Z (xe ?_)))))
 cases h
 exact ⟨(), wi [] Z⟩
 replace h := ite_t (ndec_f hb400) h
 refine aops_known 19 Z hb400 (xq Z Z Z Z (xp (.i (r391.length : Int)) Z Z (pu_lenM Z underlying31 (tm Z)) (xp (bd ((r391.length : Int) = 0)) Z Z (pe Z) (xz (bd ((r391.length : Int) = 0)) Z (xe ?_)))))
 cases h
 exact ⟨(), wi [] Z⟩
 intro _
 have h := h396
 refine aw_cond (b := s395) (tm Z) (fun hb780 => ?_) (fun hb780 => ?_)
 replace h := ite_t hb780 h
 refine xr (xz (.bool false) Z (xe (aw_ret ?_)))
 cases h
 exact rt ⟨Z, Z⟩ Z w0
 replace h := ite_fb hb780 h
 refine aw_skip ?_
 obtain ⟨s779, s779e, h441⟩ := bind_some h
 refine aw_join (σ := Unit) (ν := Unit) (fun u v => [(0, .i at_), (1, .i turn), (5, .sl .no 1 (m2L r391))]) (fun u v => []) (fun u => s779 = .inl u) ?_ ?_
 intro s440
 intro _
 rintro rfl
 have h := onSum_inl h441
 refine xr (xy Z (xy Z (xa (.int .u64 (IntKind.wrap .u64 at_)) Z (pu_conv Z underlying3 underlying39 (tm Z)) (xy Z (xa (.i (r391.length : Int)) Z (pu_lenM Z underlying31 (tm Z)) (xa (.int .u64 (IntKind.wrap .u64 (r391.length : Int))) Z (pu_conv Z underlying3 underlying39 (tm Z)) ?_))))))
 obtain ⟨c482, h⟩ := need_of h
 refine xa (.int .u64 ((IntKind.wrap .u64 at_).tmod (IntKind.wrap .u64 (r391.length : Int)))) Z (pu_rem Z (tm Z) (tm Z) c482) (xa (.i (w64 ((IntKind.wrap .u64 at_).tmod (IntKind.wrap .u64 (r391.length : Int))))) Z (pu_conv Z underlying39 underlying3 (tm Z)) ?_)
 obtain ⟨c483, h⟩ := need_of h
 refine xa (.vptr [.str (ix r391 (w64 ((IntKind.wrap .u64 at_).tmod (IntKind.wrap .u64 (r391.length : Int)))))]) Z (pu_indexAddrM Z underlying31 sizeOf9 (tm Z) (tm Z) c483 Z) (xc Z (op_loadV1 Z isAgg9 (tm Z) Z (xy Z (xe (xr (xy Z ?_))))))
 obtain ⟨c484, h⟩ := need_of h
 refine xc Z (op_strBytes Z underlying9 underlying40 underlying5 (tm Z) c484 ?_)
 intro p485
 refine xy Z (xe (xr (xy Z (xa (.int .u64 (IntKind.wrap .u64 turn)) Z (pu_conv Z underlying3 underlying39 (tm Z)) (xy Z (xc Z (op_lenVecM (i := 0) Z underlying40 (tm Z) Z (xz (.i (w64 (((ix r391 (w64 ((IntKind.wrap .u64 at_).tmod (IntKind.wrap .u64 (r391.length : Int))))).length : Int) + 1))) Z (xa (.int .u64 (IntKind.wrap .u64 (w64 (((ix r391 (w64 ((IntKind.wrap .u64 at_).tmod (IntKind.wrap .u64 (r391.length : Int))))).length : Int) + 1)))) Z (pu_conv Z underlying3 underlying39 (tm Z)) ?_)))))))))
 obtain ⟨c486, h⟩ := need_of h
 refine xa (.int .u64 ((IntKind.wrap .u64 turn).tmod (IntKind.wrap .u64 (w64 (((ix r391 (w64 ((IntKind.wrap .u64 at_).tmod (IntKind.wrap .u64 (r391.length : Int))))).length : Int) + 1))))) Z (pu_rem Z (tm Z) (tm Z) c486) (xa (.i (w64 ((IntKind.wrap .u64 turn).tmod (IntKind.wrap .u64 (w64 (((ix r391 (w64 ((IntKind.wrap .u64 at_).tmod (IntKind.wrap .u64 (r391.length : Int))))).length : Int) + 1)))))) Z (pu_conv Z underlying39 underlying3 (tm Z)) (xy Z (xe ?_)))
 obtain ⟨s621, s621e, h622⟩ := bind_some h
 refine aw_meet (ν := Unit) (fun v => [(7, .str (ix r391 (w64 ((IntKind.wrap .u64 at_).tmod (IntKind.wrap .u64 (r391.length : Int)))))), (8, .vec p485)]) (fun v => [(p485, .vec 1 (m0L s621))]) ?_ ?_
 have h := s621e
 refine xr (xy Z (xy Z ?_))
 obtain ⟨c624, h⟩ := need_of h
 refine xc Z (op_sliceVecM Z underlying40 sizeOf5 (tm Z) (q := 0) Z Z ⟨_, (tm Z)⟩ c624 ?_)
 obtain ⟨c625, h⟩ := need_of h
 refine xa (.i ((w64 ((IntKind.wrap .u64 turn).tmod (IntKind.wrap .u64 (w64 (((ix r391 (w64 ((IntKind.wrap .u64 at_).tmod (IntKind.wrap .u64 (r391.length : Int))))).length : Int) + 1))))) - 0)) Z (pu_lenVslM Z underlying40 (tm Z) c625) (xz (.i 0) Z (xe (aw_block (aw_while (σ := mewslaw28.TableAll.S2) (ν := Unit) (mewslaw28.TableAll.body2 turn r391 at_) (fun s712 v => [(7, .str (ix r391 (w64 ((IntKind.wrap .u64 at_).tmod (IntKind.wrap .u64 (r391.length : Int)))))), (8, .vec p485), (67, .i ((w64 ((IntKind.wrap .u64 turn).tmod (IntKind.wrap .u64 (w64 (((ix r391 (w64 ((IntKind.wrap .u64 at_).tmod (IntKind.wrap .u64 (r391.length : Int))))).length : Int) + 1))))) - 0)), (68, .i s712.t68)]) (fun s712 v => [(p485, .vec 1 (m0L s712.v))]) ⟨0, ix r391 (w64 ((IntKind.wrap .u64 at_).tmod (IntKind.wrap .u64 (r391.length : Int))))⟩ () _ h (wi [0] Z) ?_))))
 rintro s712 _ x714 h hx713
 unfold mewslaw28.TableAll.body2 at h
 refine xr (xz (bd (s712.t68 < ((w64 ((IntKind.wrap .u64 turn).tmod (IntKind.wrap .u64 (w64 (((ix r391 (w64 ((IntKind.wrap .u64 at_).tmod (IntKind.wrap .u64 (r391.length : Int))))).length : Int) + 1))))) - 0))) Z (xe (aw_seq (cd h Z (fun _ h => ?_) (fun _ h => ?_)))))
 refine aw_skip ?_
 obtain ⟨s735, s735e, h736⟩ := bind_some h
 refine aw_meet (ν := Unit) (fun v => [(7, .str (ix r391 (w64 ((IntKind.wrap .u64 at_).tmod (IntKind.wrap .u64 (r391.length : Int)))))), (8, .vec p485), (67, .i ((w64 ((IntKind.wrap .u64 turn).tmod (IntKind.wrap .u64 (w64 (((ix r391 (w64 ((IntKind.wrap .u64 at_).tmod (IntKind.wrap .u64 (r391.length : Int))))).length : Int) + 1))))) - 0)), (68, .i s712.t68)]) (fun v => [(p485, .vec 1 (m0L s735))]) ?_ ?_
 have h := s735e
 refine aw_block (xr (xy Z (xy Z (xe ?_))))
 obtain ⟨s743, s743e, h744⟩ := bind_some h
 refine aw_meet (ν := Unit) (fun v => [(7, .str (ix r391 (w64 ((IntKind.wrap .u64 at_).tmod (IntKind.wrap .u64 (r391.length : Int)))))), (8, .vec p485), (10, .i s712.t68), (67, .i ((w64 ((IntKind.wrap .u64 turn).tmod (IntKind.wrap .u64 (w64 (((ix r391 (w64 ((IntKind.wrap .u64 at_).tmod (IntKind.wrap .u64 (r391.length : Int))))).length : Int) + 1))))) - 0)), (68, .i s712.t68), (82, .bool s743)]) (fun v => [(p485, .vec 1 (m0L s712.v))]) ?_ ?_
 have h := s743e
 refine aw_region (xy Z (xy Z ?_))
 obtain ⟨c746, h⟩ := need_of h
 refine xc Z (op_indexAddrVecM Z underlying40 sizeOf5 (tm Z) (j := 0) Z (tm Z) c746 ?_)
 obtain ⟨c747, h⟩ := need_of h
 refine xc Z (op_loadE1M (i := 0) (sz := 1) Z isAgg5 (tm Z) Z c747 (by decide) Z (xz (bd (65 ≤ ((ix s712.v s712.t68).toNat : Int))) Z (xy Z ?_)))
 rcases Bool.eq_false_or_eq_true (decide (65 ≤ ((ix s712.v s712.t68).toNat : Int))) with hb748 | hb748
 replace h := ite_t (dec_t hb748) h
 refine aops_known 76 Z hb748 (xq Z Z Z Z (xq Z Z Z Z ?_))
 obtain ⟨c749, h⟩ := need_of h
 refine xg Z Z (op_indexAddrVecM Z underlying40 sizeOf5 (tm Z) (j := 0) Z (tm Z) c749 ?_)
 obtain ⟨c750, h⟩ := need_of h
 refine xg Z Z (op_loadE1M (i := 0) (sz := 1) Z isAgg5 (tm Z) Z c750 (by decide) Z (xp (bd (((ix s712.v s712.t68).toNat : Int) ≤ 90)) Z Z (pe Z) (xz (bd (((ix s712.v s712.t68).toNat : Int) ≤ 90)) Z (xe ?_))))
 cases h
 exact ⟨(), wi [0] Z⟩
 replace h := ite_f (dec_f hb748) h
 refine aops_known 76 Z hb748 (xu Z (xu Z (xu Z (xu Z (xu Z (xz (.bool false) Z (xe ?_)))))))
 cases h
 exact ⟨(), wi [0] Z⟩
 intro _
 have h := h744
 refine aw_cond (b := s743) (tm Z) (fun hb756 => ?_) (fun hb756 => ?_)
 replace h := ite_t hb756 h
 refine aw_region (xy Z (xy Z ?_))
 obtain ⟨c751, h⟩ := need_of h
 refine xc Z (op_indexAddrVecM Z underlying40 sizeOf5 (tm Z) (j := 0) Z (tm Z) c751 ?_)
 obtain ⟨c752, h⟩ := need_of h
 refine xc Z (op_loadE1M (i := 0) (sz := 1) Z isAgg5 (tm Z) Z c752 (by decide) Z (xz (.int .u8 (IntKind.wrap .u8 (((ix s712.v s712.t68).toNat : Int) + 32))) Z ?_))
 obtain ⟨c753, h⟩ := need_of h
 refine xc Z (op_indexAddrVecM Z underlying40 sizeOf5 (tm Z) (j := 0) Z (tm Z) c753 ?_)
 obtain ⟨c754, h⟩ := need_of h
 obtain ⟨c755, h⟩ := need_of h
 refine ac0 Z Z (op_storeEM (i := 0) (sz := 1) (y' := u8 (IntKind.wrap .u8 (((ix s712.v s712.t68).toNat : Int) + 32))) Z sizeOf5 (tm Z) (v := .int .u8 (IntKind.wrap .u8 (((ix s712.v s712.t68).toNat : Int) + 32))) (tm Z) Z c754 Z Z (by decide) (congrArg AV.cells (byteAV_u8 c755.1 c755.2)) (xe ?_))
 cases h
 exact ⟨(), wi [0] Z⟩
 replace h := ite_fb hb756 h
 refine aw_skip ?_
 cases h
 exact ⟨(), wi [0] Z⟩
 intro _
 have h := h736
 refine aw_region (xz (.i (w64 (s712.t68 + 1))) Z (xy Z (xe ?_)))
 cases h
 exact ⟨_, (), Z, wi [0] Z⟩
 refine aw_exit ?_
 cases h
 cases congrArg some (hx713 _ rfl)
 exact ⟨(), wi [0] Z⟩
 intro _
 have h := h622
 refine xr (xy Z (aops_publish 91 0 (tm Z) Z (xc Z (op_bytesStr Z underlying40 underlying5 underlying9 (tm Z) ?_))))
 obtain ⟨r758, r758e, h⟩ := bind_some h
 refine xo (table.Find.ok r758e) call8 Z (xy Z (xz (.agg (api.Command.ct r758.1)) Z (xz (.bool r758.2) Z (xA (.agg [.str nS, .i 0, .i 0, .bool false, .bool false, .bool false, .i 0, .i 0, .i 0, .i 0]) zeroValue23 Z fun p759 => xs 0 (api.Command.ct r758.1) sizeOf23 Z (xy Z (xe ?_))))))
 obtain ⟨s768, s768e, h769⟩ := bind_some h
 refine aw_meet (ν := Unit) (fun v => [(4, .bool s768)]) (fun v => []) ?_ ?_
 have h := s768e
 refine aw_region (xy Z (xy Z ?_))
 rcases Bool.eq_false_or_eq_true r758.2 with hb771 | hb771
 replace h := ite_t hb771 h
 refine aops_known 97 Z hb771 (xp (.ptr p759 0) Z Z (fa Z underlying23 Z sizeOf9 Z Z Z) (xg Z Z (op_load1 (i := 0) Z isAgg9 (tm Z) Z Z (xq Z Z Z Z (xp (bd (r758.1.Name = (ix r391 (w64 ((IntKind.wrap .u64 at_).tmod (IntKind.wrap .u64 (r391.length : Int))))))) Z Z (pu_str (v := bd (r758.1.Name = (ix r391 (w64 ((IntKind.wrap .u64 at_).tmod (IntKind.wrap .u64 (r391.length : Int))))))) Z Z (tm Z) (tm Z) Z) (xz (bd (r758.1.Name = (ix r391 (w64 ((IntKind.wrap .u64 at_).tmod (IntKind.wrap .u64 (r391.length : Int))))))) Z (xy Z ?_)))))))
 rcases Bool.eq_false_or_eq_true (decide (r758.1.Name = (ix r391 (w64 ((IntKind.wrap .u64 at_).tmod (IntKind.wrap .u64 (r391.length : Int))))))) with hb772 | hb772
 replace h := ite_t (dec_t hb772) h
 refine aops_known 103 Z hb772 (xp (.ptr p759 2) Z Z (fa Z underlying23 Z sizeOf3 Z Z Z) (xg Z Z (op_load1 (i := 0) Z isAgg3 (tm Z) Z Z (xp (bd (1 ≤ r758.1.Of)) Z Z (pe Z) (xz (bd (1 ≤ r758.1.Of)) Z (xy Z ?_))))))
 rcases Bool.eq_false_or_eq_true (decide (1 ≤ r758.1.Of)) with hb773 | hb773
 replace h := ite_t (dec_t hb773) h
 refine aops_known 108 Z hb773 (xp (.ptr p759 2) Z Z (fa Z underlying23 Z sizeOf3 Z Z Z) (xg Z Z (op_load1 (i := 0) Z isAgg3 (tm Z) Z Z (xp (bd (r758.1.Of ≤ 7)) Z Z (pe Z) (xz (bd (r758.1.Of ≤ 7)) Z (xy Z ?_))))))
 rcases Bool.eq_false_or_eq_true (decide (r758.1.Of ≤ 7)) with hb774 | hb774
 replace h := ite_t (dec_t hb774) h
 refine aops_known 113 Z hb774 (xp (.ptr p759 3) Z Z (fa Z underlying23 Z sizeOf4 Z Z Z) (xg Z Z (op_load1 (i := 0) Z isAgg4 (tm Z) Z Z (xq Z Z Z Z ?_))))
 rcases Bool.eq_false_or_eq_true r758.1.Write with hb775 | hb775
 replace h := ite_t hb775 h
 refine aops_known 116 Z hb775 (xu Z (xu Z (xu Z (xp (.bool true) Z Z (pe Z) (xz (.bool true) Z (xy Z ?_))))))
 obtain ⟨r776, r776e, h⟩ := bind_some h
 refine xg Z Z (op_call (vs := []) (H := []) Z call7 trivial (List.Perm.refl _) (mewslaw28.alive.ok r776e) ?_)
 rintro _ _ ⟨rfl, rfl⟩
 refine xz (.bool r776) Z (xy Z (xe ?_))
 cases h
 exact ⟨(), wi [] Z⟩
 replace h := ite_fb hb775 h
 refine aops_known 116 Z hb775 (xp (.ptr p759 4) Z Z (fa Z underlying23 Z sizeOf4 Z Z Z) (xg Z Z (op_load1 (i := 0) Z isAgg4 (tm Z) Z Z (xp (.bool (!r758.1.Grow)) Z Z (pe Z) (xp (.bool (!r758.1.Grow)) Z Z (pe Z) (xz (.bool (!r758.1.Grow)) Z (xy Z ?_)))))))
 rcases Bool.eq_false_or_eq_true (!r758.1.Grow) with hb777 | hb777
 replace h := ite_t hb777 h
 refine aops_known 122 Z hb777 ?_
 obtain ⟨r778, r778e, h⟩ := bind_some h
 refine xg Z Z (op_call (vs := []) (H := []) Z call7 trivial (List.Perm.refl _) (mewslaw28.alive.ok r778e) ?_)
 rintro _ _ ⟨rfl, rfl⟩
 refine xz (.bool r778) Z (xy Z (xe ?_))
 cases h
 exact ⟨(), wi [] Z⟩
 replace h := ite_fb hb777 h
 refine aops_known 122 Z hb777 (xu Z (xz (.bool false) Z (xy Z (xe ?_))))
 cases h
 exact ⟨(), wi [] Z⟩
 replace h := ite_f (dec_f hb774) h
 refine aops_known 113 Z hb774 (xu Z (xu Z (xu Z (xv Z Z (xv Z Z (xv Z Z (xu Z (xz (.bool false) Z (xy Z ?_)))))))))
 refine xu Z (xz (.bool false) Z (xy Z (xe ?_)))
 cases h
 exact ⟨(), wi [] Z⟩
 replace h := ite_f (dec_f hb773) h
 refine aops_known 108 Z hb773 (xu Z (xu Z (xu Z (xz (.bool false) Z (xy Z (xu Z (xu Z (xu Z (xv Z Z ?_)))))))))
 refine xv Z Z (xv Z Z (xu Z (xz (.bool false) Z (xy Z (xu Z (xz (.bool false) Z (xy Z (xe ?_))))))))
 cases h
 exact ⟨(), wi [] Z⟩
 replace h := ite_f (dec_f hb772) h
 refine aops_known 103 Z hb772 (xu Z (xu Z (xu Z (xz (.bool false) Z (xy Z (xu Z (xu Z (xu Z (xz (.bool false) Z ?_)))))))))
 refine xy Z (xu Z (xu Z (xu Z (xv Z Z (xv Z Z (xv Z Z (xu Z (xz (.bool false) Z (xy Z ?_)))))))))
 refine xu Z (xz (.bool false) Z (xy Z (xe ?_)))
 cases h
 exact ⟨(), wi [] Z⟩
 replace h := ite_fb hb771 h
 refine aops_known 97 Z hb771 (xu Z (xu Z (xu Z (xu Z (xz (.bool false) Z (xy Z (xu Z (xu Z (xu Z ?_)))))))))
 refine xz (.bool false) Z (xy Z (xu Z (xu Z (xu Z (xz (.bool false) Z (xy Z (xu Z (xu Z (xu Z ?_)))))))))
 refine xv Z Z (xv Z Z (xv Z Z (xu Z (xz (.bool false) Z (xy Z (xu Z (xz (.bool false) Z (xy Z (xe ?_)))))))))
 cases h
 exact ⟨(), wi [] Z⟩
 intro _
 have h := h769
 refine aw_ret ?_
 cases h
 exact rt ⟨Z, Z⟩ Z w0
 have h := s779e
 refine xr (xy Z (xa (.i (r391.length : Int)) Z (pu_lenM Z underlying31 (tm Z)) (xz (.i 0) Z (xe (aw_block (aw_while (σ := mewslaw28.TableAll.S0) (ν := Unit) (mewslaw28.TableAll.body0 r391) (fun s467 v => [(0, .i at_), (1, .i turn), (5, .sl .no 1 (m2L r391)), (25, .i (r391.length : Int)), (26, .i s467.t26)]) (fun s467 v => []) ⟨0⟩ () _ h (wi [] Z) ?_))))))
 rintro s467 _ x469 h hx468
 unfold mewslaw28.TableAll.body0 at h
 refine xr (xz (bd (s467.t26 < (r391.length : Int))) Z (xe (aw_seq (cd h Z (fun _ h => ?_) (fun _ h => ?_)))))
 refine aw_skip (aw_seq (aw_block (xr (xy Z (xy Z (xe ?_))))))
 obtain ⟨s474, s474e, h475⟩ := bind_some h
 refine aw_meet (ν := Unit) (fun v => [(0, .i at_), (1, .i turn), (5, .sl .no 1 (m2L r391)), (25, .i (r391.length : Int)), (26, .i s467.t26), (42, .bool s474)]) (fun v => []) ?_ ?_
 have h := s474e
 rcases Bool.eq_false_or_eq_true (decide (0 < s467.t26)) with hb477 | hb477
 replace h := ite_t (dec_t hb477) h
 obtain ⟨c478, h⟩ := need_of h
 obtain ⟨c479, h⟩ := need_of h
 refine aw_planR (by decide +kernel) [[], [], [], [], [], [], [], [], [], [], [], [], [], []] [] [] [.i s467.t26, bd (0 < s467.t26), .bool true, .sl .no 1 (m2L r391), .i s467.t26, .i (w64 (s467.t26 - 1)), .vptr [.str (ix r391 (w64 (s467.t26 - 1)))], .str (ix r391 (w64 (s467.t26 - 1))), .sl .no 1 (m2L r391), .i s467.t26, .vptr [.str (ix r391 s467.t26)], .str (ix r391 s467.t26), .bool (!strLt (ix r391 (w64 (s467.t26 - 1))) (ix r391 s467.t26)), .bool (!strLt (ix r391 (w64 (s467.t26 - 1))) (ix r391 s467.t26))] (by decide +kernel) Z Z ?_ ?_
 exact ⟨ym Z Z Z, yp Z (pe Z), AStepG.cast (ym Z Z Z) (congrArg AV.bool hb477), yq Z Z (pe Z), yq Z Z (pe Z), yq Z Z (pe Z), yq Z Z (pu_indexAddrM Z underlying31 sizeOf9 (tm Z) (tm Z) c478 Z), yg Z Z (op_loadV1 Z isAgg9 (tm Z) Z ⟨Z, Z⟩), yq Z Z (pe Z), yq Z Z (pe Z), yq Z Z (pu_indexAddrM Z underlying31 sizeOf9 (tm Z) (tm Z) c479 Z), yg Z Z (op_loadV1 Z isAgg9 (tm Z) Z ⟨Z, Z⟩), yq Z Z (pu_str (v := .bool (!strLt (ix r391 (w64 (s467.t26 - 1))) (ix r391 s467.t26))) Z Z (tm Z) (tm Z) Z), yp Z (pe Z), trivial⟩
 cases h
 exact ⟨(), wi [] Z⟩
 replace h := ite_f (dec_f hb477) h
 refine aw_planR (by decide +kernel) [[], [], [], [], [], [], [], [], [], [], [], [], [], []] [] [] [.i s467.t26, bd (0 < s467.t26), .bool false, .lit undef, .lit undef, .lit undef, .lit undef, .lit undef, .lit undef, .lit undef, .lit undef, .lit undef, .lit undef, .bool false] (by decide +kernel) Z Z ?_ ?_
 exact ⟨ym Z Z Z, yp Z (pe Z), AStepG.cast (ym Z Z Z) (congrArg AV.bool hb477), yx Z Z Z, yx Z Z Z, yx Z Z Z, yx Z Z Z, yx Z Z Z, yx Z Z Z, yx Z Z Z, yx Z Z Z, yx Z Z Z, yx Z Z Z, yp Z (pe Z), trivial⟩
 cases h
 exact ⟨(), wi [] Z⟩
 intro _
 have h := h475
 refine aw_cond (b := s474) (tm Z) (fun hb480 => ?_) (fun hb480 => ?_)
 replace h := ite_t hb480 h
 refine xr (xz (.bool false) Z (xe (aw_ret ?_)))
 cases h
 cases congrArg some (hx468 _ rfl)
 cases onSum_inr h441
 exact rt ⟨Z, Z⟩ Z w0
 replace h := ite_fb hb480 h
 refine aw_skip (aw_region (xz (.i (w64 (s467.t26 + 1))) Z (xy Z (xe ?_))))
 cases h
 exact ⟨_, (), Z, wi [] Z⟩
 refine aw_exit ?_
 cases h
 have h := congrArg some (hx468 _ rfl)
 exact ⟨(), (), (some_of h).symm, wi [] Z⟩

end Go.Pu
