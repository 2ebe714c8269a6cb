/- Printed by lift.py: the functions come to them. -/
import Derived.Test.YtakmcdnailmhlaaGreatLiftWS
import Derived.Test.YtakmcdnailmhlaaGreatPSK4
set_option maxRecDepth 100000
set_option maxHeartbeats 0
namespace Go.Pu
open Go.Lift Go.Proofs.Tryz Go.RowKit Go.Proofs

theorem mewsref04.Split.ok {s_ r} (h : mewsref04.Split s_ = some r) : Sp prog 68 [.str s_] [] (fun v H => ∃ n0, v = .tup [.sl (.own n0) 1 (m3L r.1), .bool r.2] ∧ H = [(n0, .spare)]) := by
 unfold mewsref04.Split at h
 refine sb [.tmp 2, .tmp 3] func68 Z (xr (xa (.sl .full 1 e2L) Z (pu_assign Z (AEv.nil 1 (by decide))) (xz (.bool false) Z (xe (xr (xa (.sl .full 1 e2L) Z (pu_assign Z (AEv.nil 1 (by decide))) (xe ?_)))))))
 refine xr (xz (.int .u8 0) Z (xe (xr (xz (.bool false) Z (xz (.bool false) Z (xe (aw_seq ?_)))))))
 refine aw_region (xa (.str nS) Z (pu_assign Z (AEv.const Z)) (xe ?_))
 obtain ⟨s3254, s3254e, h2434⟩ := bind_some h
 refine aw_join (σ := (List (List UInt8)) × Int × Bool × (List UInt8)) (ν := Nat) (fun u v => [(4, .sl (.own v) 1 (m3L u.1)), (5, .int .u8 u.2.1), (6, .bool u.2.2.1), (8, .str u.2.2.2)]) (fun u v => [(v, .spare)]) (fun u => s3254 = .inl u) ?_ ?_
 intro s2432
 intro n2433
 rintro rfl
 have h := onSum_inl h2434
 refine aw_seq (xr (xy Z (xz (bn (s2432.2.1 = 0)) Z (xe (cn h Z (fun _ h => ?_) (fun _ h => ?_))))))
 refine xr (xa (.sl .full 1 e2L) Z (pu_assign Z (AEv.nil 1 (by decide))) (xz (.bool false) Z (xe (aw_claim 2 (tm Z) fun t3242 => (aw_ret ?_)))))
 cases h
 exact rt ⟨t3242, Z, Z⟩ Z (wi [0] Z)
 refine aw_skip ?_
 obtain ⟨s3246, s3246e, h3248⟩ := bind_some h
 refine aw_meet (ν := Nat) (fun v => [(4, .sl (.own v) 1 (m3L s3246))]) (fun v => [(v, .spare)]) ?_ ?_
 have h := s3246e
 refine xr (xy Z (xe (cb h Z (fun _ h => ?_) (fun _ h => ?_))))
 refine aw_region (xy Z (xy Z (xc Z (op_buildSlice (xs := ([s2432.2.2.2] : List (List UInt8)).map AV.str) (aparts := [(0, .str s2432.2.2.2)]) Z underlying71 sizeOf9 zeroValue9 (by decide) (by decide) ⟨Z, (tm Z), trivial⟩ Z Z Z ?_))))
 obtain ⟨c3250, h⟩ := need_of h
 refine xc Z (op_appendOM (q := 0) Z underlying71 underlying71 (.inl Z) typeInfo9 Z Z Z (by decide) (tm Z) Z (given_sl (tm Z)) c3250 ?_)
 intro t3251
 refine xy Z (xe ?_)
 cases h
 exact ⟨t3251, wi [0] Z⟩
 refine aw_skip ?_
 cases h
 exact ⟨n2433, wi [0] Z⟩
 intro n3247
 have h := h3248
 refine xr (xy Z (xy Z (xz (.bool true) Z (xe (aw_ret ?_)))))
 cases h
 exact rt ⟨n3247, Z, Z⟩ Z (wi [0] Z)
 have h := s3254e
 refine xr (xz (.i 0) Z (xe (aw_block (aw_claim 4 (tm Z) fun t3241 => (aw_while (σ := mewsref04.Split.S0) (ν := Nat) (mewsref04.Split.body0 s_) (fun s3033 v => [(0, .str s_), (4, .sl (.own v) 1 (m3L s3033.out)), (5, .int .u8 s3033.in_), (6, .bool s3033.open_), (7, .bool s3033.closed), (8, .str s3033.now), (9, .i s3033.i)]) (fun s3033 v => [(v, .spare)]) ⟨([] : List (List UInt8)), 0, false, false, nS, 0⟩ t3241 _ h (wi [0] Z) ?_)))))
 rintro s3033 n3034 x3036 h hx3035
 unfold mewsref04.Split.body0 at h
 refine aw_seq (xr (xy Z (xy Z (xa (.i (s_.length : Int)) Z (pu_strLen Z underlying9 (tm Z)) (xz (bd (s3033.i < (s_.length : Int))) Z (xe (cd h Z (fun _ h => ?_) (fun _ h => ?_))))))))
 refine aw_skip ?_
 obtain ⟨s3239, s3239e, h3138⟩ := bind_some h
 refine aw_join (σ := (List (List UInt8)) × Int × Bool × Bool × (List UInt8) × Int) (ν := Nat) (fun u v => [(0, .str s_), (4, .sl (.own v) 1 (m3L u.1)), (5, .int .u8 u.2.1), (6, .bool u.2.2.1), (7, .bool u.2.2.2.1), (8, .str u.2.2.2.2.1), (9, .i u.2.2.2.2.2)]) (fun u v => [(v, .spare)]) (fun u => s3239 = .inl u) ?_ ?_
 intro s3136
 intro n3137
 rintro rfl
 have h := onSum_inl h3138
 refine aw_region (xy Z (xz (.i (w64 (s3136.2.2.2.2.2 + 1))) Z (xy Z (xe ?_))))
 cases h
 exact ⟨_, n3137, Z, wi [0] Z⟩
 have h := s3239e
 refine aw_block (xr (xy Z (xy Z ?_)))
 obtain ⟨c3140, h⟩ := need_of h
 refine xa (.int .u8 (bix s_ s3033.i)) Z (pu_strIdxM Z underlying9 (tm Z) (tm Z) c3140) (xy Z (xe ?_))
 obtain ⟨s3142, s3142e, h3143⟩ := letO_of h
 refine aw_meet (ν := Unit) (fun v => [(0, .str s_), (4, .sl (.own n3034) 1 (m3L s3033.out)), (5, .int .u8 s3033.in_), (6, .bool s3033.open_), (7, .bool s3033.closed), (8, .str s3033.now), (9, .i s3033.i), (10, .int .u8 (bix s_ s3033.i)), (11, .bool s3142)]) (fun v => [(n3034, .spare)]) ?_ ?_
 have h := s3142e.symm
 refine aw_region (xy Z (xz (bd ((bix s_ s3033.i) = 32)) Z (xy Z ?_)))
 rcases Bool.eq_false_or_eq_true (decide ((bix s_ s3033.i) = 32)) with hb3145 | hb3145
 replace h := ite_t (dec_t hb3145) h
 refine aops_known 23 Z hb3145 (xu Z (xu Z (xz (.bool true) Z (xy Z (xe ?_)))))
 subst h
 exact ⟨(), wi [0] Z⟩
 replace h := ite_f (dec_f hb3145) h
 refine aops_known 23 Z hb3145 (xq Z Z Z Z (xp (bd ((bix s_ s3033.i) = 9)) Z Z (pe Z) (xz (bd ((bix s_ s3033.i) = 9)) Z (xy Z (xe ?_)))))
 subst h
 exact ⟨(), wi [0] Z⟩
 intro _
 have h := h3143
 refine aw_seq ?_
 obtain ⟨s3147, s3147e, h3148⟩ := letO_of h
 refine aw_meet (ν := Unit) (fun v => [(0, .str s_), (4, .sl (.own n3034) 1 (m3L s3033.out)), (5, .int .u8 s3033.in_), (6, .bool s3033.open_), (8, .str s3033.now), (9, .i s3033.i), (10, .int .u8 (bix s_ s3033.i)), (11, .bool s3142), (31, .bool s3147)]) (fun v => [(n3034, .spare)]) ?_ ?_
 have h := s3147e.symm
 refine aw_region (xy Z (xy Z ?_))
 rcases Bool.eq_false_or_eq_true s3033.closed with hb3150 | hb3150
 replace h := ite_t hb3150 h
 refine aops_known 28 Z hb3150 (xq Z Z Z Z (xp (.bool (!s3142)) Z Z (pe Z) (xz (.bool (!s3142)) Z (xe ?_))))
 subst h
 exact ⟨(), wi [0] Z⟩
 replace h := ite_fb hb3150 h
 refine aops_known 28 Z hb3150 (xu Z (xu Z (xz (.bool false) Z (xe ?_))))
 subst h
 exact ⟨(), wi [0] Z⟩
 intro _
 have h := h3148
 refine aw_cond (b := s3147) (tm Z) (fun hb3238 => ?_) (fun hb3238 => ?_)
 replace h := ite_t hb3238 h
 refine xr (xa (.sl .full 1 e2L) Z (pu_assign Z (AEv.nil 1 (by decide))) (xz (.bool false) Z (xe (aw_claim 2 (tm Z) fun t3151 => (aw_ret ?_)))))
 cases h
 cases onSum_inr h3138
 cases congrArg some (hx3035 _ rfl)
 cases onSum_inr h2434
 exact rt ⟨t3151, Z, Z⟩ Z (wi [0] Z)
 replace h := ite_fb hb3238 h
 refine aw_skip (xr (xz (.bool false) Z (xe (aw_block ?_))))
 obtain ⟨s3153, s3153e, h3154⟩ := letO_of h
 refine aw_meet (ν := Unit) (fun v => [(0, .str s_), (4, .sl (.own n3034) 1 (m3L s3033.out)), (5, .int .u8 s3033.in_), (6, .bool s3033.open_), (7, .bool false), (8, .str s3033.now), (9, .i s3033.i), (10, .int .u8 (bix s_ s3033.i)), (39, .bool s3153)]) (fun v => [(n3034, .spare)]) ?_ ?_
 have h := s3153e.symm
 refine aw_region (xy Z (xz (bd (s3033.in_ = 0)) Z (xy Z ?_)))
 rcases Bool.eq_false_or_eq_true (decide (s3033.in_ = 0)) with hb3156 | hb3156
 replace h := ite_t (dec_t hb3156) h
 refine aops_known 42 Z hb3156 (xq Z Z Z Z (xz (.bool s3142) Z (xy Z (xe ?_))))
 subst h
 exact ⟨(), wi [0] Z⟩
 replace h := ite_f (dec_f hb3156) h
 refine aops_known 42 Z hb3156 (xu Z (xz (.bool false) Z (xy Z (xe ?_))))
 subst h
 exact ⟨(), wi [0] Z⟩
 intro _
 have h := h3154
 refine aw_cond (b := s3153) (tm Z) (fun hb3237 => ?_) (fun hb3237 => ?_)
 replace h := ite_t hb3237 h
 obtain ⟨s3160, s3160e, h3162⟩ := bind_some h
 refine aw_meet (ν := Nat) (fun v => [(0, .str s_), (4, .sl (.own v) 1 (m3L s3160)), (5, .int .u8 s3033.in_), (7, .bool false), (9, .i s3033.i)]) (fun v => [(v, .spare)]) ?_ ?_
 have h := s3160e
 refine xr (xy Z (xe (cb h Z (fun _ h => ?_) (fun _ h => ?_))))
 refine aw_region (xy Z (xy Z (xc Z (op_buildSlice (xs := ([s3033.now] : List (List UInt8)).map AV.str) (aparts := [(0, .str s3033.now)]) Z underlying71 sizeOf9 zeroValue9 (by decide) (by decide) ⟨Z, (tm Z), trivial⟩ Z Z Z ?_))))
 obtain ⟨c3164, h⟩ := need_of h
 refine xc Z (op_appendOM (q := 0) Z underlying71 underlying71 (.inl Z) typeInfo9 Z Z Z (by decide) (tm Z) Z (given_sl (tm Z)) c3164 ?_)
 intro t3165
 refine xy Z (xe ?_)
 cases h
 exact ⟨t3165, wi [0] Z⟩
 refine aw_skip ?_
 cases h
 exact ⟨n3034, wi [0] Z⟩
 intro n3161
 have h := h3162
 refine aw_region (xz (.bool false) Z (xa (.str nS) Z (pu_assign Z (AEv.const Z)) (xe ?_)))
 exact ⟨(s3160, s3033.in_, false, false, nS, s3033.i), n3161, (some_of h).symm, wi [0] Z⟩
 replace h := ite_fb hb3237 h
 obtain ⟨s3169, s3169e, h3170⟩ := letO_of h
 refine aw_meet (ν := Unit) (fun v => [(0, .str s_), (4, .sl (.own n3034) 1 (m3L s3033.out)), (5, .int .u8 s3033.in_), (6, .bool s3033.open_), (7, .bool false), (8, .str s3033.now), (9, .i s3033.i), (10, .int .u8 (bix s_ s3033.i)), (50, .bool s3169)]) (fun v => [(n3034, .spare)]) ?_ ?_
 have h := s3169e.symm
 refine aw_region (xy Z (xz (bd (s3033.in_ = 0)) Z (xy Z ?_)))
 rcases Bool.eq_false_or_eq_true (decide (s3033.in_ = 0)) with hb3172 | hb3172
 replace h := ite_t (dec_t hb3172) h
 refine aops_known 53 Z hb3172 (xq Z Z Z Z (xp (bd ((bix s_ s3033.i) = 34)) Z Z (pe Z) (xq Z Z Z Z ?_)))
 rcases Bool.eq_false_or_eq_true (decide ((bix s_ s3033.i) = 34)) with hb3173 | hb3173
 replace h := ite_t (dec_t hb3173) h
 refine aops_known 56 Z hb3173 (xu Z (xu Z (xp (.bool true) Z Z (pe Z) (xz (.bool true) Z (xy Z (xe ?_))))))
 subst h
 exact ⟨(), wi [0] Z⟩
 replace h := ite_f (dec_f hb3173) h
 refine aops_known 56 Z hb3173 (xq Z Z Z Z (xp (bd ((bix s_ s3033.i) = 39)) Z Z (pe Z) (xp (bd ((bix s_ s3033.i) = 39)) Z Z (pe Z) (xz (bd ((bix s_ s3033.i) = 39)) Z (xy Z (xe ?_))))))
 subst h
 exact ⟨(), wi [0] Z⟩
 replace h := ite_f (dec_f hb3172) h
 refine aops_known 53 Z hb3172 (xu Z (xu Z (xu Z (xv Z Z (xv Z Z (xu Z (xz (.bool false) Z (xy Z (xe ?_)))))))))
 subst h
 exact ⟨(), wi [0] Z⟩
 intro _
 have h := h3170
 refine aw_cond (b := s3169) (tm Z) (fun hb3236 => ?_) (fun hb3236 => ?_)
 replace h := ite_t hb3236 h
 refine aw_region (xy Z (xy Z (xz (.bool true) Z (xe ?_))))
 exact ⟨(s3033.out, bix s_ s3033.i, true, false, s3033.now, s3033.i), n3034, (some_of h).symm, wi [0] Z⟩
 replace h := ite_fb hb3236 h
 refine xr (xy Z (xz (bd (s3033.in_ = 0)) Z (xy Z (xe (cd h Z (fun _ h => ?_) (fun _ h => ?_))))))
 refine xr (xy Z (xy Z (xy Z (xy Z (xz (.i (w64 (s3033.i + 1))) Z ?_)))))
 obtain ⟨c3174, h⟩ := need_of h
 refine xa (.str (sub s_ s3033.i (w64 (s3033.i + 1)))) Z (pu_strSliceM Z underlying9 (tm Z) ⟨_, (tm Z)⟩ ⟨_, (tm Z)⟩ c3174) ?_
 obtain ⟨c3175, h⟩ := need_of h
 refine xa (.str (s3033.now ++ (sub s_ s3033.i (w64 (s3033.i + 1))))) Z (pu_strAdd Z (tm Z) (tm Z) c3175) (xy Z (xe (aw_region (xz (.bool true) Z (xe ?_)))))
 exact ⟨(s3033.out, s3033.in_, true, false, s3033.now ++ (sub s_ s3033.i (w64 (s3033.i + 1))), s3033.i), n3034, (some_of h).symm, wi [0] Z⟩
 refine xr (xy Z (xy Z (xz (bd ((bix s_ s3033.i) = s3033.in_)) Z (xy Z (xe (cd h Z (fun _ h => ?_) (fun _ h => ?_)))))))
 refine aw_region (xz (.int .u8 0) Z (xz (.bool true) Z (xe ?_)))
 exact ⟨(s3033.out, 0, s3033.open_, true, s3033.now, s3033.i), n3034, (some_of h).symm, wi [0] Z⟩
 obtain ⟨s3186, s3186e, h3187⟩ := bind_some h
 refine aw_meet (ν := Unit) (fun v => [(0, .str s_), (4, .sl (.own n3034) 1 (m3L s3033.out)), (5, .int .u8 s3033.in_), (6, .bool s3033.open_), (7, .bool false), (8, .str s3033.now), (9, .i s3033.i), (10, .int .u8 (bix s_ s3033.i)), (76, .bool s3186)]) (fun v => [(n3034, .spare)]) ?_ ?_
 have h := s3186e
 refine aw_region (xy Z (xz (bd ((bix s_ s3033.i) = 92)) Z (xy Z ?_)))
 rcases Bool.eq_false_or_eq_true (decide ((bix s_ s3033.i) = 92)) with hb3189 | hb3189
 replace h := ite_t (dec_t hb3189) h
 refine aops_known 79 Z hb3189 (xq Z Z Z Z (xp (bd (s3033.in_ = 34)) Z Z (pe Z) (xz (bd (s3033.in_ = 34)) Z (xy Z ?_))))
 rcases Bool.eq_false_or_eq_true (decide (s3033.in_ = 34)) with hb3190 | hb3190
 replace h := ite_t (dec_t hb3190) h
 refine aops_known 83 Z hb3190 (xq Z Z Z Z (xp (.i (w64 (s3033.i + 3))) Z Z (pe Z) (xq Z Z Z Z (xp (.i (s_.length : Int)) Z Z (pu_strLen Z underlying9 (tm Z)) (xp (bd ((w64 (s3033.i + 3)) < (s_.length : Int))) Z Z (pe Z) (xz (bd ((w64 (s3033.i + 3)) < (s_.length : Int))) Z (xy Z ?_)))))))
 rcases Bool.eq_false_or_eq_true (decide ((w64 (s3033.i + 3)) < (s_.length : Int))) with hb3191 | hb3191
 replace h := ite_t (dec_t hb3191) h
 refine aops_known 90 Z hb3191 (xq Z Z Z Z (xq Z Z Z Z (xp (.i (w64 (s3033.i + 1))) Z Z (pe Z) ?_)))
 obtain ⟨c3192, h⟩ := need_of h
 refine xp (.int .u8 (bix s_ (w64 (s3033.i + 1)))) Z Z (pu_strIdxM Z underlying9 (tm Z) (tm Z) c3192) (xp (bd ((bix s_ (w64 (s3033.i + 1))) = 120)) Z Z (pe Z) (xz (bd ((bix s_ (w64 (s3033.i + 1))) = 120)) Z (xy Z ?_)))
 rcases Bool.eq_false_or_eq_true (decide ((bix s_ (w64 (s3033.i + 1))) = 120)) with hb3193 | hb3193
 replace h := ite_t (dec_t hb3193) h
 refine aops_known 97 Z hb3193 (xq Z Z Z Z (xq Z Z Z Z (xp (.i (w64 (s3033.i + 2))) Z Z (pe Z) ?_)))
 obtain ⟨c3194, h⟩ := need_of h
 refine xp (.int .u8 (bix s_ (w64 (s3033.i + 2)))) Z Z (pu_strIdxM Z underlying9 (tm Z) (tm Z) c3194) ?_
 obtain ⟨r3195, r3195e, h⟩ := bind_some h
 refine xg Z Z (op_call (vs := [.int .u8 (bix s_ (w64 (s3033.i + 2)))]) (H := []) Z call83 ⟨(tm Z), trivial⟩ (List.Perm.refl _) (mewsref04.digit.ok r3195e) ?_)
 rintro _ _ ⟨rfl, rfl⟩
 refine xp (bd (r3195 < 16)) Z Z (pe Z) (xz (bd (r3195 < 16)) Z (xy Z ?_))
 rcases Bool.eq_false_or_eq_true (decide (r3195 < 16)) with hb3196 | hb3196
 replace h := ite_t (dec_t hb3196) h
 refine aops_known 105 Z hb3196 (xq Z Z Z Z (xq Z Z Z Z (xp (.i (w64 (s3033.i + 3))) Z Z (pe Z) ?_)))
 obtain ⟨c3197, h⟩ := need_of h
 refine xp (.int .u8 (bix s_ (w64 (s3033.i + 3)))) Z Z (pu_strIdxM Z underlying9 (tm Z) (tm Z) c3197) ?_
 obtain ⟨r3198, r3198e, h⟩ := bind_some h
 refine xg Z Z (op_call (vs := [.int .u8 (bix s_ (w64 (s3033.i + 3)))]) (H := []) Z call83 ⟨(tm Z), trivial⟩ (List.Perm.refl _) (mewsref04.digit.ok r3198e) ?_)
 rintro _ _ ⟨rfl, rfl⟩
 refine xp (bd (r3198 < 16)) Z Z (pe Z) (xz (bd (r3198 < 16)) Z (xy Z (xe ?_)))
 cases h
 exact ⟨(), wi [0] Z⟩
 replace h := ite_f (dec_f hb3196) h
 refine aops_known 105 Z hb3196 (xu Z (xu Z (xu Z (xu Z (xu Z (xu Z (xz (.bool false) Z (xy Z (xe ?_)))))))))
 cases h
 exact ⟨(), wi [0] Z⟩
 replace h := ite_f (dec_f hb3193) h
 refine aops_known 97 Z hb3193 (xu Z (xu Z (xu Z (xu Z (xu Z (xu Z (xz (.bool false) Z (xy Z (xu Z ?_)))))))))
 refine xu Z (xu Z (xu Z (xu Z (xu Z (xz (.bool false) Z (xy Z (xe ?_)))))))
 cases h
 exact ⟨(), wi [0] Z⟩
 replace h := ite_f (dec_f hb3191) h
 refine aops_known 90 Z hb3191 (xu Z (xu Z (xu Z (xu Z (xu Z (xz (.bool false) Z (xy Z (xu Z (xu Z ?_)))))))))
 refine xu Z (xu Z (xu Z (xu Z (xz (.bool false) Z (xy Z (xu Z (xu Z (xu Z (xu Z ?_)))))))))
 refine xu Z (xu Z (xz (.bool false) Z (xy Z (xe ?_))))
 cases h
 exact ⟨(), wi [0] Z⟩
 replace h := ite_f (dec_f hb3190) h
 refine aops_known 83 Z hb3190 (xu Z (xu Z (xu Z (xu Z (xu Z (xz (.bool false) Z (xy Z (xu Z (xu Z ?_)))))))))
 refine xu Z (xu Z (xu Z (xz (.bool false) Z (xy Z (xu Z (xu Z (xu Z (xu Z (xu Z ?_)))))))))
 refine xu Z (xz (.bool false) Z (xy Z (xu Z (xu Z (xu Z (xu Z (xu Z (xu Z (xz (.bool false) Z ?_)))))))))
 refine xy Z (xe ?_)
 cases h
 exact ⟨(), wi [0] Z⟩
 replace h := ite_f (dec_f hb3189) h
 refine aops_known 79 Z hb3189 (xu Z (xu Z (xz (.bool false) Z (xy Z (xu Z (xu Z (xu Z (xu Z (xu Z ?_)))))))))
 refine xz (.bool false) Z (xy Z (xu Z (xu Z (xu Z (xu Z (xu Z (xz (.bool false) Z (xy Z (xu Z ?_)))))))))
 refine xu Z (xu Z (xu Z (xu Z (xu Z (xz (.bool false) Z (xy Z (xu Z (xu Z (xu Z ?_)))))))))
 refine xu Z (xu Z (xu Z (xz (.bool false) Z (xy Z (xe ?_)))))
 cases h
 exact ⟨(), wi [0] Z⟩
 intro _
 have h := h3187
 refine aw_cond (b := s3186) (tm Z) (fun hb3233 => ?_) (fun hb3233 => ?_)
 replace h := ite_t hb3233 h
 refine aw_seq ?_
 obtain ⟨c3199, h⟩ := need_of h
 obtain ⟨r3200, r3200e, h⟩ := bind_some h
 obtain ⟨c3201, h⟩ := need_of h
 obtain ⟨r3202, r3202e, h⟩ := bind_some h
 obtain ⟨c3203, h⟩ := need_of h
 obtain ⟨c3204, h⟩ := need_of h
 obtain ⟨x3205, x3205e, h⟩ := letO_of h
 refine aw_planR (by decide +kernel) [[], [], [], [], [], [], [], [], [], [], [], [], [], [], [], [], [], []] [[]] [[[(n3034, .spare)]]] [.str s3033.now, .str s_, .i s3033.i, .i (w64 (s3033.i + 2)), .int .u8 (bix s_ (w64 (s3033.i + 2))), .i r3200, .i (w64 (16 * r3200)), .str s_, .i s3033.i, .i (w64 (s3033.i + 3)), .int .u8 (bix s_ (w64 (s3033.i + 3))), .i r3202, .i (w64 ((w64 (16 * r3200)) + r3202)), .int .u8 (IntKind.wrap .u8 (w64 ((w64 (16 * r3200)) + r3202))), .sl .full 1 ([u8 (IntKind.wrap .u8 (w64 ((w64 (16 * r3200)) + r3202)))].map byteAV), .str [u8 (IntKind.wrap .u8 (w64 ((w64 (16 * r3200)) + r3202)))], .str x3205, .str x3205] (by decide +kernel) Z Z ?_ ?_
 exact ⟨ym Z Z Z, ym Z Z Z, ym Z Z Z, yp Z (pe Z), yp Z (pu_strIdxM Z underlying9 (tm Z) (tm Z) c3199), stepg_plain Z (op_call (vs := [.int .u8 (bix s_ (w64 (s3033.i + 2)))]) (H := []) Z call83 ⟨(tm Z), trivial⟩ (R := []) (List.Perm.refl _) (mewsref04.digit.ok r3200e) (by rintro _ _ ⟨rfl, rfl⟩; exact ⟨Z, Z⟩)), yp Z (pe Z), ym Z Z Z, ym Z Z Z, yp Z (pe Z), yp Z (pu_strIdxM Z underlying9 (tm Z) (tm Z) c3201), stepg_plain Z (op_call (vs := [.int .u8 (bix s_ (w64 (s3033.i + 3)))]) (H := []) Z call83 ⟨(tm Z), trivial⟩ (R := []) (List.Perm.refl _) (mewsref04.digit.ok r3202e) (by rintro _ _ ⟨rfl, rfl⟩; exact ⟨Z, Z⟩)), yp Z (pe Z), yp Z (pu_conv Z underlying3 underlying5 (tm Z)), stepg_plain Z (op_buildSlice (xs := ([u8 (IntKind.wrap .u8 (w64 ((w64 (16 * r3200)) + r3202)))] : List UInt8).map byteAV) (aparts := [(0, byteAV (u8 (IntKind.wrap .u8 (w64 ((w64 (16 * r3200)) + r3202)))))]) Z underlying126 sizeOf5 zeroValue5 (by decide) (by decide) ⟨Z, (AEv.le (tm Z) (AV.Le.of_eq (byteAV_u8 c3203.1 c3203.2).symm)), trivial⟩ Z Z Z ⟨Z, Z⟩), stepg_plain Z (op_bytesStr Z underlying126 underlying5 underlying9 (tm Z) ⟨Z, Z⟩), yp Z (APure.eq (pu_strAdd Z (tm Z) (tm Z) c3204) (congrArg (AV.str) x3205e.symm)), ym Z Z Z, trivial⟩
 refine aw_region (xy Z (xz (.i (w64 (s3033.i + 3))) Z (xy Z (xe ?_))))
 exact ⟨(s3033.out, s3033.in_, s3033.open_, false, x3205, w64 (s3033.i + 3)), n3034, (some_of h).symm, wi [0] Z⟩
 replace h := ite_fb hb3233 h
 obtain ⟨s3208, s3208e, h3209⟩ := letO_of h
 refine aw_meet (ν := Unit) (fun v => [(0, .str s_), (4, .sl (.own n3034) 1 (m3L s3033.out)), (5, .int .u8 s3033.in_), (6, .bool s3033.open_), (7, .bool false), (8, .str s3033.now), (9, .i s3033.i), (10, .int .u8 (bix s_ s3033.i)), (132, .bool s3208)]) (fun v => [(n3034, .spare)]) ?_ ?_
 have h := s3208e.symm
 refine aw_region (xy Z (xz (bd ((bix s_ s3033.i) = 92)) Z (xy Z ?_)))
 rcases Bool.eq_false_or_eq_true (decide ((bix s_ s3033.i) = 92)) with hb3211 | hb3211
 replace h := ite_t (dec_t hb3211) h
 refine aops_known 135 Z hb3211 (xq Z Z Z Z (xp (bd (s3033.in_ = 34)) Z Z (pe Z) (xz (bd (s3033.in_ = 34)) Z (xy Z ?_))))
 rcases Bool.eq_false_or_eq_true (decide (s3033.in_ = 34)) with hb3212 | hb3212
 replace h := ite_t (dec_t hb3212) h
 refine aops_known 139 Z hb3212 (xq Z Z Z Z (xp (.i (w64 (s3033.i + 1))) Z Z (pe Z) (xq Z Z Z Z (xp (.i (s_.length : Int)) Z Z (pu_strLen Z underlying9 (tm Z)) (xp (bd ((w64 (s3033.i + 1)) < (s_.length : Int))) Z Z (pe Z) (xz (bd ((w64 (s3033.i + 1)) < (s_.length : Int))) Z (xy Z (xe ?_))))))))
 subst h
 exact ⟨(), wi [0] Z⟩
 replace h := ite_f (dec_f hb3212) h
 refine aops_known 139 Z hb3212 (xu Z (xu Z (xu Z (xu Z (xu Z (xz (.bool false) Z (xy Z (xe ?_))))))))
 subst h
 exact ⟨(), wi [0] Z⟩
 replace h := ite_f (dec_f hb3211) h
 refine aops_known 135 Z hb3211 (xu Z (xu Z (xz (.bool false) Z (xy Z (xu Z (xu Z (xu Z (xu Z (xu Z ?_)))))))))
 refine xz (.bool false) Z (xy Z (xe ?_))
 subst h
 exact ⟨(), wi [0] Z⟩
 intro _
 have h := h3209
 refine aw_cond (b := s3208) (tm Z) (fun hb3232 => ?_) (fun hb3232 => ?_)
 replace h := ite_t hb3232 h
 refine xr (xy Z (xy Z (xy Z (xz (.i (w64 (s3033.i + 1))) Z ?_))))
 obtain ⟨c3213, h⟩ := need_of h
 refine xa (.int .u8 (bix s_ (w64 (s3033.i + 1)))) Z (pu_strIdxM Z underlying9 (tm Z) (tm Z) c3213) ?_
 obtain ⟨r3214, r3214e, h⟩ := bind_some h
 refine xo (mewsref04.turned.ok r3214e) call84 Z ?_
 obtain ⟨c3215, h⟩ := need_of h
 refine xc Z (op_buildSlice (xs := ([u8 r3214] : List UInt8).map byteAV) (aparts := [(0, byteAV (u8 r3214))]) Z underlying126 sizeOf5 zeroValue5 (by decide) (by decide) ⟨Z, (AEv.le (tm Z) (AV.Le.of_eq (byteAV_u8 c3215.1 c3215.2).symm)), trivial⟩ Z Z Z (xc Z (op_bytesStr Z underlying126 underlying5 underlying9 (tm Z) ?_)))
 obtain ⟨c3216, h⟩ := need_of h
 refine xa (.str (s3033.now ++ [u8 r3214])) Z (pu_strAdd Z (tm Z) (tm Z) c3216) (xy Z (xe (aw_region (xy Z (xz (.i (w64 (s3033.i + 1))) Z (xy Z (xe ?_)))))))
 exact ⟨(s3033.out, s3033.in_, s3033.open_, false, s3033.now ++ [u8 r3214], w64 (s3033.i + 1)), n3034, (some_of h).symm, wi [0] Z⟩
 replace h := ite_fb hb3232 h
 obtain ⟨s3221, s3221e, h3222⟩ := bind_some h
 refine aw_meet (ν := Unit) (fun v => [(0, .str s_), (4, .sl (.own n3034) 1 (m3L s3033.out)), (5, .int .u8 s3033.in_), (6, .bool s3033.open_), (7, .bool false), (8, .str s3033.now), (9, .i s3033.i), (157, .bool s3221)]) (fun v => [(n3034, .spare)]) ?_ ?_
 have h := s3221e
 refine aw_region (xy Z (xz (bd ((bix s_ s3033.i) = 92)) Z (xy Z ?_)))
 rcases Bool.eq_false_or_eq_true (decide ((bix s_ s3033.i) = 92)) with hb3224 | hb3224
 replace h := ite_t (dec_t hb3224) h
 refine aops_known 160 Z hb3224 (xq Z Z Z Z (xp (bd (s3033.in_ = 39)) Z Z (pe Z) (xz (bd (s3033.in_ = 39)) Z (xy Z ?_))))
 rcases Bool.eq_false_or_eq_true (decide (s3033.in_ = 39)) with hb3225 | hb3225
 replace h := ite_t (dec_t hb3225) h
 refine aops_known 164 Z hb3225 (xq Z Z Z Z (xp (.i (w64 (s3033.i + 1))) Z Z (pe Z) (xq Z Z Z Z (xp (.i (s_.length : Int)) Z Z (pu_strLen Z underlying9 (tm Z)) (xp (bd ((w64 (s3033.i + 1)) < (s_.length : Int))) Z Z (pe Z) (xz (bd ((w64 (s3033.i + 1)) < (s_.length : Int))) Z (xy Z ?_)))))))
 rcases Bool.eq_false_or_eq_true (decide ((w64 (s3033.i + 1)) < (s_.length : Int))) with hb3226 | hb3226
 replace h := ite_t (dec_t hb3226) h
 refine aops_known 171 Z hb3226 (xq Z Z Z Z (xq Z Z Z Z (xp (.i (w64 (s3033.i + 1))) Z Z (pe Z) ?_)))
 obtain ⟨c3227, h⟩ := need_of h
 refine xp (.int .u8 (bix s_ (w64 (s3033.i + 1)))) Z Z (pu_strIdxM Z underlying9 (tm Z) (tm Z) c3227) (xp (bd ((bix s_ (w64 (s3033.i + 1))) = 39)) Z Z (pe Z) (xz (bd ((bix s_ (w64 (s3033.i + 1))) = 39)) Z (xy Z (xe ?_))))
 cases h
 exact ⟨(), wi [0] Z⟩
 replace h := ite_f (dec_f hb3226) h
 refine aops_known 171 Z hb3226 (xu Z (xu Z (xu Z (xu Z (xu Z (xz (.bool false) Z (xy Z (xe ?_))))))))
 cases h
 exact ⟨(), wi [0] Z⟩
 replace h := ite_f (dec_f hb3225) h
 refine aops_known 164 Z hb3225 (xu Z (xu Z (xu Z (xu Z (xu Z (xz (.bool false) Z (xy Z (xu Z (xu Z ?_)))))))))
 refine xu Z (xu Z (xu Z (xz (.bool false) Z (xy Z (xe ?_)))))
 cases h
 exact ⟨(), wi [0] Z⟩
 replace h := ite_f (dec_f hb3224) h
 refine aops_known 160 Z hb3224 (xu Z (xu Z (xz (.bool false) Z (xy Z (xu Z (xu Z (xu Z (xu Z (xu Z ?_)))))))))
 refine xz (.bool false) Z (xy Z (xu Z (xu Z (xu Z (xu Z (xu Z (xz (.bool false) Z (xy Z (xe ?_)))))))))
 cases h
 exact ⟨(), wi [0] Z⟩
 intro _
 have h := h3222
 refine aw_cond (b := s3221) (tm Z) (fun hb3231 => ?_) (fun hb3231 => ?_)
 replace h := ite_t hb3231 h
 refine xr (xy Z ?_)
 obtain ⟨c3228, h⟩ := need_of h
 refine xa (.str (s3033.now ++ [39])) Z (pu_strAdd Z (tm Z) (AEv.const Z) c3228) (xy Z (xe (aw_region (xy Z (xz (.i (w64 (s3033.i + 1))) Z (xy Z (xe ?_)))))))
 exact ⟨(s3033.out, s3033.in_, s3033.open_, false, s3033.now ++ [39], w64 (s3033.i + 1)), n3034, (some_of h).symm, wi [0] Z⟩
 replace h := ite_fb hb3231 h
 refine aw_region (xy Z (xy Z (xy Z (xy Z (xz (.i (w64 (s3033.i + 1))) Z ?_)))))
 obtain ⟨c3229, h⟩ := need_of h
 refine xa (.str (sub s_ s3033.i (w64 (s3033.i + 1)))) Z (pu_strSliceM Z underlying9 (tm Z) ⟨_, (tm Z)⟩ ⟨_, (tm Z)⟩ c3229) ?_
 obtain ⟨c3230, h⟩ := need_of h
 refine xa (.str (s3033.now ++ (sub s_ s3033.i (w64 (s3033.i + 1))))) Z (pu_strAdd Z (tm Z) (tm Z) c3230) (xy Z (xe ?_))
 exact ⟨(s3033.out, s3033.in_, s3033.open_, false, s3033.now ++ (sub s_ s3033.i (w64 (s3033.i + 1))), s3033.i), n3034, (some_of h).symm, wi [0] Z⟩
 refine aw_exit ?_
 cases h
 have h := congrArg some (hx3035 _ rfl)
 exact ⟨(s3033.out, s3033.in_, s3033.open_, s3033.now), n3034, (some_of h).symm, wi [0] Z⟩

theorem mewsref05.one.ok {s_ l r} (h : mewsref05.one s_ l = some r) : Sp prog 47 [.str s_, .agg [.i l.Args, .i l.Bulk, .i l.Line]] [] (fun v H => v = .tup [.agg [.str r.1.Rest, .sl .no 1 (m3L r.1.Args), .i r.1.Left, .i r.1.Size, .bool r.1.Body, .i r.1.Need, .i r.1.Dead], .i r.2] ∧ H = []) := by
 unfold mewsref05.one at h
 refine sb [.cell 4 74, .tmp 5] func47 Z (xr (xb [.i l.Args, .i l.Bulk, .i l.Line] Z fun p848 => xA (.agg [.str nS, .sl .full 1 e2L, .i 0, .i 0, .bool false, .i 0, .i 0]) zeroValue74 Z fun p849 => xz (.i 0) Z (xe ?_)))
 obtain ⟨s1694, s1694e, h1271⟩ := bind_some h
 refine aw_join (σ := Unit) (ν := Unit) (fun u v => [(0, .str s_), (3, .ptr p848 0), (4, .ptr p849 0)]) (fun u v => [(p848, .cells [.i l.Args, .i l.Bulk, .i l.Line]), (p849, .cells [.str nS, .sl .full 1 e2L, .i 0, .i 0, .bool false, .i 0, .i 0])]) (fun u => s1694 = .inl u) ?_ ?_
 intro s1270
 intro _
 rintro rfl
 have h := onSum_inl h1271
 refine aw_seq (xr (xy Z (xa (.i (s_.length : Int)) Z (pu_strLen Z underlying9 (tm Z)) (xf (.ptr p848 2) underlying66 sizeOf3 Z (xl 0 isAgg3 Z (xz (bd (l.Line < (s_.length : Int))) Z (xe (cd h Z (fun _ h => ?_) (fun _ h => ?_)))))))))
 refine xr (xa (.agg [.str nS, .sl .full 1 e2L, .i 0, .i 0, .bool false, .i 0, .i 0]) Z (pu_build (zs := [.str nS, .sl .full 1 e2L, .i 0, .i 0, .bool false, .i 0, .i 0]) (szs := [1, 1, 1, 1, 1, 1, 1]) (aparts := []) (cs := [.str nS, .sl .full 1 e2L, .i 0, .i 0, .bool false, .i 0, .i 0]) Z underlying74 zeroValue74 Z ⟨sizeOf9, sizeOf71, sizeOf3, sizeOf3, sizeOf4, sizeOf3, sizeOf72, trivial⟩ trivial Z) (xs 1 [.str nS, .sl .full 1 e2L, .i 0, .i 0, .bool false, .i 0, .i 0] sizeOf74 Z (xz (.i 6) Z (xe (aw_ret ?_)))))
 cases h
 exact rq [.agg [.str nS, .sl .full 1 e2L, .i 0, .i 0, .bool false, .i 0, .i 0], .i 6] ⟨Z, Z⟩ (AV.Le.tup ⟨(AV.Le.agg ⟨vr, (AV.Le.forget _ _ _), vr, vr, vr, vr, vr, trivial⟩), vr, trivial⟩) ⟨(CellOk.agg 1 (tm Z) Z isAgg74 sizeOf74 (nb Z) Z), (tm Z), trivial⟩ w0
 refine aw_skip (xr (xy Z (xa (.agg [.str s_, .sl .full 1 e2L, .i 0, .i 0, .bool false, .i 0, .i 0]) Z (pu_build (zs := [.str nS, .sl .full 1 e2L, .i 0, .i 0, .bool false, .i 0, .i 0]) (szs := [1, 1, 1, 1, 1, 1, 1]) (aparts := [(0, .str s_)]) (cs := [.str s_, .sl .full 1 e2L, .i 0, .i 0, .bool false, .i 0, .i 0]) Z underlying74 zeroValue74 Z ⟨sizeOf9, sizeOf71, sizeOf3, sizeOf3, sizeOf4, sizeOf3, sizeOf72, trivial⟩ ⟨Z, (tm Z), trivial⟩ Z) (xs 1 [.str s_, .sl .full 1 e2L, .i 0, .i 0, .bool false, .i 0, .i 0] sizeOf74 Z (xz (.i (-1)) Z (xe (aw_ret ?_)))))))
 cases h
 exact rq [.agg [.str s_, .sl .full 1 e2L, .i 0, .i 0, .bool false, .i 0, .i 0], .i (-1)] ⟨Z, Z⟩ (AV.Le.tup ⟨(AV.Le.agg ⟨vr, (AV.Le.forget _ _ _), vr, vr, vr, vr, vr, trivial⟩), vr, trivial⟩) ⟨(CellOk.agg 1 (tm Z) Z isAgg74 sizeOf74 (nb Z) Z), (tm Z), trivial⟩ w0
 have h := s1694e
 refine xr (xz (.i 0) Z (xe (aw_block (aw_while (σ := mewsref05.one.S0) (ν := Unit) (mewsref05.one.body0 s_ l) (fun s1551 v => [(0, .str s_), (3, .ptr p848 0), (4, .ptr p849 0), (6, .i s1551.i)]) (fun s1551 v => [(p848, .cells [.i l.Args, .i l.Bulk, .i l.Line]), (p849, .cells [.str nS, .sl .full 1 e2L, .i 0, .i 0, .bool false, .i 0, .i 0])]) ⟨0⟩ () _ h (wi [1, 0] Z) ?_))))
 rintro s1551 _ x1553 h hx1552
 unfold mewsref05.one.body0 at h
 refine aw_seq ?_
 obtain ⟨s1556, s1556e, h1557⟩ := letO_of h
 refine aw_meet (ν := Unit) (fun v => [(0, .str s_), (3, .ptr p848 0), (4, .ptr p849 0), (6, .i s1551.i), (20, .bool s1556)]) (fun v => [(p848, .cells [.i l.Args, .i l.Bulk, .i l.Line]), (p849, .cells [.str nS, .sl .full 1 e2L, .i 0, .i 0, .bool false, .i 0, .i 0])]) ?_ ?_
 have h := s1556e.symm
 refine aw_region (xy Z (xy Z (xa (.i (s_.length : Int)) Z (pu_strLen Z underlying9 (tm Z)) (xz (bd (s1551.i < (s_.length : Int))) Z (xy Z ?_)))))
 rcases Bool.eq_false_or_eq_true (decide (s1551.i < (s_.length : Int))) with hb1559 | hb1559
 replace h := ite_t (dec_t hb1559) h
 refine aops_known 15 Z hb1559 (xq Z Z Z Z (xp (.ptr p848 2) Z Z (fa Z underlying66 Z sizeOf3 Z Z Z) (xg Z Z (op_load1 (i := 0) Z isAgg3 (tm Z) Z Z (xp (bd (s1551.i ≤ l.Line)) Z Z (pe Z) (xz (bd (s1551.i ≤ l.Line)) Z (xe ?_)))))))
 subst h
 exact ⟨(), wi [0, 1] Z⟩
 replace h := ite_f (dec_f hb1559) h
 refine aops_known 15 Z hb1559 (xu Z (xu Z (xu Z (xu Z (xz (.bool false) Z (xe ?_))))))
 subst h
 exact ⟨(), wi [0, 1] Z⟩
 intro _
 have h := h1557
 refine aw_cond (b := s1556) (tm Z) (fun hb1692 => ?_) (fun hb1692 => ?_)
 replace h := ite_t hb1692 h
 refine aw_skip ?_
 obtain ⟨s1691, s1691e, h1625⟩ := bind_some h
 refine aw_join (σ := Unit) (ν := Unit) (fun u v => [(0, .str s_), (3, .ptr p848 0), (4, .ptr p849 0), (6, .i s1551.i)]) (fun u v => [(p848, .cells [.i l.Args, .i l.Bulk, .i l.Line]), (p849, .cells [.str nS, .sl .full 1 e2L, .i 0, .i 0, .bool false, .i 0, .i 0])]) (fun u => s1691 = .inl u) ?_ ?_
 intro s1624
 intro _
 rintro rfl
 have h := onSum_inl h1625
 refine aw_region (xy Z (xz (.i (w64 (s1551.i + 1))) Z (xy Z (xe ?_))))
 cases h
 exact ⟨_, (), Z, wi [0, 1] Z⟩
 have h := s1691e
 refine aw_block (aw_seq (xr (xy Z (xy Z ?_))))
 obtain ⟨c1627, h⟩ := need_of h
 refine xa (.int .u8 (bix s_ s1551.i)) Z (pu_strIdxM Z underlying9 (tm Z) (tm Z) c1627) (xz (bn ((bix s_ s1551.i) = 10)) Z (xe (cn h Z (fun _ h => ?_) (fun _ h => ?_))))
 refine aw_exit ?_
 exact ⟨(), (), (some_of h).symm, wi [0, 1] Z⟩
 refine aw_skip (xr (xy Z (xy Z ?_)))
 obtain ⟨c1628, h⟩ := need_of h
 refine xa (.str (sub s_ 0 s1551.i)) Z (pu_strSliceM Z underlying9 (tm Z) Z ⟨_, (tm Z)⟩ c1628) (xy Z (xe ?_))
 obtain ⟨s1639, s1639e, h1640⟩ := bind_some h
 refine aw_meet (ν := Unit) (fun v => [(3, .ptr p848 0), (4, .ptr p849 0), (6, .i s1551.i), (7, .str s1639)]) (fun v => [(p848, .cells [.i l.Args, .i l.Bulk, .i l.Line]), (p849, .cells [.str nS, .sl .full 1 e2L, .i 0, .i 0, .bool false, .i 0, .i 0])]) ?_ ?_
 have h := s1639e
 obtain ⟨s1644, s1644e, h1645⟩ := bind_some h
 refine aw_meet (ν := Unit) (fun v => [(3, .ptr p848 0), (4, .ptr p849 0), (6, .i s1551.i), (7, .str (sub s_ 0 s1551.i)), (38, .bool s1644)]) (fun v => [(p848, .cells [.i l.Args, .i l.Bulk, .i l.Line]), (p849, .cells [.str nS, .sl .full 1 e2L, .i 0, .i 0, .bool false, .i 0, .i 0])]) ?_ ?_
 have h := s1644e
 refine aw_region (xy Z (xz (bd (0 < s1551.i)) Z (xy Z ?_)))
 rcases Bool.eq_false_or_eq_true (decide (0 < s1551.i)) with hb1647 | hb1647
 replace h := ite_t (dec_t hb1647) h
 refine aops_known 32 Z hb1647 (xq Z Z Z Z (xq Z Z Z Z (xp (.i (w64 (s1551.i - 1))) Z Z (pe Z) ?_)))
 obtain ⟨c1648, h⟩ := need_of h
 refine xp (.int .u8 (bix (sub s_ 0 s1551.i) (w64 (s1551.i - 1)))) Z Z (pu_strIdxM Z underlying9 (tm Z) (tm Z) c1648) (xp (bd ((bix (sub s_ 0 s1551.i) (w64 (s1551.i - 1))) = 13)) Z Z (pe Z) (xz (bd ((bix (sub s_ 0 s1551.i) (w64 (s1551.i - 1))) = 13)) Z (xe ?_)))
 cases h
 exact ⟨(), wi [0, 1] Z⟩
 replace h := ite_f (dec_f hb1647) h
 refine aops_known 32 Z hb1647 (xu Z (xu Z (xu Z (xu Z (xu Z (xz (.bool false) Z (xe ?_)))))))
 cases h
 exact ⟨(), wi [0, 1] Z⟩
 intro _
 have h := h1645
 refine aw_cond (b := s1644) (tm Z) (fun hb1651 => ?_) (fun hb1651 => ?_)
 replace h := ite_t hb1651 h
 refine aw_region (xy Z (xy Z (xz (.i (w64 (s1551.i - 1))) Z ?_)))
 obtain ⟨c1649, h⟩ := need_of h
 obtain ⟨x1650, x1650e, h⟩ := letO_of h
 refine xa (.str x1650) Z (APure.eq (pu_strSliceM Z underlying9 (tm Z) Z ⟨_, (tm Z)⟩ c1649) (congrArg (AV.str) x1650e.symm)) (xy Z (xe ?_))
 cases h
 exact ⟨(), wi [0, 1] Z⟩
 replace h := ite_fb hb1651 h
 refine aw_skip ?_
 cases h
 exact ⟨(), wi [0, 1] Z⟩
 intro _
 have h := h1640
 refine xr (xy Z ?_)
 obtain ⟨r1652, r1652e, h⟩ := bind_some h
 refine xk (mewsref04.Split.ok r1652e) call68 Z ?_
 rintro _ _ ⟨t1653, rfl, rfl⟩
 refine xy Z (xz (.sl (.own t1653) 1 (m3L r1652.1)) Z (xz (.bool r1652.2) Z (xy Z (xy Z (xe (aw_seq (xr (xy Z ?_))))))))
 refine xz (.bool (!r1652.2)) Z (xe (cb h Z (fun _ h => ?_) (fun _ h => ?_)))
 refine xr (xa (.agg [.str nS, .sl .full 1 e2L, .i 0, .i 0, .bool false, .i 0, .i 0]) Z (pu_build (zs := [.str nS, .sl .full 1 e2L, .i 0, .i 0, .bool false, .i 0, .i 0]) (szs := [1, 1, 1, 1, 1, 1, 1]) (aparts := []) (cs := [.str nS, .sl .full 1 e2L, .i 0, .i 0, .bool false, .i 0, .i 0]) Z underlying74 zeroValue74 Z ⟨sizeOf9, sizeOf71, sizeOf3, sizeOf3, sizeOf4, sizeOf3, sizeOf72, trivial⟩ trivial Z) (xs 2 [.str nS, .sl .full 1 e2L, .i 0, .i 0, .bool false, .i 0, .i 0] sizeOf74 Z (xz (.i 16) Z (xe (aw_ret ?_)))))
 cases h
 cases onSum_inr h1625
 cases congrArg some (hx1552 _ rfl)
 cases onSum_inr h1271
 exact rq [.agg [.str nS, .sl .full 1 e2L, .i 0, .i 0, .bool false, .i 0, .i 0], .i 16] ⟨Z, Z⟩ (AV.Le.tup ⟨(AV.Le.agg ⟨vr, (AV.Le.forget _ _ _), vr, vr, vr, vr, vr, trivial⟩), vr, trivial⟩) ⟨(CellOk.agg 2 (tm Z) Z isAgg74 sizeOf74 (nb Z) Z), (tm Z), trivial⟩ w0
 refine aw_skip (aw_seq (xr (xy Z (xa (.i (r1652.1.length : Int)) Z (pu_lenM Z underlying71 (tm Z)) (xf (.ptr p848 0) underlying66 sizeOf3 Z (xl 1 isAgg3 Z (xz (bd (l.Args < (r1652.1.length : Int))) Z (xe ?_))))))))
 refine aw_cond (b := decide (l.Args < (r1652.1.length : Int))) (tm Z) (fun hb1688 => ?_) (fun hb1688 => ?_)
 replace h := ite_t (dec_t hb1688) h
 refine xr (xa (.agg [.str nS, .sl .full 1 e2L, .i 0, .i 0, .bool false, .i 0, .i 0]) Z (pu_build (zs := [.str nS, .sl .full 1 e2L, .i 0, .i 0, .bool false, .i 0, .i 0]) (szs := [1, 1, 1, 1, 1, 1, 1]) (aparts := []) (cs := [.str nS, .sl .full 1 e2L, .i 0, .i 0, .bool false, .i 0, .i 0]) Z underlying74 zeroValue74 Z ⟨sizeOf9, sizeOf71, sizeOf3, sizeOf3, sizeOf4, sizeOf3, sizeOf72, trivial⟩ trivial Z) (xs 2 [.str nS, .sl .full 1 e2L, .i 0, .i 0, .bool false, .i 0, .i 0] sizeOf74 Z (xz (.i 7) Z (xe (aw_ret ?_)))))
 cases h
 cases onSum_inr h1625
 cases congrArg some (hx1552 _ rfl)
 cases onSum_inr h1271
 exact rq [.agg [.str nS, .sl .full 1 e2L, .i 0, .i 0, .bool false, .i 0, .i 0], .i 7] ⟨Z, Z⟩ (AV.Le.tup ⟨(AV.Le.agg ⟨vr, (AV.Le.forget _ _ _), vr, vr, vr, vr, vr, trivial⟩), vr, trivial⟩) ⟨(CellOk.agg 2 (tm Z) Z isAgg74 sizeOf74 (nb Z) Z), (tm Z), trivial⟩ w0
 replace h := ite_f (dec_f hb1688) h
 refine aw_skip ?_
 obtain ⟨s1687, s1687e, h1670⟩ := bind_some h
 refine aw_join (σ := Unit) (ν := Unit) (fun u v => [(4, .ptr p849 0), (6, .i s1551.i), (8, .sl (.own t1653) 1 (m3L r1652.1))]) (fun u v => [(p849, .cells [.str nS, .sl .full 1 e2L, .i 0, .i 0, .bool false, .i 0, .i 0]), (t1653, .spare)]) (fun u => s1687 = .inl u) ?_ ?_
 intro s1669
 intro _
 rintro rfl
 have h := onSum_inl h1670
 refine xr (xy Z (xy Z (xz (.i (w64 (s1551.i + 1))) Z (xa (.agg [.str nS, .sl (.own t1653) 1 (m3L r1652.1), .i 0, .i (w64 (s1551.i + 1)), .bool false, .i 0, .i 0]) Z (pu_build (zs := [.str nS, .sl .full 1 e2L, .i 0, .i 0, .bool false, .i 0, .i 0]) (szs := [1, 1, 1, 1, 1, 1, 1]) (aparts := [(1, .sl (.own t1653) 1 (m3L r1652.1)), (3, .i (w64 (s1551.i + 1)))]) (cs := [.str nS, .sl (.own t1653) 1 (m3L r1652.1), .i 0, .i (w64 (s1551.i + 1)), .bool false, .i 0, .i 0]) Z underlying74 zeroValue74 Z ⟨sizeOf9, sizeOf71, sizeOf3, sizeOf3, sizeOf4, sizeOf3, sizeOf72, trivial⟩ ⟨Z, (tm Z), ⟨Z, (tm Z), trivial⟩⟩ Z) (xs 0 [.str nS, .sl (.own t1653) 1 (m3L r1652.1), .i 0, .i (w64 (s1551.i + 1)), .bool false, .i 0, .i 0] sizeOf74 Z (xz (.i 0) Z (xe (aw_ret ?_))))))))
 cases h
 cases onSum_inr h1625
 cases congrArg some (hx1552 _ rfl)
 cases onSum_inr h1271
 exact rq [.agg [.str nS, .sl (.own t1653) 1 (m3L r1652.1), .i 0, .i (w64 (s1551.i + 1)), .bool false, .i 0, .i 0], .i 0] ⟨Z, Z⟩ (AV.Le.tup ⟨(AV.Le.agg ⟨vr, (AV.Le.forget _ _ _), vr, vr, vr, vr, vr, trivial⟩), vr, trivial⟩) ⟨(CellOk.agg 0 (tm Z) Z isAgg74 sizeOf74 (nb Z) Z), (tm Z), trivial⟩ w0
 have h := s1687e
 refine xr (xz (.i 0) Z (xe (aw_block (aw_while (σ := mewsref05.one.S2) (ν := Unit) (mewsref05.one.body2 r1652 l) (fun s1680 v => [(3, .ptr p848 0), (4, .ptr p849 0), (6, .i s1551.i), (8, .sl (.own t1653) 1 (m3L r1652.1)), (10, .i s1680.k)]) (fun s1680 v => [(p848, .cells [.i l.Args, .i l.Bulk, .i l.Line]), (p849, .cells [.str nS, .sl .full 1 e2L, .i 0, .i 0, .bool false, .i 0, .i 0]), (t1653, .spare)]) ⟨0⟩ () _ h (wi [1, 2, 0] Z) ?_))))
 rintro s1680 _ x1682 h hx1681
 unfold mewsref05.one.body2 at h
 refine aw_seq (xr (xy Z (xy Z (xa (.i (r1652.1.length : Int)) Z (pu_lenM Z underlying71 (tm Z)) (xz (bd (s1680.k < (r1652.1.length : Int))) Z (xe (cd h Z (fun _ h => ?_) (fun _ h => ?_))))))))
 refine aw_skip (aw_seq (aw_block (aw_seq ?_)))
 obtain ⟨c1684, h⟩ := need_of h
 refine aw_planR (by decide +kernel) [[], [], [], [], [], [], [(0, 0, false)], []] [[], [], []] [[[(p848, .cells [.i l.Args, .i l.Bulk, .i l.Line])]], [[(p849, .cells [.str nS, .sl .full 1 e2L, .i 0, .i 0, .bool false, .i 0, .i 0])]], [[(t1653, .spare)]]] [.sl (.own t1653) 1 (m3L r1652.1), .i s1680.k, .vptr [.str (ix r1652.1 s1680.k)], .str (ix r1652.1 s1680.k), .i ((ix r1652.1 s1680.k).length : Int), .ptr p848 1, .i l.Bulk, bd (l.Bulk < ((ix r1652.1 s1680.k).length : Int))] (by decide +kernel) Z Z ?_ ?_
 exact ⟨ym Z Z Z, ym Z Z Z, yp Z (pu_indexAddrM Z underlying71 sizeOf9 (tm Z) (tm Z) c1684 Z), stepg_plain Z (op_loadV1 Z isAgg9 (tm Z) Z ⟨Z, Z⟩), yp Z (pu_strLen Z underlying9 (tm Z)), yp Z (fa Z underlying66 Z sizeOf3 Z Z Z), stepg_plain Z (op_load1 (i := 0) Z isAgg3 (tm Z) Z Z ⟨Z, Z⟩), yp Z (pe Z), trivial⟩
 refine aw_cond (b := decide (l.Bulk < ((ix r1652.1 s1680.k).length : Int))) (tm Z) (fun hb1685 => ?_) (fun hb1685 => ?_)
 replace h := ite_t (dec_t hb1685) h
 refine xr (xa (.agg [.str nS, .sl .full 1 e2L, .i 0, .i 0, .bool false, .i 0, .i 0]) Z (pu_build (zs := [.str nS, .sl .full 1 e2L, .i 0, .i 0, .bool false, .i 0, .i 0]) (szs := [1, 1, 1, 1, 1, 1, 1]) (aparts := []) (cs := [.str nS, .sl .full 1 e2L, .i 0, .i 0, .bool false, .i 0, .i 0]) Z underlying74 zeroValue74 Z ⟨sizeOf9, sizeOf71, sizeOf3, sizeOf3, sizeOf4, sizeOf3, sizeOf72, trivial⟩ trivial Z) (xs 1 [.str nS, .sl .full 1 e2L, .i 0, .i 0, .bool false, .i 0, .i 0] sizeOf74 Z (xz (.i 6) Z (xe (aw_ret ?_)))))
 cases h
 cases congrArg some (hx1681 _ rfl)
 cases onSum_inr h1670
 cases onSum_inr h1625
 cases congrArg some (hx1552 _ rfl)
 cases onSum_inr h1271
 exact rq [.agg [.str nS, .sl .full 1 e2L, .i 0, .i 0, .bool false, .i 0, .i 0], .i 6] ⟨Z, Z⟩ (AV.Le.tup ⟨(AV.Le.agg ⟨vr, (AV.Le.forget _ _ _), vr, vr, vr, vr, vr, trivial⟩), vr, trivial⟩) ⟨(CellOk.agg 1 (tm Z) Z isAgg74 sizeOf74 (nb Z) Z), (tm Z), trivial⟩ w0
 replace h := ite_f (dec_f hb1685) h
 refine aw_skip (aw_region (xy Z (xz (.i (w64 (s1680.k + 1))) Z (xy Z (xe ?_)))))
 cases h
 exact ⟨_, (), Z, wi [0, 1, 2] Z⟩
 refine aw_exit ?_
 cases h
 have h := congrArg some (hx1681 _ rfl)
 exact ⟨(), (), (some_of h).symm, wi [1, 2] Z⟩
 replace h := ite_fb hb1692 h
 refine aw_exit ?_
 cases h
 have h := congrArg some (hx1552 _ rfl)
 exact ⟨(), (), (some_of h).symm, wi [0, 1] Z⟩

theorem mewsref05.All.ok {s_ l r} (h : mewsref05.All s_ l = some r) : Sp prog 35 [.str s_, .agg [.i l.Args, .i l.Bulk, .i l.Line]] [] (fun v H => ∃ n0, v = .tup [.agg [.str r.1.Rest, .sl .no 1 (m3L r.1.Args), .i r.1.Left, .i r.1.Size, .bool r.1.Body, .i r.1.Need, .i r.1.Dead], .sl (.own n0) 2 (m4L r.2)] ∧ H = [(n0, .spare)]) := by
 unfold mewsref05.All at h
 refine sb [.cell 4 74, .tmp 5] func35 Z (xr (xb [.i l.Args, .i l.Bulk, .i l.Line] Z fun p185 => xA (.agg [.str nS, .sl .full 1 e2L, .i 0, .i 0, .bool false, .i 0, .i 0]) zeroValue74 Z fun p186 => xa (.sl .full 2 e4L) Z (pu_assign Z (AEv.nil 2 (by decide))) (xe (xr (xL 1 isAgg66 sizeOf66 Z ?_)))))
 obtain ⟨r187, r187e, h⟩ := bind_some h
 refine xo (mewsref05.Limits.ok r187e) call45 Z (xs 1 [.i r187.Args, .i r187.Bulk, .i r187.Line] sizeOf66 Z (xe (xr (xa (.sl .full 2 e4L) Z (pu_assign Z (AEv.nil 2 (by decide))) (xe ?_)))))
 obtain ⟨s368, s368e, h278⟩ := bind_some h
 refine aw_join (σ := List api.Request) (ν := Nat) (fun u v => [(4, .ptr p186 0), (6, .sl (.own v) 2 (m4L u))]) (fun u v => [(p186, .cells [.str nS, .sl .full 1 e2L, .i 0, .i 0, .bool false, .i 0, .i 0]), (v, .spare)]) (fun u => s368 = .inl u) ?_ ?_
 intro s276
 intro n277
 rintro rfl
 have h := onSum_inl h278
 refine xr (xa (.agg [.str nS, .sl .full 1 e2L, .i 0, .i 0, .bool false, .i 0, .i 0]) Z (pu_build (zs := [.str nS, .sl .full 1 e2L, .i 0, .i 0, .bool false, .i 0, .i 0]) (szs := [1, 1, 1, 1, 1, 1, 1]) (aparts := []) (cs := [.str nS, .sl .full 1 e2L, .i 0, .i 0, .bool false, .i 0, .i 0]) Z underlying74 zeroValue74 Z ⟨sizeOf9, sizeOf71, sizeOf3, sizeOf3, sizeOf4, sizeOf3, sizeOf72, trivial⟩ trivial Z) (xy Z (xs 0 [.str nS, .sl .full 1 e2L, .i 0, .i 0, .bool false, .i 0, .i 0] sizeOf74 Z (xy Z (xe (aw_ret ?_))))))
 cases h
 exact rq [.agg [.str nS, .sl .full 1 e2L, .i 0, .i 0, .bool false, .i 0, .i 0], .sl (.own n277) 2 (m4L s276)] ⟨n277, Z, Z⟩ (AV.Le.tup ⟨(AV.Le.agg ⟨vr, (AV.Le.forget _ _ _), vr, vr, vr, vr, vr, trivial⟩), vr, trivial⟩) ⟨(CellOk.agg 0 (tm Z) Z isAgg74 sizeOf74 (nb Z) Z), (tm Z), trivial⟩ (wi [1] Z)
 have h := s368e
 refine aw_block (aw_claim 6 (tm Z) fun t367 => (aw_while (σ := mewsref05.All.S0) (ν := Nat) (mewsref05.All.body0 r187) (fun s336 v => [(0, .str s336.s), (3, .ptr p185 0), (4, .ptr p186 0), (6, .sl (.own v) 2 (m4L s336.out))]) (fun s336 v => [(p185, .cells [.i r187.Args, .i r187.Bulk, .i r187.Line]), (p186, .cells [.str nS, .sl .full 1 e2L, .i 0, .i 0, .bool false, .i 0, .i 0]), (v, .spare)]) ⟨s_, ([] : List api.Request)⟩ t367 _ h (wi [2, 1, 0] Z) ?_))
 rintro s336 n337 x339 h hx338
 unfold mewsref05.All.body0 at h
 refine aw_seq (xr (xy Z (xa (bn (s336.s = nS)) Z (pu_str (v := bn (s336.s = nS)) Z Z (tm Z) (AEv.const Z) Z) (xe (cn h Z (fun _ h => ?_) (fun _ h => ?_))))))
 refine aw_skip (aw_block (xr (xa (.agg [.str nS, .sl .full 1 e2L, .i 0, .i 0, .bool false, .i 0, .i 0]) Z (pu_build (zs := [.str nS, .sl .full 1 e2L, .i 0, .i 0, .bool false, .i 0, .i 0]) (szs := [1, 1, 1, 1, 1, 1, 1]) (aparts := []) (cs := [.str nS, .sl .full 1 e2L, .i 0, .i 0, .bool false, .i 0, .i 0]) Z underlying74 zeroValue74 Z ⟨sizeOf9, sizeOf71, sizeOf3, sizeOf3, sizeOf4, sizeOf3, sizeOf72, trivial⟩ trivial Z) (xA (.agg [.str nS, .sl .full 1 e2L, .i 0, .i 0, .bool false, .i 0, .i 0]) zeroValue74 Z fun p341 => xs 0 [.str nS, .sl .full 1 e2L, .i 0, .i 0, .bool false, .i 0, .i 0] sizeOf74 Z (xz (.i 0) Z (xe ?_))))))
 obtain ⟨s346, s346e, h347⟩ := bind_some h
 refine aw_meet (ν := Unit) (fun v => [(0, .str s336.s), (3, .ptr p185 0), (4, .ptr p186 0), (6, .sl (.own n337) 2 (m4L s336.out)), (7, .ptr p341 0), (8, .i s346.1)]) (fun v => [(p185, .cells [.i r187.Args, .i r187.Bulk, .i r187.Line]), (p186, .cells [.str nS, .sl .full 1 e2L, .i 0, .i 0, .bool false, .i 0, .i 0]), (n337, .spare), (p341, .cells [.str s346.2.1, .sl .no 1 (m3L s346.2.2.1), .i s346.2.2.2.1, .i s346.2.2.2.2.1, .bool s346.2.2.2.2.2.1, .i s346.2.2.2.2.2.2.1, .i s346.2.2.2.2.2.2.2])]) ?_ ?_
 have h := s346e
 refine xr (xy Z ?_)
 obtain ⟨c349, h⟩ := need_of h
 refine xa (.int .u8 (bix s336.s 0)) Z (pu_strIdxM Z underlying9 (tm Z) (AEv.int _ _) c349) (xz (bd ((bix s336.s 0) = 42)) Z (xe (cd h Z (fun _ h => ?_) (fun _ h => ?_))))
 refine aw_region (xy Z (xL 1 isAgg66 sizeOf66 Z ?_))
 obtain ⟨r350, r350e, h⟩ := bind_some h
 refine xo (mewsref05.many.ok r350e) call46 Z (xy Z (xz (.agg (api.Input.ct .no r350.1)) Z (xz (.i r350.2) Z (xs 0 (api.Input.ct .no r350.1) sizeOf74 Z (xy Z (xe ?_))))))
 cases h
 exact ⟨(), wi [1, 2, 3, 0] Z⟩
 refine aw_region (xy Z (xL 1 isAgg66 sizeOf66 Z ?_))
 obtain ⟨r351, r351e, h⟩ := bind_some h
 refine xo (mewsref05.one.ok r351e) call47 Z (xy Z (xz (.agg (api.Input.ct .no r351.1)) Z (xz (.i r351.2) Z (xs 0 (api.Input.ct .no r351.1) sizeOf74 Z (xy Z (xe ?_))))))
 cases h
 exact ⟨(), wi [1, 2, 3, 0] Z⟩
 intro _
 have h := h347
 refine aw_seq (xr (xy Z (xz (bd (s346.1 = (-1))) Z (xe (cd h Z (fun _ h => ?_) (fun _ h => ?_))))))
 refine xr (xL 3 isAgg74 sizeOf74 Z (xy Z (xs 1 [.str s346.2.1, .sl .no 1 (m3L s346.2.2.1), .i s346.2.2.2.1, .i s346.2.2.2.2.1, .bool s346.2.2.2.2.2.1, .i s346.2.2.2.2.2.2.1, .i s346.2.2.2.2.2.2.2] sizeOf74 Z (xy Z (xe (aw_ret ?_))))))
 cases h
 cases congrArg some (hx338 _ rfl)
 cases onSum_inr h278
 exact rq [.agg [.str s346.2.1, .sl .no 1 (m3L s346.2.2.1), .i s346.2.2.2.1, .i s346.2.2.2.2.1, .bool s346.2.2.2.2.2.1, .i s346.2.2.2.2.2.2.1, .i s346.2.2.2.2.2.2.2], .sl (.own n337) 2 (m4L s336.out)] ⟨n337, Z, Z⟩ (AV.Le.tup cr) ⟨(CellOk.agg 1 (tm Z) Z isAgg74 sizeOf74 (nb Z) Z), (tm Z), trivial⟩ (wi [2] Z)
 refine aw_skip (aw_seq (xr (xy Z (xz (bn (s346.1 = 0)) Z (xe (cn h Z (fun _ h => ?_) (fun _ h => ?_)))))))
 refine xr (xy Z (xa (.agg [.str nS, .sl .full 1 e2L, .i 0, .i 0, .bool false, .i 0, .i s346.1]) Z (pu_build (zs := [.str nS, .sl .full 1 e2L, .i 0, .i 0, .bool false, .i 0, .i 0]) (szs := [1, 1, 1, 1, 1, 1, 1]) (aparts := [(6, .i s346.1)]) (cs := [.str nS, .sl .full 1 e2L, .i 0, .i 0, .bool false, .i 0, .i s346.1]) Z underlying74 zeroValue74 Z ⟨sizeOf9, sizeOf71, sizeOf3, sizeOf3, sizeOf4, sizeOf3, sizeOf72, trivial⟩ ⟨Z, (tm Z), trivial⟩ Z) (xy Z (xs 1 [.str nS, .sl .full 1 e2L, .i 0, .i 0, .bool false, .i 0, .i s346.1] sizeOf74 Z (xy Z (xe (aw_ret ?_)))))))
 cases h
 cases congrArg some (hx338 _ rfl)
 cases onSum_inr h278
 exact rq [.agg [.str nS, .sl .full 1 e2L, .i 0, .i 0, .bool false, .i 0, .i s346.1], .sl (.own n337) 2 (m4L s336.out)] ⟨n337, Z, Z⟩ (AV.Le.tup ⟨(AV.Le.agg ⟨vr, (AV.Le.forget _ _ _), vr, vr, vr, vr, vr, trivial⟩), vr, trivial⟩) ⟨(CellOk.agg 1 (tm Z) Z isAgg74 sizeOf74 (nb Z) Z), (tm Z), trivial⟩ (wi [2] Z)
 refine aw_skip ?_
 obtain ⟨s356, s356e, h358⟩ := bind_some h
 refine aw_meet (ν := Nat) (fun v => [(0, .str s336.s), (3, .ptr p185 0), (4, .ptr p186 0), (6, .sl (.own v) 2 (m4L s356)), (7, .ptr p341 0)]) (fun v => [(p185, .cells [.i r187.Args, .i r187.Bulk, .i r187.Line]), (p186, .cells [.str nS, .sl .full 1 e2L, .i 0, .i 0, .bool false, .i 0, .i 0]), (v, .spare), (p341, .cells [.str s346.2.1, .sl .no 1 (m3L s346.2.2.1), .i s346.2.2.2.1, .i s346.2.2.2.2.1, .bool s346.2.2.2.2.2.1, .i s346.2.2.2.2.2.2.1, .i s346.2.2.2.2.2.2.2])]) ?_ ?_
 have h := s356e
 refine xr (xf (.ptr p341 1) underlying74 sizeOf71 Z (xl 3 isAgg71 Z (xa (.i (s346.2.2.1.length : Int)) Z (pu_lenM Z underlying71 (tm Z)) (xz (bd (0 < (s346.2.2.1.length : Int))) Z (xe (cd h Z (fun _ h => ?_) (fun _ h => ?_)))))))
 refine aw_region (xy Z (xf (.ptr p341 1) underlying74 sizeOf71 Z (xl 3 isAgg71 Z (xf (.ptr p341 3) underlying74 sizeOf3 Z (xl 3 isAgg3 Z (xa (.agg [.sl .no 1 (m3L s346.2.2.1), .i s346.2.2.2.2.1]) Z (pu_build (zs := [.sl .full 1 e2L, .i 0]) (szs := [1, 1]) (aparts := [(0, .sl .no 1 (m3L s346.2.2.1)), (1, .i s346.2.2.2.2.1)]) (cs := [.sl .no 1 (m3L s346.2.2.1), .i s346.2.2.2.2.1]) Z underlying81 zeroValue81 Z ⟨sizeOf71, sizeOf3, trivial⟩ ⟨Z, (tm Z), ⟨Z, (tm Z), trivial⟩⟩ Z) (xc Z (op_buildSlice (xs := ([({ Args := s346.2.2.1, Size := s346.2.2.2.2.1 } : api.Request)] : List api.Request).map api.Request.av) (aparts := [(0, .agg [.sl .no 1 (m3L s346.2.2.1), .i s346.2.2.2.2.1])]) Z underlying77 sizeOf81 zeroValue81 (by decide) (by decide) ⟨Z, (tm Z), trivial⟩ Z Z Z ?_))))))))
 obtain ⟨c360, h⟩ := need_of h
 refine xc Z (op_appendOM (q := 2) Z underlying77 underlying77 (.inl Z) typeInfo81 Z Z Z (by decide) (tm Z) Z (given_sl (tm Z)) c360 ?_)
 intro t361
 refine xy Z (xe ?_)
 cases h
 exact ⟨t361, wi [0, 1, 2, 3] Z⟩
 refine aw_skip ?_
 cases h
 exact ⟨n337, wi [0, 1, 2, 3] Z⟩
 intro n357
 have h := h358
 refine aw_region (xy Z (xf (.ptr p341 3) underlying74 sizeOf3 Z (xl 3 isAgg3 Z ?_)))
 obtain ⟨c363, h⟩ := need_of h
 refine xa (.str (sub s336.s s346.2.2.2.2.1 (s336.s.length : Int))) Z (pu_strSliceM Z underlying9 (tm Z) ⟨_, (tm Z)⟩ Z c363) (xy Z (xe ?_))
 cases h
 exact ⟨_, n357, Z, wi [0, 1, 2] Z⟩
 refine aw_exit ?_
 cases h
 have h := congrArg some (hx338 _ rfl)
 exact ⟨s336.out, n337, (some_of h).symm, wi [1, 2] Z⟩

theorem mewsref28.Upper.ok {s_ r} (h : mewsref28.Upper s_ = some r) : Sp prog 36 [.str s_] [] (fun v H => v = .str r ∧ H = []) := by
 unfold mewsref28.Upper at h
 refine sb [.tmp 2] func36 Z (xr (xa (.str nS) Z (pu_assign Z (AEv.const Z)) (xe (xr (xa (.str [97, 98, 99, 100, 101, 102, 103, 104, 105, 106, 107, 108, 109, 110, 111, 112, 113, 114, 115, 116, 117, 118, 119, 120, 121, 122]) Z (pu_assign Z (AEv.const Z)) (xa (.str [65, 66, 67, 68, 69, 70, 71, 72, 73, 74, 75, 76, 77, 78, 79, 80, 81, 82, 83, 84, 85, 86, 87, 88, 89, 90]) Z (pu_assign Z (AEv.const Z)) (xe ?_)))))))
 refine xr (xa (.str nS) Z (pu_assign Z (AEv.const Z)) (xe ?_))
 obtain ⟨s832, s832e, h833⟩ := bind_some h
 refine aw_meet (ν := Unit) (fun v => [(5, .str s832)]) (fun v => []) ?_ ?_
 have h := s832e
 refine xr (xz (.i 0) Z (xe (aw_block (aw_while (σ := mewsref28.Upper.S0) (ν := Unit) (mewsref28.Upper.body0 s_) (fun s1017 v => [(0, .str s_), (3, .str [97, 98, 99, 100, 101, 102, 103, 104, 105, 106, 107, 108, 109, 110, 111, 112, 113, 114, 115, 116, 117, 118, 119, 120, 121, 122]), (4, .str [65, 66, 67, 68, 69, 70, 71, 72, 73, 74, 75, 76, 77, 78, 79, 80, 81, 82, 83, 84, 85, 86, 87, 88, 89, 90]), (5, .str s1017.out), (6, .i s1017.i)]) (fun s1017 v => []) ⟨nS, 0⟩ () _ h (wi [] Z) ?_))))
 rintro s1017 _ x1019 h hx1018
 unfold mewsref28.Upper.body0 at h
 refine aw_seq (xr (xy Z (xy Z (xa (.i (s_.length : Int)) Z (pu_strLen Z underlying9 (tm Z)) (xz (bd (s1017.i < (s_.length : Int))) Z (xe (cd h Z (fun _ h => ?_) (fun _ h => ?_))))))))
 refine aw_skip (aw_seq (aw_block (xr (xy Z (xy Z (xy Z (xz (.i (w64 (s1017.i + 1))) Z ?_)))))))
 obtain ⟨c1021, h⟩ := need_of h
 refine xa (.str (sub s_ s1017.i (w64 (s1017.i + 1)))) Z (pu_strSliceM Z underlying9 (tm Z) ⟨_, (tm Z)⟩ ⟨_, (tm Z)⟩ c1021) (xy Z (xe ?_))
 obtain ⟨s1064, s1064e, h1065⟩ := bind_some h
 refine aw_meet (ν := Unit) (fun v => [(0, .str s_), (3, .str [97, 98, 99, 100, 101, 102, 103, 104, 105, 106, 107, 108, 109, 110, 111, 112, 113, 114, 115, 116, 117, 118, 119, 120, 121, 122]), (4, .str [65, 66, 67, 68, 69, 70, 71, 72, 73, 74, 75, 76, 77, 78, 79, 80, 81, 82, 83, 84, 85, 86, 87, 88, 89, 90]), (5, .str s1017.out), (6, .i s1017.i), (7, .str s1064)]) (fun v => []) ?_ ?_
 have h := s1064e
 refine xr (xz (.i 0) Z (xe (aw_block (aw_while (σ := mewsref28.Upper.S2) (ν := Unit) (mewsref28.Upper.body2 s1017 s_) (fun s1093 v => [(0, .str s_), (3, .str [97, 98, 99, 100, 101, 102, 103, 104, 105, 106, 107, 108, 109, 110, 111, 112, 113, 114, 115, 116, 117, 118, 119, 120, 121, 122]), (4, .str [65, 66, 67, 68, 69, 70, 71, 72, 73, 74, 75, 76, 77, 78, 79, 80, 81, 82, 83, 84, 85, 86, 87, 88, 89, 90]), (5, .str s1017.out), (6, .i s1017.i), (7, .str s1093.c), (8, .i s1093.k)]) (fun s1093 v => []) ⟨sub s_ s1017.i (w64 (s1017.i + 1)), 0⟩ () _ h (wi [] Z) ?_))))
 rintro s1093 _ x1095 h hx1094
 unfold mewsref28.Upper.body2 at h
 refine aw_seq (xr (xy Z (xz (bd (s1093.k < 26)) Z (xe (cd h Z (fun _ h => ?_) (fun _ h => ?_))))))
 refine aw_skip ?_
 obtain ⟨s1101, s1101e, h1102⟩ := bind_some h
 refine aw_meet (ν := Unit) (fun v => [(0, .str s_), (3, .str [97, 98, 99, 100, 101, 102, 103, 104, 105, 106, 107, 108, 109, 110, 111, 112, 113, 114, 115, 116, 117, 118, 119, 120, 121, 122]), (4, .str [65, 66, 67, 68, 69, 70, 71, 72, 73, 74, 75, 76, 77, 78, 79, 80, 81, 82, 83, 84, 85, 86, 87, 88, 89, 90]), (5, .str s1017.out), (6, .i s1017.i), (7, .str s1101), (8, .i s1093.k)]) (fun v => []) ?_ ?_
 have h := s1101e
 refine aw_block (aw_seq ?_)
 obtain ⟨c1104, h⟩ := need_of h
 obtain ⟨c1105, h⟩ := need_of h
 refine aw_planR (by decide +kernel) [[], [], [], [], [], [], []] [] [] [.str s_, .i s1017.i, .int .u8 (bix s_ s1017.i), .str [97, 98, 99, 100, 101, 102, 103, 104, 105, 106, 107, 108, 109, 110, 111, 112, 113, 114, 115, 116, 117, 118, 119, 120, 121, 122], .i s1093.k, .int .u8 (bix [97, 98, 99, 100, 101, 102, 103, 104, 105, 106, 107, 108, 109, 110, 111, 112, 113, 114, 115, 116, 117, 118, 119, 120, 121, 122] s1093.k), bd ((bix s_ s1017.i) = (bix [97, 98, 99, 100, 101, 102, 103, 104, 105, 106, 107, 108, 109, 110, 111, 112, 113, 114, 115, 116, 117, 118, 119, 120, 121, 122] s1093.k))] (by decide +kernel) Z Z ?_ ?_
 exact ⟨ym Z Z Z, ym Z Z Z, yp Z (pu_strIdxM Z underlying9 (tm Z) (tm Z) c1104), ym Z Z Z, ym Z Z Z, yp Z (pu_strIdxM Z underlying9 (tm Z) (tm Z) c1105), yp Z (pe Z), trivial⟩
 refine aw_cond (b := decide ((bix s_ s1017.i) = (bix [97, 98, 99, 100, 101, 102, 103, 104, 105, 106, 107, 108, 109, 110, 111, 112, 113, 114, 115, 116, 117, 118, 119, 120, 121, 122] s1093.k))) (tm Z) (fun hb1107 => ?_) (fun hb1107 => ?_)
 replace h := ite_t (dec_t hb1107) h
 refine aw_region (xy Z (xy Z (xy Z (xz (.i (w64 (s1093.k + 1))) Z ?_))))
 obtain ⟨c1106, h⟩ := need_of h
 refine xa (.str (sub [65, 66, 67, 68, 69, 70, 71, 72, 73, 74, 75, 76, 77, 78, 79, 80, 81, 82, 83, 84, 85, 86, 87, 88, 89, 90] s1093.k (w64 (s1093.k + 1)))) Z (pu_strSliceM Z underlying9 (tm Z) ⟨_, (tm Z)⟩ ⟨_, (tm Z)⟩ c1106) (xy Z (xe ?_))
 cases h
 exact ⟨(), wi [] Z⟩
 replace h := ite_f (dec_f hb1107) h
 refine aw_skip ?_
 cases h
 exact ⟨(), wi [] Z⟩
 intro _
 have h := h1102
 refine aw_region (xy Z (xz (.i (w64 (s1093.k + 1))) Z (xy Z (xe ?_))))
 cases h
 exact ⟨_, (), Z, wi [] Z⟩
 refine aw_exit ?_
 cases h
 cases congrArg some (hx1094 _ rfl)
 exact ⟨(), wi [] Z⟩
 intro _
 have h := h1065
 refine aw_region (xy Z (xy Z ?_))
 obtain ⟨c1109, h⟩ := need_of h
 refine xa (.str (s1017.out ++ s1064)) Z (pu_strAdd Z (tm Z) (tm Z) c1109) (xy Z (xe (aw_region (xy Z (xz (.i (w64 (s1017.i + 1))) Z (xy Z (xe ?_)))))))
 cases h
 exact ⟨_, (), Z, wi [] Z⟩
 refine aw_exit ?_
 cases h
 cases congrArg some (hx1018 _ rfl)
 exact ⟨(), wi [] Z⟩
 intro _
 have h := h833
 refine xr (xy Z (xy Z (xe (aw_ret ?_))))
 cases h
 exact rt ⟨Z, Z⟩ Z w0

theorem mewsref42.Find.ok {c_ token r} (h : mewsref42.Find c_ token = some r) : Sp prog 37 [.agg [.sl .no 14 (m0L c_.Tenants), .i c_.Quantum, .i c_.Deadline], .str token] [] (fun v H => v = .i r ∧ H = []) := by
 unfold mewsref42.Find at h
 refine sb [.tmp 4] func37 Z (xr (xb [.sl .no 14 (m0L c_.Tenants), .i c_.Quantum, .i c_.Deadline] Z fun p36 => xz (.i 0) Z (xe ?_)))
 obtain ⟨s70, s70e, h53⟩ := bind_some h
 refine aw_join (σ := Unit) (ν := Unit) (fun u v => []) (fun u v => []) (fun u => s70 = .inl u) ?_ ?_
 intro s52
 intro _
 rintro rfl
 have h := onSum_inl h53
 refine xr (xz (.i (-1)) Z (xe (aw_ret ?_)))
 cases h
 exact rt ⟨Z, Z⟩ Z w0
 have h := s70e
 refine xr (xz (.i 0) Z (xe (aw_block (aw_while (σ := mewsref42.Find.S0) (ν := Unit) (mewsref42.Find.body0 c_ token) (fun s63 v => [(1, .str token), (2, .ptr p36 0), (5, .i s63.i)]) (fun s63 v => [(p36, .cells [.sl .no 14 (m0L c_.Tenants), .i c_.Quantum, .i c_.Deadline])]) ⟨0⟩ () _ h (wi [0] Z) ?_))))
 rintro s63 _ x65 h hx64
 unfold mewsref42.Find.body0 at h
 refine aw_seq (xr (xy Z (xf (.ptr p36 0) underlying24 sizeOf22 Z (xl 0 isAgg22 Z (xa (.i (c_.Tenants.length : Int)) Z (pu_lenM Z underlying22 (tm Z)) (xz (bd (s63.i < (c_.Tenants.length : Int))) Z (xe (cd h Z (fun _ h => ?_) (fun _ h => ?_)))))))))
 refine aw_skip (aw_seq (aw_block (xr (xf (.ptr p36 0) underlying24 sizeOf22 Z (xl 0 isAgg22 Z (xy Z ?_))))))
 obtain ⟨c67, h⟩ := need_of h
 refine xa (.vptr [.str (ix c_.Tenants s63.i).Name, .str (ix c_.Tenants s63.i).Token, .i (ix c_.Tenants s63.i).Memory, .i (ix c_.Tenants s63.i).Policy, .i (ix c_.Tenants s63.i).Conns, .i (ix c_.Tenants s63.i).In, .i (ix c_.Tenants s63.i).Out, .i (ix c_.Tenants s63.i).Burst, .i (ix c_.Tenants s63.i).Rate, .i (ix c_.Tenants s63.i).Disk, .i (ix c_.Tenants s63.i).Sync, .i (ix c_.Tenants s63.i).Limits.Args, .i (ix c_.Tenants s63.i).Limits.Bulk, .i (ix c_.Tenants s63.i).Limits.Line]) Z (pu_indexAddrM Z underlying22 sizeOf68 (tm Z) (tm Z) c67 Z) (xf (.vptr [.str (ix c_.Tenants s63.i).Token, .i (ix c_.Tenants s63.i).Memory, .i (ix c_.Tenants s63.i).Policy, .i (ix c_.Tenants s63.i).Conns, .i (ix c_.Tenants s63.i).In, .i (ix c_.Tenants s63.i).Out, .i (ix c_.Tenants s63.i).Burst, .i (ix c_.Tenants s63.i).Rate, .i (ix c_.Tenants s63.i).Disk, .i (ix c_.Tenants s63.i).Sync, .i (ix c_.Tenants s63.i).Limits.Args, .i (ix c_.Tenants s63.i).Limits.Bulk, .i (ix c_.Tenants s63.i).Limits.Line]) underlying68 sizeOf9 Z (xc Z (op_loadV1 Z isAgg9 (tm Z) Z (xy Z (xa (bd ((ix c_.Tenants s63.i).Token = token)) Z (pu_str (v := bd ((ix c_.Tenants s63.i).Token = token)) Z Z (tm Z) (tm Z) Z) (xe (cd h Z (fun _ h => ?_) (fun _ h => ?_))))))))
 refine xr (xy Z (xy Z (xe (aw_ret ?_))))
 cases h
 cases congrArg some (hx64 _ rfl)
 cases onSum_inr h53
 exact rt ⟨Z, Z⟩ Z w0
 refine aw_skip (aw_region (xy Z (xz (.i (w64 (s63.i + 1))) Z (xy Z (xe ?_)))))
 cases h
 exact ⟨_, (), Z, wi [0] Z⟩
 refine aw_exit ?_
 cases h
 have h := congrArg some (hx64 _ rfl)
 exact ⟨(), (), (some_of h).symm, w0⟩

theorem mewsref42.Told.ok {c_ s_ r} (h : mewsref42.Told c_ s_ = some r) : Sp prog 26 [.agg [.sl .no 14 (m0L c_.Tenants), .i c_.Quantum, .i c_.Deadline], .str s_] [] (fun v H => v = .tup [.i r.1, .i r.2.1, .i r.2.2] ∧ H = []) := by
 unfold mewsref42.Told at h
 refine sb [.tmp 4, .tmp 5, .tmp 6] func26 Z (xr (xb [.sl .no 14 (m0L c_.Tenants), .i c_.Quantum, .i c_.Deadline] Z fun p277 => xz (.i 0) Z (xz (.i 0) Z (xz (.i 0) Z (xe (xr (xa (.agg [.i 16, .i 1024, .i 2048]) Z (pu_build (zs := [.i 0, .i 0, .i 0]) (szs := [1, 1, 1]) (aparts := [(0, .i 16), (1, .i 1024), (2, .i 2048)]) (cs := [.i 16, .i 1024, .i 2048]) Z underlying66 zeroValue66 Z ⟨sizeOf3, sizeOf3, sizeOf3, trivial⟩ ⟨Z, (AEv.int _ _), ⟨Z, (AEv.int _ _), ⟨Z, (AEv.int _ _), trivial⟩⟩⟩ Z) (xA (.agg [.i 0, .i 0, .i 0]) zeroValue66 Z fun p278 => xs 0 [.i 16, .i 1024, .i 2048] sizeOf66 Z (xe ?_)))))))))
 obtain ⟨s552, s552e, h415⟩ := bind_some h
 refine aw_join (σ := Unit) (ν := Unit) (fun u v => [(1, .str s_)]) (fun u v => []) (fun u => s552 = .inl u) ?_ ?_
 intro s414
 intro _
 rintro rfl
 have h := onSum_inl h415
 refine xr (xy Z (xa (.i (s_.length : Int)) Z (pu_strLen Z underlying9 (tm Z)) (xy Z (xz (.i (-1)) Z (xz (.i 0) Z (xe (aw_ret ?_)))))))
 cases h
 exact rt ⟨Z, Z⟩ Z w0
 have h := s552e
 refine xr (xz (.i 1) Z (xe (aw_block (aw_while (σ := mewsref42.Told.S0) (ν := Unit) (mewsref42.Told.body0 s_ c_) (fun s505 v => [(1, .str s_), (2, .ptr p277 0), (7, .ptr p278 0), (8, .i s505.n)]) (fun s505 v => [(p277, .cells [.sl .no 14 (m0L c_.Tenants), .i c_.Quantum, .i c_.Deadline]), (p278, .cells [.i 16, .i 1024, .i 2048])]) ⟨1⟩ () _ h (wi [1, 0] Z) ?_))))
 rintro s505 _ x507 h hx506
 unfold mewsref42.Told.body0 at h
 refine aw_seq (xr (xy Z (xy Z (xa (.i (s_.length : Int)) Z (pu_strLen Z underlying9 (tm Z)) (xz (bd (s505.n ≤ (s_.length : Int))) Z (xe (cd h Z (fun _ h => ?_) (fun _ h => ?_))))))))
 refine aw_skip ?_
 obtain ⟨s550, s550e, h529⟩ := bind_some h
 refine aw_join (σ := Unit) (ν := Unit) (fun u v => [(1, .str s_), (2, .ptr p277 0), (7, .ptr p278 0), (8, .i s505.n)]) (fun u v => [(p277, .cells [.sl .no 14 (m0L c_.Tenants), .i c_.Quantum, .i c_.Deadline]), (p278, .cells [.i 16, .i 1024, .i 2048])]) (fun u => s550 = .inl u) ?_ ?_
 intro s528
 intro _
 rintro rfl
 have h := onSum_inl h529
 refine aw_region (xy Z (xz (.i (w64 (s505.n + 1))) Z (xy Z (xe ?_))))
 cases h
 exact ⟨_, (), Z, wi [0, 1] Z⟩
 have h := s550e
 refine aw_block (aw_seq ?_)
 obtain ⟨c531, h⟩ := need_of h
 obtain ⟨r532, r532e, h⟩ := bind_some h
 refine aw_reserve fun p533 => (aw_planR (by decide +kernel) [[], [], [], [(2, 0, false)], [], [], [], [], [(0, 0, true)], [(0, 1, true)], []] [[8, 9], [], []] [[[(p533, .resv)], [(p533, .cells [.str nS, .sl .full 1 e2L, .i 0, .i 0, .bool false, .i 0, .i 0])], [(p533, .cells (api.Input.ct .no r532.1))]], [[(p277, .cells [.sl .no 14 (m0L c_.Tenants), .i c_.Quantum, .i c_.Deadline])]], [[(p278, .cells [.i 16, .i 1024, .i 2048])]]] [.str s_, .i s505.n, .str (sub s_ 0 s505.n), .agg [.i 16, .i 1024, .i 2048], .tup [.agg (api.Input.ct .no r532.1), .sl .no 2 (m4L r532.2)], .tup [.agg (api.Input.ct .no r532.1), .sl .no 2 (m4L r532.2)], .agg (api.Input.ct .no r532.1), .sl .no 2 (m4L r532.2), .ptr p533 0, .un, .sl .no 2 (m4L r532.2)] (by decide +kernel) Z Z ?_ ?_)
 exact ⟨ym Z Z Z, ym Z Z Z, yp Z (pu_strSliceM Z underlying9 (tm Z) Z ⟨_, (tm Z)⟩ c531), stepg_plain Z (op_loadN (i := 0) Z isAgg66 sizeOf66 (tm Z) Z (nb Z) Z ⟨Z, Z⟩), stepg_plain Z (aop_forget (.tup [.agg (api.Input.ct .no r532.1), .sl .no 2 (m4L r532.2)]) [] (op_call (vs := [.str (sub s_ 0 s505.n), .agg [.i 16, .i 1024, .i 2048]]) (H := []) Z call35 ⟨(tm Z), (tm Z), trivial⟩ (R := []) (List.Perm.refl _) (mewsref05.All.ok r532e) (by rintro _ _ ⟨_, rfl, rfl⟩; exact ⟨([] : List Nat), _, Z, Z, (AV.Le.tup ⟨vr, (AV.Le.forget _ _ _), trivial⟩), List.nodup_nil, Z⟩)) ⟨Z, Z⟩), ym Z Z Z, yp Z (pe Z), yp Z (pe Z), stepg_plain Z (aop_settleP (op_alloc (cs := [.str nS, .sl .full 1 e2L, .i 0, .i 0, .bool false, .i 0, .i 0]) (v := .agg [.str nS, .sl .full 1 e2L, .i 0, .i 0, .bool false, .i 0, .i 0]) Z zeroValue74 Z Z Z fun t => ⟨t, Z, Z⟩) ⟨Z, Z⟩), stepg_plain Z (op_store (i := 0) (cs' := (api.Input.ct .no r532.1)) Z sizeOf74 (tm Z) (v := .agg (api.Input.ct .no r532.1)) (tm Z) Z Z Z (nb Z) Z ⟨Z, Z⟩), ym Z Z Z, trivial⟩
 refine aw_seq (xr (xf (.ptr p533 6) underlying74 sizeOf72 Z (xl 0 isAgg72 Z (xz (bn (r532.1.Dead = 0)) Z (xe (cn h Z (fun _ h => ?_) (fun _ h => ?_)))))))
 refine xr (xy Z (xy Z (xz (.i (-1)) Z (xz (.i 4) Z (xe (aw_ret ?_))))))
 cases h
 cases onSum_inr h529
 cases congrArg some (hx506 _ rfl)
 cases onSum_inr h415
 exact rt ⟨Z, Z⟩ Z w0
 refine aw_skip (aw_seq (xr (xy Z (xa (.i (r532.2.length : Int)) Z (pu_lenM Z underlying77 (tm Z)) (xz (bd ((r532.2.length : Int) = 0)) Z (xe (cd h Z (fun _ h => ?_) (fun _ h => ?_))))))))
 refine aw_exit ?_
 exact ⟨(), (), (some_of h).symm, wi [1, 2] Z⟩
 refine aw_skip (xr (xy Z ?_))
 obtain ⟨c534, h⟩ := need_of h
 refine xa (.vptr [.sl .no 1 (m3L (ix r532.2 0).Args), .i (ix r532.2 0).Size]) Z (pu_indexAddrM Z underlying77 sizeOf81 (tm Z) (AEv.int _ _) c534 Z) (xf (.vptr [.sl .no 1 (m3L (ix r532.2 0).Args), .i (ix r532.2 0).Size]) underlying81 sizeOf71 Z (xc Z (op_loadV1 Z isAgg71 (tm Z) Z (xy Z (xe (aw_seq ?_))))))
 obtain ⟨s538, s538e, h539⟩ := bind_some h
 refine aw_meet (ν := Unit) (fun v => [(2, .ptr p277 0), (8, .i s505.n), (11, .sl .no 1 (m3L (ix r532.2 0).Args)), (48, .bool s538)]) (fun v => [(p277, .cells [.sl .no 14 (m0L c_.Tenants), .i c_.Quantum, .i c_.Deadline])]) ?_ ?_
 have h := s538e
 refine aw_region (xy Z (xa (.i ((ix r532.2 0).Args.length : Int)) Z (pu_lenM Z underlying71 (tm Z)) (xz (bn (((ix r532.2 0).Args.length : Int) = 2)) Z (xy Z ?_))))
 rcases Bool.eq_false_or_eq_true (!decide (((ix r532.2 0).Args.length : Int) = 2)) with hb541 | hb541
 replace h := ite_f (ndec_t hb541) h
 refine aops_known 42 Z hb541 (xu Z (xu Z (xu Z (xu Z (xu Z (xz (.bool true) Z (xe ?_)))))))
 cases h
 exact ⟨(), wi [1] Z⟩
 replace h := ite_t (ndec_f hb541) h
 refine aops_known 42 Z hb541 (xq Z Z Z Z ?_)
 obtain ⟨c542, h⟩ := need_of h
 refine xp (.vptr [.str (ix (ix r532.2 0).Args 0)]) Z Z (pu_indexAddrM Z underlying71 sizeOf9 (tm Z) (AEv.int _ _) c542 Z) (xg Z Z (op_loadV1 Z isAgg9 (tm Z) Z ?_))
 obtain ⟨r543, r543e, h⟩ := bind_some h
 refine xg Z Z (op_call (vs := [.str (ix (ix r532.2 0).Args 0)]) (H := []) Z call36 ⟨(tm Z), trivial⟩ (List.Perm.refl _) (mewsref28.Upper.ok r543e) ?_)
 rintro _ _ ⟨rfl, rfl⟩
 refine xp (bn (r543 = [65, 85, 84, 72])) Z Z (pu_str (v := bn (r543 = [65, 85, 84, 72])) Z Z (tm Z) (AEv.const Z) Z) (xz (bn (r543 = [65, 85, 84, 72])) Z (xe ?_))
 cases h
 exact ⟨(), wi [1] Z⟩
 intro _
 have h := h539
 refine aw_cond (b := s538) (tm Z) (fun hb547 => ?_) (fun hb547 => ?_)
 replace h := ite_t hb547 h
 refine xr (xy Z (xy Z (xz (.i (-1)) Z (xz (.i 2) Z (xe (aw_ret ?_))))))
 cases h
 cases onSum_inr h529
 cases congrArg some (hx506 _ rfl)
 cases onSum_inr h415
 exact rt ⟨Z, Z⟩ Z w0
 replace h := ite_fb hb547 h
 refine aw_skip (aw_seq ?_)
 obtain ⟨c544, h⟩ := need_of h
 obtain ⟨r545, r545e, h⟩ := bind_some h
 refine aw_planR (by decide +kernel) [[(0, 0, false)], [], [], [], [], []] [[]] [[[(p277, .cells [.sl .no 14 (m0L c_.Tenants), .i c_.Quantum, .i c_.Deadline])]]] [.agg [.sl .no 14 (m0L c_.Tenants), .i c_.Quantum, .i c_.Deadline], .sl .no 1 (m3L (ix r532.2 0).Args), .vptr [.str (ix (ix r532.2 0).Args 1)], .str (ix (ix r532.2 0).Args 1), .i r545, .i r545] (by decide +kernel) Z Z ?_ ?_
 exact ⟨stepg_plain Z (op_loadN (i := 0) Z isAgg24 sizeOf24 (tm Z) Z (nb Z) Z ⟨Z, Z⟩), ym Z Z Z, yp Z (pu_indexAddrM Z underlying71 sizeOf9 (tm Z) (AEv.int _ _) c544 Z), stepg_plain Z (op_loadV1 Z isAgg9 (tm Z) Z ⟨Z, Z⟩), stepg_plain Z (op_call (vs := [.agg [.sl .no 14 (m0L c_.Tenants), .i c_.Quantum, .i c_.Deadline], .str (ix (ix r532.2 0).Args 1)]) (H := []) Z call37 ⟨(tm Z), (tm Z), trivial⟩ (R := []) (List.Perm.refl _) (mewsref42.Find.ok r545e) (by rintro _ _ ⟨rfl, rfl⟩; exact ⟨Z, Z⟩)), ym Z Z Z, trivial⟩
 refine aw_seq (xr (xy Z (xz (bd (r545 < 0)) Z (xe (cd h Z (fun _ h => ?_) (fun _ h => ?_))))))
 refine xr (xy Z (xy Z (xz (.i (-1)) Z (xz (.i 3) Z (xe (aw_ret ?_))))))
 cases h
 cases onSum_inr h529
 cases congrArg some (hx506 _ rfl)
 cases onSum_inr h415
 exact rt ⟨Z, Z⟩ Z w0
 refine aw_skip (xr (xy Z (xy Z (xy Z (xy Z (xz (.i 1) Z (xe (aw_ret ?_))))))))
 cases h
 cases onSum_inr h529
 cases congrArg some (hx506 _ rfl)
 cases onSum_inr h415
 exact rt ⟨Z, Z⟩ Z w0
 refine aw_exit ?_
 cases h
 have h := congrArg some (hx506 _ rfl)
 exact ⟨(), (), (some_of h).symm, wi [] Z⟩

theorem mewsref49.Of.ok {c_ l handle r} (h : mewsref49.Of c_ l handle = some r) : Sp prog 12 [.agg [.sl .no 14 (m0L c_.Tenants), .i c_.Quantum, .i c_.Deadline], .sl .no 9 (m1L l), .i handle] [] (fun v H => v = .i r ∧ H = []) := by
 unfold mewsref49.Of at h
 refine sb [.tmp 6] func12 Z (xr (xb [.sl .no 14 (m0L c_.Tenants), .i c_.Quantum, .i c_.Deadline] Z fun p6 => xz (.i 0) Z (xe (aw_seq (xr (xy Z (xy Z ?_)))))))
 obtain ⟨r7, r7e, h⟩ := bind_some h
 refine xo (mewsref49.opened.ok r7e) call25 Z (xz (.bool (!r7)) Z (xe (cb h Z (fun _ h => ?_) (fun _ h => ?_))))
 refine xr (xz (.i (-1)) Z (xe (aw_ret ?_)))
 cases h
 exact rt ⟨Z, Z⟩ Z w0
 refine aw_skip (aw_seq ?_)
 obtain ⟨r8, r8e, h⟩ := bind_some h
 obtain ⟨r9, r9e, h⟩ := bind_some h
 refine aw_planR (by decide +kernel) [[(0, 0, false)], [], [], [], [], [], [], [], [], [], [], []] [[]] [[[(p6, .cells [.sl .no 14 (m0L c_.Tenants), .i c_.Quantum, .i c_.Deadline])]]] [.agg [.sl .no 14 (m0L c_.Tenants), .i c_.Quantum, .i c_.Deadline], .sl .no 9 (m1L l), .i handle, .str r8, .tup [.i r9.1, .i r9.2.1, .i r9.2.2], .tup [.i r9.1, .i r9.2.1, .i r9.2.2], .i r9.1, .i r9.2.1, .i r9.2.2, .i r9.1, .i r9.2.1, .i r9.2.2] (by decide +kernel) Z Z ?_ ?_
 exact ⟨stepg_plain Z (op_loadN (i := 0) Z isAgg24 sizeOf24 (tm Z) Z (nb Z) Z ⟨Z, Z⟩), ym Z Z Z, ym Z Z Z, stepg_plain Z (op_call (vs := [.sl .no 9 (m1L l), .i handle]) (H := []) Z call27 ⟨(tm Z), (tm Z), trivial⟩ (R := []) (List.Perm.refl _) (mewsref48.Bytes.ok r8e) (by rintro _ _ ⟨rfl, rfl⟩; exact ⟨Z, Z⟩)), stepg_plain Z (op_call (vs := [.agg [.sl .no 14 (m0L c_.Tenants), .i c_.Quantum, .i c_.Deadline], .str r8]) (H := []) Z call26 ⟨(tm Z), (tm Z), trivial⟩ (R := []) (List.Perm.refl _) (mewsref42.Told.ok r9e) (by rintro _ _ ⟨rfl, rfl⟩; exact ⟨Z, Z⟩)), ym Z Z Z, yp Z (pe Z), yp Z (pe Z), yp Z (pe Z), ym Z Z Z, ym Z Z Z, ym Z Z Z, trivial⟩
 refine xr (xy Z (xy Z (xe (aw_ret ?_))))
 cases h
 exact rt ⟨Z, Z⟩ Z w0

end Go.Pu
