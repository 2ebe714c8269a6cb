/- Printed by lift.py: the functions come to them. -/
import Derived.Test.YtmognhokagemiaaGreatLiftWS
import Derived.Test.YtmognhokagemiaaGreatRLK4
set_option maxRecDepth 100000
set_option maxHeartbeats 0
namespace Go.Pu
open Go.Lift Go.Proofs.Tryz Go.RowKit Go.Proofs

theorem mewsref04.Split.ok {s_ : List UInt8} {r : (List (List UInt8)) × Bool} (h : mewsref04.Split s_ = some r) : Go.Lift.Spec prog 126 [.str s_] [] (fun v H => ∃ n0, v = .tup [.sl (.own n0) 1 (r.1.map AV.str), .bool r.2] ∧ H = [(n0, .spare)]) := by
 unfold mewsref04.Split at h
 refine Go.Lift.Spec.of_body (rs := [.tmp 2, .tmp 3]) func126 Z Z (nb Z) Z (xr (xa (.sl .full 1 (([] : List (List UInt8)).map AV.str)) Z (pu_assign Z (AEv.nil 1 (by decide))) (xz (.bool false) Z (xe (xr (xa (.sl .full 1 (([] : List (List UInt8)).map AV.str)) Z (pu_assign Z (AEv.nil 1 (by decide))) (xe ?_)))))))
 refine xr (xz (.int .u8 0) Z (xe (xr (xz (.bool false) Z (xz (.bool false) Z (xe (aw_seq ?_)))))))
 refine aw_region (xa (.str ([] : List UInt8)) Z (pu_assign Z (AEv.const Z)) (xe ?_))
 obtain ⟨s3254, s3254e, h2434⟩ := bind_some h
 refine aw_join (σ := (List (List UInt8)) × Int × Bool × (List UInt8)) (ν := Nat) (fun u v => [(4, .sl (.own v) 1 (u.1.map AV.str)), (5, .int .u8 u.2.1), (6, .bool u.2.2.1), (8, .str u.2.2.2)]) (fun u v => [(v, .spare)]) (fun u => s3254 = .inl u) ?_ ?_
 ·intro s2432
  intro n2433
  rintro rfl
  have h := onSum_inl h2434
  refine aw_seq (xr (xy Z (xz (.bool (!decide (s2432.2.1 = 0))) Z (xe (aw_cond (tm Z) (fun hb3253 => ?_) (fun hb3253 => ?_))))))
  ·replace h := ite_f (ndec_t hb3253) h
   refine xr (xa (.sl .full 1 (([] : List (List UInt8)).map AV.str)) Z (pu_assign Z (AEv.nil 1 (by decide))) (xz (.bool false) Z (xe (aw_claim 2 (tm Z) fun t3242 => (aw_ret ?_)))))
   cases h
   exact rt ⟨t3242, Z, Z⟩ Z (wi [0] Z)
  ·replace h := ite_t (ndec_f hb3253) h
   refine aw_skip ?_
   obtain ⟨s3246, s3246e, h3248⟩ := bind_some h
   refine aw_meet (ν := Nat) (fun v => [(4, .sl (.own v) 1 (s3246.map AV.str))]) (fun v => [(v, .spare)]) ?_ ?_
   ·have h := s3246e
    refine xr (xy Z (xe (cb h (tm Z) (fun _ h => ?_) (fun _ h => ?_))))
    ·refine aw_region (xy Z (xy Z (xc Z (op_buildSlice (xs := ([s2432.2.2.2] : List (List UInt8)).map AV.str) (aparts := [(0, .str s2432.2.2.2)]) Z underlying65 sizeOf9 zeroValue9 (by decide) (by decide) ⟨Z, (tm Z), trivial⟩ Z Z Z ?_))))
     obtain ⟨c3250, h⟩ := need_of h
     refine xc Z (op_appendOM (q := 0) Z underlying65 underlying65 (.inl Z) typeInfo9 Z Z Z (by decide) (tm Z) Z (given_sl (tm Z)) c3250 ?_)
     intro t3251
     refine xy Z (xe ?_)
     cases h
     exact ⟨t3251, wl [0] Z ⟨⟨_, Z, Z⟩, trivial⟩ ⟨(AEv.le (tm Z) vr), trivial⟩⟩
    ·refine aw_skip ?_
     cases h
     exact ⟨n2433, wi [0] Z⟩
   ·intro n3247
    have h := h3248
    refine xr (xy Z (xy Z (xz (.bool true) Z (xe (aw_ret ?_)))))
    cases h
    exact rt ⟨n3247, Z, Z⟩ Z (wi [0] Z)
 ·have h := s3254e
  refine xr (xz (.i 0) Z (xe (aw_block (aw_claim 4 (tm Z) fun t3241 => (aw_while (σ := mewsref04.Split.S0) (ν := Nat) (mewsref04.Split.body0 s_) (fun s3033 v => [(0, .str s_), (4, .sl (.own v) 1 (s3033.out.map AV.str)), (5, .int .u8 s3033.in_), (6, .bool s3033.open_), (7, .bool s3033.closed), (8, .str s3033.now), (9, .i s3033.i)]) (fun s3033 v => [(v, .spare)]) ⟨([] : List (List UInt8)), 0, false, false, ([] : List UInt8), 0⟩ t3241 _ h (wi [0] Z) ?_)))))
  rintro s3033 n3034 x3036 h hx3035
  unfold mewsref04.Split.body0 at h
  refine aw_seq (xr (xy Z (xy Z (xa (.i (s_.length : Int)) Z (pu_strLen Z underlying9 (tm Z)) (xz (.bool (decide (s3033.i < (s_.length : Int)))) Z (xe (cd h (tm Z) (fun _ h => ?_) (fun _ h => ?_))))))))
  ·refine aw_skip ?_
   obtain ⟨s3239, s3239e, h3138⟩ := bind_some h
   refine aw_join (σ := (List (List UInt8)) × Int × Bool × Bool × (List UInt8) × Int) (ν := Nat) (fun u v => [(0, .str s_), (4, .sl (.own v) 1 (u.1.map AV.str)), (5, .int .u8 u.2.1), (6, .bool u.2.2.1), (7, .bool u.2.2.2.1), (8, .str u.2.2.2.2.1), (9, .i u.2.2.2.2.2)]) (fun u v => [(v, .spare)]) (fun u => s3239 = .inl u) ?_ ?_
   ·intro s3136
    intro n3137
    rintro rfl
    have h := onSum_inl h3138
    refine aw_region (xy Z (xz (.i (IntKind.wrap .i64 (s3136.2.2.2.2.2 + 1))) Z (xy Z (xe ?_))))
    cases h
    exact ⟨_, n3137, Z, wl [0] Z ⟨⟨_, Z, Z⟩, trivial⟩ ⟨tm Z, tm Z, tm Z, tm Z, tm Z, tm Z, (AEv.le (tm Z) vr), trivial⟩⟩
   ·have h := s3239e
    refine aw_block (xr (xy Z (xy Z ?_)))
    obtain ⟨c3140, h⟩ := need_of h
    refine xa (.int .u8 (bix s_ s3033.i)) Z (pu_strIdxM Z underlying9 (tm Z) (tm Z) c3140) (xy Z (xe ?_))
    obtain ⟨s3142, s3142e, h3143⟩ := letO_of h
    refine aw_meet (ν := Unit) (fun v => [(0, .str s_), (4, .sl (.own n3034) 1 (s3033.out.map AV.str)), (5, .int .u8 s3033.in_), (6, .bool s3033.open_), (7, .bool s3033.closed), (8, .str s3033.now), (9, .i s3033.i), (10, .int .u8 (bix s_ s3033.i)), (11, .bool s3142)]) (fun v => [(n3034, .spare)]) ?_ ?_
    ·have h := s3142e.symm
     refine aw_region (xy Z (xz (.bool (decide ((bix s_ s3033.i) = 32))) Z (xy Z ?_)))
     rcases Bool.eq_false_or_eq_true (decide ((bix s_ s3033.i) = 32)) with hb3145 | hb3145
     ·replace h := ite_t (dec_t hb3145) h
      refine aops_known 23 Z hb3145 (xu Z (xu Z (xz (.bool true) Z (xy Z (xe ?_)))))
      subst h
      exact ⟨(), wi [0] Z⟩
     ·replace h := ite_f (dec_f hb3145) h
      refine aops_known 23 Z hb3145 (xq Z Z Z Z (xp (.bool (decide ((bix s_ s3033.i) = 9))) Z Z (pe Z) (xz (.bool (decide ((bix s_ s3033.i) = 9))) Z (xy Z (xe ?_)))))
      subst h
      exact ⟨(), wl [0] Z ⟨⟨_, Z, Z⟩, trivial⟩ ⟨tm Z, tm Z, tm Z, tm Z, tm Z, tm Z, tm Z, tm Z, (AEv.le (tm Z) vr), trivial⟩⟩
    ·intro _
     have h := h3143
     refine aw_seq ?_
     obtain ⟨s3147, s3147e, h3148⟩ := letO_of h
     refine aw_meet (ν := Unit) (fun v => [(0, .str s_), (4, .sl (.own n3034) 1 (s3033.out.map AV.str)), (5, .int .u8 s3033.in_), (6, .bool s3033.open_), (8, .str s3033.now), (9, .i s3033.i), (10, .int .u8 (bix s_ s3033.i)), (11, .bool s3142), (31, .bool s3147)]) (fun v => [(n3034, .spare)]) ?_ ?_
     ·have h := s3147e.symm
      refine aw_region (xy Z (xy Z ?_))
      rcases Bool.eq_false_or_eq_true s3033.closed with hb3150 | hb3150
      ·replace h := ite_t hb3150 h
       refine aops_known 28 Z hb3150 (xq Z Z Z Z (xp (.bool (!s3142)) Z Z (pe Z) (xz (.bool (!s3142)) Z (xe ?_))))
       subst h
       exact ⟨(), wi [0] Z⟩
      ·replace h := ite_fb hb3150 h
       refine aops_known 28 Z hb3150 (xu Z (xu Z (xz (.bool false) Z (xe ?_))))
       subst h
       exact ⟨(), wi [0] Z⟩
     ·intro _
      have h := h3148
      refine aw_cond (b := s3147) (tm Z) (fun hb3238 => ?_) (fun hb3238 => ?_)
      ·replace h := ite_t hb3238 h
       refine xr (xa (.sl .full 1 (([] : List (List UInt8)).map AV.str)) Z (pu_assign Z (AEv.nil 1 (by decide))) (xz (.bool false) Z (xe (aw_claim 2 (tm Z) fun t3151 => (aw_ret ?_)))))
       cases h
       have h := onSum_inr h3138
       cases h
       have h := congrArg some (hx3035 _ rfl)
       cases h
       have h := onSum_inr h2434
       cases h
       exact rt ⟨t3151, Z, Z⟩ Z (wi [0] Z)
      ·replace h := ite_fb hb3238 h
       refine aw_skip (xr (xz (.bool false) Z (xe (aw_block ?_))))
       obtain ⟨s3153, s3153e, h3154⟩ := letO_of h
       refine aw_meet (ν := Unit) (fun v => [(0, .str s_), (4, .sl (.own n3034) 1 (s3033.out.map AV.str)), (5, .int .u8 s3033.in_), (6, .bool s3033.open_), (7, .bool false), (8, .str s3033.now), (9, .i s3033.i), (10, .int .u8 (bix s_ s3033.i)), (39, .bool s3153)]) (fun v => [(n3034, .spare)]) ?_ ?_
       ·have h := s3153e.symm
        refine aw_region (xy Z (xz (.bool (decide (s3033.in_ = 0))) Z (xy Z ?_)))
        rcases Bool.eq_false_or_eq_true (decide (s3033.in_ = 0)) with hb3156 | hb3156
        ·replace h := ite_t (dec_t hb3156) h
         refine aops_known 42 Z hb3156 (xq Z Z Z Z (xz (.bool s3142) Z (xy Z (xe ?_))))
         subst h
         exact ⟨(), wi [0] Z⟩
        ·replace h := ite_f (dec_f hb3156) h
         refine aops_known 42 Z hb3156 (xu Z (xz (.bool false) Z (xy Z (xe ?_))))
         subst h
         exact ⟨(), wi [0] Z⟩
       ·intro _
        have h := h3154
        refine aw_cond (b := s3153) (tm Z) (fun hb3237 => ?_) (fun hb3237 => ?_)
        ·replace h := ite_t hb3237 h
         obtain ⟨s3160, s3160e, h3162⟩ := bind_some h
         refine aw_meet (ν := Nat) (fun v => [(0, .str s_), (4, .sl (.own v) 1 (s3160.map AV.str)), (5, .int .u8 s3033.in_), (7, .bool false), (9, .i s3033.i)]) (fun v => [(v, .spare)]) ?_ ?_
         ·have h := s3160e
          refine xr (xy Z (xe (cb h (tm Z) (fun _ h => ?_) (fun _ h => ?_))))
          ·refine aw_region (xy Z (xy Z (xc Z (op_buildSlice (xs := ([s3033.now] : List (List UInt8)).map AV.str) (aparts := [(0, .str s3033.now)]) Z underlying65 sizeOf9 zeroValue9 (by decide) (by decide) ⟨Z, (tm Z), trivial⟩ Z Z Z ?_))))
           obtain ⟨c3164, h⟩ := need_of h
           refine xc Z (op_appendOM (q := 0) Z underlying65 underlying65 (.inl Z) typeInfo9 Z Z Z (by decide) (tm Z) Z (given_sl (tm Z)) c3164 ?_)
           intro t3165
           refine xy Z (xe ?_)
           cases h
           exact ⟨t3165, wl [0] Z ⟨⟨_, Z, Z⟩, trivial⟩ ⟨tm Z, (AEv.le (tm Z) vr), tm Z, tm Z, tm Z, trivial⟩⟩
          ·refine aw_skip ?_
           cases h
           exact ⟨n3034, wi [0] Z⟩
         ·intro n3161
          have h := h3162
          refine aw_region (xz (.bool false) Z (xa (.str ([] : List UInt8)) Z (pu_assign Z (AEv.const Z)) (xe ?_)))
          exact ⟨(s3160, s3033.in_, false, false, ([] : List UInt8), s3033.i), n3161, (some_of h).symm, wi [0] Z⟩
        ·replace h := ite_fb hb3237 h
         obtain ⟨s3169, s3169e, h3170⟩ := letO_of h
         refine aw_meet (ν := Unit) (fun v => [(0, .str s_), (4, .sl (.own n3034) 1 (s3033.out.map AV.str)), (5, .int .u8 s3033.in_), (6, .bool s3033.open_), (7, .bool false), (8, .str s3033.now), (9, .i s3033.i), (10, .int .u8 (bix s_ s3033.i)), (50, .bool s3169)]) (fun v => [(n3034, .spare)]) ?_ ?_
         ·have h := s3169e.symm
          refine aw_region (xy Z (xz (.bool (decide (s3033.in_ = 0))) Z (xy Z ?_)))
          rcases Bool.eq_false_or_eq_true (decide (s3033.in_ = 0)) with hb3172 | hb3172
          ·replace h := ite_t (dec_t hb3172) h
           refine aops_known 53 Z hb3172 (xq Z Z Z Z (xp (.bool (decide ((bix s_ s3033.i) = 34))) Z Z (pe Z) (xq Z Z Z Z ?_)))
           rcases Bool.eq_false_or_eq_true (decide ((bix s_ s3033.i) = 34)) with hb3173 | hb3173
           ·replace h := ite_t (dec_t hb3173) h
            refine aops_known 56 Z hb3173 (xu Z (xu Z (xp (.bool true) Z Z (pe Z) (xz (.bool true) Z (xy Z (xe ?_))))))
            subst h
            exact ⟨(), wi [0] Z⟩
           ·replace h := ite_f (dec_f hb3173) h
            refine aops_known 56 Z hb3173 (xq Z Z Z Z (xp (.bool (decide ((bix s_ s3033.i) = 39))) Z Z (pe Z) (xp (.bool (decide ((bix s_ s3033.i) = 39))) Z Z (pe Z) (xz (.bool (decide ((bix s_ s3033.i) = 39))) Z (xy Z (xe ?_))))))
            subst h
            exact ⟨(), wl [0] Z ⟨⟨_, Z, Z⟩, trivial⟩ ⟨tm Z, tm Z, tm Z, tm Z, tm Z, tm Z, tm Z, tm Z, (AEv.le (tm Z) vr), trivial⟩⟩
          ·replace h := ite_f (dec_f hb3172) h
           refine aops_known 53 Z hb3172 (xu Z (xu Z (xu Z (xv Z Z (xv Z Z (xu Z (xz (.bool false) Z (xy Z (xe ?_)))))))))
           subst h
           exact ⟨(), wi [0] Z⟩
         ·intro _
          have h := h3170
          refine aw_cond (b := s3169) (tm Z) (fun hb3236 => ?_) (fun hb3236 => ?_)
          ·replace h := ite_t hb3236 h
           refine aw_region (xy Z (xy Z (xz (.bool true) Z (xe ?_))))
           exact ⟨(s3033.out, bix s_ s3033.i, true, false, s3033.now, s3033.i), n3034, (some_of h).symm, wl [0] Z ⟨⟨_, Z, Z⟩, trivial⟩ ⟨tm Z, tm Z, (AEv.le (tm Z) vr), tm Z, tm Z, tm Z, tm Z, trivial⟩⟩
          ·replace h := ite_fb hb3236 h
           refine xr (xy Z (xz (.bool (decide (s3033.in_ = 0))) Z (xy Z (xe (cd h (tm Z) (fun _ h => ?_) (fun _ h => ?_))))))
           ·refine xr (xy Z (xy Z (xy Z (xy Z (xz (.i (IntKind.wrap .i64 (s3033.i + 1))) Z ?_)))))
            obtain ⟨c3174, h⟩ := need_of h
            refine xa (.str (sub s_ s3033.i (IntKind.wrap .i64 (s3033.i + 1)))) Z (pu_strSliceM Z underlying9 (tm Z) ⟨_, (tm Z)⟩ ⟨_, (tm Z)⟩ c3174) ?_
            obtain ⟨c3175, h⟩ := need_of h
            refine xa (.str (s3033.now ++ (sub s_ s3033.i (IntKind.wrap .i64 (s3033.i + 1))))) Z (pu_strAdd Z (tm Z) (tm Z) c3175) (xy Z (xe (aw_region (xz (.bool true) Z (xe ?_)))))
            exact ⟨(s3033.out, s3033.in_, true, false, s3033.now ++ (sub s_ s3033.i (IntKind.wrap .i64 (s3033.i + 1))), s3033.i), n3034, (some_of h).symm, wl [0] Z ⟨⟨_, Z, Z⟩, trivial⟩ ⟨tm Z, tm Z, tm Z, tm Z, tm Z, (AEv.le (tm Z) vr), tm Z, trivial⟩⟩
           ·refine xr (xy Z (xy Z (xz (.bool (decide ((bix s_ s3033.i) = s3033.in_))) Z (xy Z (xe (cd h (tm Z) (fun _ h => ?_) (fun _ h => ?_)))))))
            ·refine aw_region (xz (.int .u8 0) Z (xz (.bool true) Z (xe ?_)))
             exact ⟨(s3033.out, 0, s3033.open_, true, s3033.now, s3033.i), n3034, (some_of h).symm, wi [0] Z⟩
            ·obtain ⟨s3186, s3186e, h3187⟩ := bind_some h
             refine aw_meet (ν := Unit) (fun v => [(0, .str s_), (4, .sl (.own n3034) 1 (s3033.out.map AV.str)), (5, .int .u8 s3033.in_), (6, .bool s3033.open_), (7, .bool false), (8, .str s3033.now), (9, .i s3033.i), (10, .int .u8 (bix s_ s3033.i)), (76, .bool s3186)]) (fun v => [(n3034, .spare)]) ?_ ?_
             ·have h := s3186e
              refine aw_region (xy Z (xz (.bool (decide ((bix s_ s3033.i) = 92))) Z (xy Z ?_)))
              rcases Bool.eq_false_or_eq_true (decide ((bix s_ s3033.i) = 92)) with hb3189 | hb3189
              ·replace h := ite_t (dec_t hb3189) h
               refine aops_known 79 Z hb3189 (xq Z Z Z Z (xp (.bool (decide (s3033.in_ = 34))) Z Z (pe Z) (xz (.bool (decide (s3033.in_ = 34))) Z (xy Z ?_))))
               rcases Bool.eq_false_or_eq_true (decide (s3033.in_ = 34)) with hb3190 | hb3190
               ·replace h := ite_t (dec_t hb3190) h
                refine aops_known 83 Z hb3190 (xq Z Z Z Z (xp (.i (IntKind.wrap .i64 (s3033.i + 3))) Z Z (pe Z) (xq Z Z Z Z (xp (.i (s_.length : Int)) Z Z (pu_strLen Z underlying9 (tm Z)) (xp (.bool (decide ((IntKind.wrap .i64 (s3033.i + 3)) < (s_.length : Int)))) Z Z (pe Z) (xz (.bool (decide ((IntKind.wrap .i64 (s3033.i + 3)) < (s_.length : Int)))) Z (xy Z ?_)))))))
                rcases Bool.eq_false_or_eq_true (decide ((IntKind.wrap .i64 (s3033.i + 3)) < (s_.length : Int))) with hb3191 | hb3191
                ·replace h := ite_t (dec_t hb3191) h
                 refine aops_known 90 Z hb3191 (xq Z Z Z Z (xq Z Z Z Z (xp (.i (IntKind.wrap .i64 (s3033.i + 1))) Z Z (pe Z) ?_)))
                 obtain ⟨c3192, h⟩ := need_of h
                 refine xp (.int .u8 (bix s_ (IntKind.wrap .i64 (s3033.i + 1)))) Z Z (pu_strIdxM Z underlying9 (tm Z) (tm Z) c3192) (xp (.bool (decide ((bix s_ (IntKind.wrap .i64 (s3033.i + 1))) = 120))) Z Z (pe Z) (xz (.bool (decide ((bix s_ (IntKind.wrap .i64 (s3033.i + 1))) = 120))) Z (xy Z ?_)))
                 rcases Bool.eq_false_or_eq_true (decide ((bix s_ (IntKind.wrap .i64 (s3033.i + 1))) = 120)) with hb3193 | hb3193
                 ·replace h := ite_t (dec_t hb3193) h
                  refine aops_known 97 Z hb3193 (xq Z Z Z Z (xq Z Z Z Z (xp (.i (IntKind.wrap .i64 (s3033.i + 2))) Z Z (pe Z) ?_)))
                  obtain ⟨c3194, h⟩ := need_of h
                  refine xp (.int .u8 (bix s_ (IntKind.wrap .i64 (s3033.i + 2)))) Z Z (pu_strIdxM Z underlying9 (tm Z) (tm Z) c3194) ?_
                  obtain ⟨r3195, r3195e, h⟩ := bind_some h
                  refine xg Z Z (op_call (vs := [.int .u8 (bix s_ (IntKind.wrap .i64 (s3033.i + 2)))]) (H := []) Z call140 ⟨(tm Z), trivial⟩ (List.Perm.refl _) (mewsref04.digit.ok r3195e) ?_)
                  rintro _ _ ⟨rfl, rfl⟩
                  refine xp (.bool (decide (r3195 < 16))) Z Z (pe Z) (xz (.bool (decide (r3195 < 16))) Z (xy Z ?_))
                  rcases Bool.eq_false_or_eq_true (decide (r3195 < 16)) with hb3196 | hb3196
                  ·replace h := ite_t (dec_t hb3196) h
                   refine aops_known 105 Z hb3196 (xq Z Z Z Z (xq Z Z Z Z (xp (.i (IntKind.wrap .i64 (s3033.i + 3))) Z Z (pe Z) ?_)))
                   obtain ⟨c3197, h⟩ := need_of h
                   refine xp (.int .u8 (bix s_ (IntKind.wrap .i64 (s3033.i + 3)))) Z Z (pu_strIdxM Z underlying9 (tm Z) (tm Z) c3197) ?_
                   obtain ⟨r3198, r3198e, h⟩ := bind_some h
                   refine xg Z Z (op_call (vs := [.int .u8 (bix s_ (IntKind.wrap .i64 (s3033.i + 3)))]) (H := []) Z call140 ⟨(tm Z), trivial⟩ (List.Perm.refl _) (mewsref04.digit.ok r3198e) ?_)
                   rintro _ _ ⟨rfl, rfl⟩
                   refine xp (.bool (decide (r3198 < 16))) Z Z (pe Z) (xz (.bool (decide (r3198 < 16))) Z (xy Z (xe ?_)))
                   cases h
                   exact ⟨(), wl [0] Z ⟨⟨_, Z, Z⟩, trivial⟩ ⟨tm Z, tm Z, tm Z, tm Z, tm Z, tm Z, tm Z, tm Z, (AEv.le (tm Z) vr), trivial⟩⟩
                  ·replace h := ite_f (dec_f hb3196) h
                   refine aops_known 105 Z hb3196 (xu Z (xu Z (xu Z (xu Z (xu Z (xu Z (xz (.bool false) Z (xy Z (xe ?_)))))))))
                   cases h
                   exact ⟨(), wi [0] Z⟩
                 ·replace h := ite_f (dec_f hb3193) h
                  refine aops_known 97 Z hb3193 (xu Z (xu Z (xu Z (xu Z (xu Z (xu Z (xz (.bool false) Z (xy Z (xu Z ?_)))))))))
                  refine xu Z (xu Z (xu Z (xu Z (xu Z (xz (.bool false) Z (xy Z (xe ?_)))))))
                  cases h
                  exact ⟨(), wi [0] Z⟩
                ·replace h := ite_f (dec_f hb3191) h
                 refine aops_known 90 Z hb3191 (xu Z (xu Z (xu Z (xu Z (xu Z (xz (.bool false) Z (xy Z (xu Z (xu Z ?_)))))))))
                 refine xu Z (xu Z (xu Z (xu Z (xz (.bool false) Z (xy Z (xu Z (xu Z (xu Z (xu Z ?_)))))))))
                 refine xu Z (xu Z (xz (.bool false) Z (xy Z (xe ?_))))
                 cases h
                 exact ⟨(), wi [0] Z⟩
               ·replace h := ite_f (dec_f hb3190) h
                refine aops_known 83 Z hb3190 (xu Z (xu Z (xu Z (xu Z (xu Z (xz (.bool false) Z (xy Z (xu Z (xu Z ?_)))))))))
                refine xu Z (xu Z (xu Z (xz (.bool false) Z (xy Z (xu Z (xu Z (xu Z (xu Z (xu Z ?_)))))))))
                refine xu Z (xz (.bool false) Z (xy Z (xu Z (xu Z (xu Z (xu Z (xu Z (xu Z (xz (.bool false) Z ?_)))))))))
                refine xy Z (xe ?_)
                cases h
                exact ⟨(), wi [0] Z⟩
              ·replace h := ite_f (dec_f hb3189) h
               refine aops_known 79 Z hb3189 (xu Z (xu Z (xz (.bool false) Z (xy Z (xu Z (xu Z (xu Z (xu Z (xu Z ?_)))))))))
               refine xz (.bool false) Z (xy Z (xu Z (xu Z (xu Z (xu Z (xu Z (xz (.bool false) Z (xy Z (xu Z ?_)))))))))
               refine xu Z (xu Z (xu Z (xu Z (xu Z (xz (.bool false) Z (xy Z (xu Z (xu Z (xu Z ?_)))))))))
               refine xu Z (xu Z (xu Z (xz (.bool false) Z (xy Z (xe ?_)))))
               cases h
               exact ⟨(), wi [0] Z⟩
             ·intro _
              have h := h3187
              refine aw_cond (b := s3186) (tm Z) (fun hb3233 => ?_) (fun hb3233 => ?_)
              ·replace h := ite_t hb3233 h
               refine aw_seq ?_
               obtain ⟨c3199, h⟩ := need_of h
               obtain ⟨r3200, r3200e, h⟩ := bind_some h
               obtain ⟨c3201, h⟩ := need_of h
               obtain ⟨r3202, r3202e, h⟩ := bind_some h
               obtain ⟨c3203, h⟩ := need_of h
               obtain ⟨c3204, h⟩ := need_of h
               obtain ⟨x3205, x3205e, h⟩ := letO_of h
               refine aw_planR (by decide +kernel) [[], [], [], [], [], [], [], [], [], [], [], [], [], [], [], [], [], []] [[]] [[[(n3034, .spare)]]] [.str s3033.now, .str s_, .i s3033.i, .i (IntKind.wrap .i64 (s3033.i + 2)), .int .u8 (bix s_ (IntKind.wrap .i64 (s3033.i + 2))), .i r3200, .i (IntKind.wrap .i64 (16 * r3200)), .str s_, .i s3033.i, .i (IntKind.wrap .i64 (s3033.i + 3)), .int .u8 (bix s_ (IntKind.wrap .i64 (s3033.i + 3))), .i r3202, .i (IntKind.wrap .i64 ((IntKind.wrap .i64 (16 * r3200)) + r3202)), .int .u8 (IntKind.wrap .u8 (IntKind.wrap .i64 ((IntKind.wrap .i64 (16 * r3200)) + r3202))), .sl .full 1 ([u8 (IntKind.wrap .u8 (IntKind.wrap .i64 ((IntKind.wrap .i64 (16 * r3200)) + r3202)))].map byteAV), .str [u8 (IntKind.wrap .u8 (IntKind.wrap .i64 ((IntKind.wrap .i64 (16 * r3200)) + r3202)))], .str x3205, .str x3205] (by decide +kernel) Z Z ?_ ?_
               ·exact ⟨ym Z Z Z, ym Z Z Z, ym Z Z Z, yp Z (pe Z), yp Z (pu_strIdxM Z underlying9 (tm Z) (tm Z) c3199), stepg_plain Z (op_call (vs := [.int .u8 (bix s_ (IntKind.wrap .i64 (s3033.i + 2)))]) (H := []) Z call140 ⟨(tm Z), trivial⟩ (R := []) (List.Perm.refl _) (mewsref04.digit.ok r3200e) (by rintro _ _ ⟨rfl, rfl⟩; exact ⟨Z, Z⟩)), yp Z (pe Z), ym Z Z Z, ym Z Z Z, yp Z (pe Z), yp Z (pu_strIdxM Z underlying9 (tm Z) (tm Z) c3201), stepg_plain Z (op_call (vs := [.int .u8 (bix s_ (IntKind.wrap .i64 (s3033.i + 3)))]) (H := []) Z call140 ⟨(tm Z), trivial⟩ (R := []) (List.Perm.refl _) (mewsref04.digit.ok r3202e) (by rintro _ _ ⟨rfl, rfl⟩; exact ⟨Z, Z⟩)), yp Z (pe Z), yp Z (pu_conv Z underlying3 underlying5 (tm Z)), stepg_plain Z (op_buildSlice (xs := ([u8 (IntKind.wrap .u8 (IntKind.wrap .i64 ((IntKind.wrap .i64 (16 * r3200)) + r3202)))] : List UInt8).map byteAV) (aparts := [(0, byteAV (u8 (IntKind.wrap .u8 (IntKind.wrap .i64 ((IntKind.wrap .i64 (16 * r3200)) + r3202)))))]) Z underlying114 sizeOf5 zeroValue5 (by decide) (by decide) ⟨Z, (AEv.le (tm Z) (AV.Le.of_eq (byteAV_u8 c3203.1 c3203.2).symm)), trivial⟩ Z Z Z ⟨Z, Z⟩), stepg_plain Z (op_bytesStr Z underlying114 underlying5 underlying9 (tm Z) ⟨Z, Z⟩), yp Z (APure.eq (pu_strAdd Z (tm Z) (tm Z) c3204) (congrArg (AV.str) x3205e.symm)), ym Z Z Z, trivial⟩
               refine aw_region (xy Z (xz (.i (IntKind.wrap .i64 (s3033.i + 3))) Z (xy Z (xe ?_))))
               exact ⟨(s3033.out, s3033.in_, s3033.open_, false, x3205, IntKind.wrap .i64 (s3033.i + 3)), n3034, (some_of h).symm, wl [0] Z ⟨⟨_, Z, Z⟩, trivial⟩ ⟨tm Z, tm Z, tm Z, tm Z, tm Z, tm Z, (AEv.le (tm Z) vr), trivial⟩⟩
              ·replace h := ite_fb hb3233 h
               obtain ⟨s3208, s3208e, h3209⟩ := letO_of h
               refine aw_meet (ν := Unit) (fun v => [(0, .str s_), (4, .sl (.own n3034) 1 (s3033.out.map AV.str)), (5, .int .u8 s3033.in_), (6, .bool s3033.open_), (7, .bool false), (8, .str s3033.now), (9, .i s3033.i), (10, .int .u8 (bix s_ s3033.i)), (132, .bool s3208)]) (fun v => [(n3034, .spare)]) ?_ ?_
               ·have h := s3208e.symm
                refine aw_region (xy Z (xz (.bool (decide ((bix s_ s3033.i) = 92))) Z (xy Z ?_)))
                rcases Bool.eq_false_or_eq_true (decide ((bix s_ s3033.i) = 92)) with hb3211 | hb3211
                ·replace h := ite_t (dec_t hb3211) h
                 refine aops_known 135 Z hb3211 (xq Z Z Z Z (xp (.bool (decide (s3033.in_ = 34))) Z Z (pe Z) (xz (.bool (decide (s3033.in_ = 34))) Z (xy Z ?_))))
                 rcases Bool.eq_false_or_eq_true (decide (s3033.in_ = 34)) with hb3212 | hb3212
                 ·replace h := ite_t (dec_t hb3212) h
                  refine aops_known 139 Z hb3212 (xq Z Z Z Z (xp (.i (IntKind.wrap .i64 (s3033.i + 1))) Z Z (pe Z) (xq Z Z Z Z (xp (.i (s_.length : Int)) Z Z (pu_strLen Z underlying9 (tm Z)) (xp (.bool (decide ((IntKind.wrap .i64 (s3033.i + 1)) < (s_.length : Int)))) Z Z (pe Z) (xz (.bool (decide ((IntKind.wrap .i64 (s3033.i + 1)) < (s_.length : Int)))) Z (xy Z (xe ?_))))))))
                  subst h
                  exact ⟨(), wl [0] Z ⟨⟨_, Z, Z⟩, trivial⟩ ⟨tm Z, tm Z, tm Z, tm Z, tm Z, tm Z, tm Z, tm Z, (AEv.le (tm Z) vr), trivial⟩⟩
                 ·replace h := ite_f (dec_f hb3212) h
                  refine aops_known 139 Z hb3212 (xu Z (xu Z (xu Z (xu Z (xu Z (xz (.bool false) Z (xy Z (xe ?_))))))))
                  subst h
                  exact ⟨(), wi [0] Z⟩
                ·replace h := ite_f (dec_f hb3211) h
                 refine aops_known 135 Z hb3211 (xu Z (xu Z (xz (.bool false) Z (xy Z (xu Z (xu Z (xu Z (xu Z (xu Z ?_)))))))))
                 refine xz (.bool false) Z (xy Z (xe ?_))
                 subst h
                 exact ⟨(), wi [0] Z⟩
               ·intro _
                have h := h3209
                refine aw_cond (b := s3208) (tm Z) (fun hb3232 => ?_) (fun hb3232 => ?_)
                ·replace h := ite_t hb3232 h
                 refine xr (xy Z (xy Z (xy Z (xz (.i (IntKind.wrap .i64 (s3033.i + 1))) Z ?_))))
                 obtain ⟨c3213, h⟩ := need_of h
                 refine xa (.int .u8 (bix s_ (IntKind.wrap .i64 (s3033.i + 1)))) Z (pu_strIdxM Z underlying9 (tm Z) (tm Z) c3213) ?_
                 obtain ⟨r3214, r3214e, h⟩ := bind_some h
                 refine xk (mewsref04.turned.ok r3214e) call141 Z ?_
                 rintro _ _ ⟨rfl, rfl⟩
                 obtain ⟨c3215, h⟩ := need_of h
                 refine xc Z (op_buildSlice (xs := ([u8 r3214] : List UInt8).map byteAV) (aparts := [(0, byteAV (u8 r3214))]) Z underlying114 sizeOf5 zeroValue5 (by decide) (by decide) ⟨Z, (AEv.le (tm Z) (AV.Le.of_eq (byteAV_u8 c3215.1 c3215.2).symm)), trivial⟩ Z Z Z (xc Z (op_bytesStr Z underlying114 underlying5 underlying9 (tm Z) ?_)))
                 obtain ⟨c3216, h⟩ := need_of h
                 refine xa (.str (s3033.now ++ [u8 r3214])) Z (pu_strAdd Z (tm Z) (tm Z) c3216) (xy Z (xe (aw_region (xy Z (xz (.i (IntKind.wrap .i64 (s3033.i + 1))) Z (xy Z (xe ?_)))))))
                 exact ⟨(s3033.out, s3033.in_, s3033.open_, false, s3033.now ++ [u8 r3214], IntKind.wrap .i64 (s3033.i + 1)), n3034, (some_of h).symm, wl [0] Z ⟨⟨_, Z, Z⟩, trivial⟩ ⟨tm Z, tm Z, tm Z, tm Z, tm Z, (AEv.le (tm Z) vr), (AEv.le (tm Z) vr), trivial⟩⟩
                ·replace h := ite_fb hb3232 h
                 obtain ⟨s3221, s3221e, h3222⟩ := bind_some h
                 refine aw_meet (ν := Unit) (fun v => [(0, .str s_), (4, .sl (.own n3034) 1 (s3033.out.map AV.str)), (5, .int .u8 s3033.in_), (6, .bool s3033.open_), (7, .bool false), (8, .str s3033.now), (9, .i s3033.i), (157, .bool s3221)]) (fun v => [(n3034, .spare)]) ?_ ?_
                 ·have h := s3221e
                  refine aw_region (xy Z (xz (.bool (decide ((bix s_ s3033.i) = 92))) Z (xy Z ?_)))
                  rcases Bool.eq_false_or_eq_true (decide ((bix s_ s3033.i) = 92)) with hb3224 | hb3224
                  ·replace h := ite_t (dec_t hb3224) h
                   refine aops_known 160 Z hb3224 (xq Z Z Z Z (xp (.bool (decide (s3033.in_ = 39))) Z Z (pe Z) (xz (.bool (decide (s3033.in_ = 39))) Z (xy Z ?_))))
                   rcases Bool.eq_false_or_eq_true (decide (s3033.in_ = 39)) with hb3225 | hb3225
                   ·replace h := ite_t (dec_t hb3225) h
                    refine aops_known 164 Z hb3225 (xq Z Z Z Z (xp (.i (IntKind.wrap .i64 (s3033.i + 1))) Z Z (pe Z) (xq Z Z Z Z (xp (.i (s_.length : Int)) Z Z (pu_strLen Z underlying9 (tm Z)) (xp (.bool (decide ((IntKind.wrap .i64 (s3033.i + 1)) < (s_.length : Int)))) Z Z (pe Z) (xz (.bool (decide ((IntKind.wrap .i64 (s3033.i + 1)) < (s_.length : Int)))) Z (xy Z ?_)))))))
                    rcases Bool.eq_false_or_eq_true (decide ((IntKind.wrap .i64 (s3033.i + 1)) < (s_.length : Int))) with hb3226 | hb3226
                    ·replace h := ite_t (dec_t hb3226) h
                     refine aops_known 171 Z hb3226 (xq Z Z Z Z (xq Z Z Z Z (xp (.i (IntKind.wrap .i64 (s3033.i + 1))) Z Z (pe Z) ?_)))
                     obtain ⟨c3227, h⟩ := need_of h
                     refine xp (.int .u8 (bix s_ (IntKind.wrap .i64 (s3033.i + 1)))) Z Z (pu_strIdxM Z underlying9 (tm Z) (tm Z) c3227) (xp (.bool (decide ((bix s_ (IntKind.wrap .i64 (s3033.i + 1))) = 39))) Z Z (pe Z) (xz (.bool (decide ((bix s_ (IntKind.wrap .i64 (s3033.i + 1))) = 39))) Z (xy Z (xe ?_))))
                     cases h
                     exact ⟨(), wl [0] Z ⟨⟨_, Z, Z⟩, trivial⟩ ⟨tm Z, tm Z, tm Z, tm Z, tm Z, tm Z, tm Z, (AEv.le (tm Z) vr), trivial⟩⟩
                    ·replace h := ite_f (dec_f hb3226) h
                     refine aops_known 171 Z hb3226 (xu Z (xu Z (xu Z (xu Z (xu Z (xz (.bool false) Z (xy Z (xe ?_))))))))
                     cases h
                     exact ⟨(), wi [0] Z⟩
                   ·replace h := ite_f (dec_f hb3225) h
                    refine aops_known 164 Z hb3225 (xu Z (xu Z (xu Z (xu Z (xu Z (xz (.bool false) Z (xy Z (xu Z (xu Z ?_)))))))))
                    refine xu Z (xu Z (xu Z (xz (.bool false) Z (xy Z (xe ?_)))))
                    cases h
                    exact ⟨(), wi [0] Z⟩
                  ·replace h := ite_f (dec_f hb3224) h
                   refine aops_known 160 Z hb3224 (xu Z (xu Z (xz (.bool false) Z (xy Z (xu Z (xu Z (xu Z (xu Z (xu Z ?_)))))))))
                   refine xz (.bool false) Z (xy Z (xu Z (xu Z (xu Z (xu Z (xu Z (xz (.bool false) Z (xy Z (xe ?_)))))))))
                   cases h
                   exact ⟨(), wi [0] Z⟩
                 ·intro _
                  have h := h3222
                  refine aw_cond (b := s3221) (tm Z) (fun hb3231 => ?_) (fun hb3231 => ?_)
                  ·replace h := ite_t hb3231 h
                   refine xr (xy Z ?_)
                   obtain ⟨c3228, h⟩ := need_of h
                   refine xa (.str (s3033.now ++ [39])) Z (pu_strAdd Z (tm Z) (AEv.const Z) c3228) (xy Z (xe (aw_region (xy Z (xz (.i (IntKind.wrap .i64 (s3033.i + 1))) Z (xy Z (xe ?_)))))))
                   exact ⟨(s3033.out, s3033.in_, s3033.open_, false, s3033.now ++ [39], IntKind.wrap .i64 (s3033.i + 1)), n3034, (some_of h).symm, wl [0] Z ⟨⟨_, Z, Z⟩, trivial⟩ ⟨tm Z, tm Z, tm Z, tm Z, tm Z, (AEv.le (tm Z) vr), (AEv.le (tm Z) vr), trivial⟩⟩
                  ·replace h := ite_fb hb3231 h
                   refine aw_region (xy Z (xy Z (xy Z (xy Z (xz (.i (IntKind.wrap .i64 (s3033.i + 1))) Z ?_)))))
                   obtain ⟨c3229, h⟩ := need_of h
                   refine xa (.str (sub s_ s3033.i (IntKind.wrap .i64 (s3033.i + 1)))) Z (pu_strSliceM Z underlying9 (tm Z) ⟨_, (tm Z)⟩ ⟨_, (tm Z)⟩ c3229) ?_
                   obtain ⟨c3230, h⟩ := need_of h
                   refine xa (.str (s3033.now ++ (sub s_ s3033.i (IntKind.wrap .i64 (s3033.i + 1))))) Z (pu_strAdd Z (tm Z) (tm Z) c3230) (xy Z (xe ?_))
                   exact ⟨(s3033.out, s3033.in_, s3033.open_, false, s3033.now ++ (sub s_ s3033.i (IntKind.wrap .i64 (s3033.i + 1))), s3033.i), n3034, (some_of h).symm, wl [0] Z ⟨⟨_, Z, Z⟩, trivial⟩ ⟨tm Z, tm Z, tm Z, tm Z, tm Z, (AEv.le (tm Z) vr), tm Z, trivial⟩⟩
  ·refine aw_exit ?_
   cases h
   have h := congrArg some (hx3035 _ rfl)
   exact ⟨(s3033.out, s3033.in_, s3033.open_, s3033.now), n3034, (some_of h).symm, wi [0] Z⟩

theorem mewsref05.one.ok {s_ : List UInt8} {l : api.Limits} {r : api.Input × Int} (h : mewsref05.one s_ l = some r) : Go.Lift.Spec prog 103 [.str s_, .agg [.i l.Args, .i l.Bulk, .i l.Line]] [] (fun v H => v = .tup [.agg [.str r.1.Rest, .sl .no 1 (r.1.Args.map AV.str), .i r.1.Left, .i r.1.Size, .bool r.1.Body, .i r.1.Need, .i r.1.Dead], .i r.2] ∧ H = []) := by
 unfold mewsref05.one at h
 refine Go.Lift.Spec.of_body (rs := [.cell 4 144, .tmp 5]) func103 Z Z (nb Z) Z (xr (xc Z (op_box (cs := [.i l.Args, .i l.Bulk, .i l.Line]) (v := .agg [.i l.Args, .i l.Bulk, .i l.Line]) Z (tm Z) Z Z ?_)))
 intro p848
 refine xc Z (op_alloc (cs := [.str ([] : List UInt8), .sl .full 1 (([] : List (List UInt8)).map AV.str), .i 0, .i 0, .bool false, .i 0, .i 0]) (v := .agg [.str ([] : List UInt8), .sl .full 1 (([] : List (List UInt8)).map AV.str), .i 0, .i 0, .bool false, .i 0, .i 0]) Z zeroValue144 Z Z Z ?_)
 intro p849
 refine xz (.i 0) Z (xe ?_)
 obtain ⟨s1694, s1694e, h1271⟩ := bind_some h
 refine aw_join (σ := Unit) (ν := Unit) (fun u v => [(0, .str s_), (3, .ptr p848 0), (4, .ptr p849 0)]) (fun u v => [(p848, .cells [.i l.Args, .i l.Bulk, .i l.Line]), (p849, .cells [.str ([] : List UInt8), .sl .full 1 (([] : List (List UInt8)).map AV.str), .i 0, .i 0, .bool false, .i 0, .i 0])]) (fun u => s1694 = .inl u) ?_ ?_
 ·intro s1270
  intro _
  rintro rfl
  have h := onSum_inl h1271
  refine aw_seq (xr (xy Z (xa (.i (s_.length : Int)) Z (pu_strLen Z underlying9 (tm Z)) (xa (.ptr p848 2) Z (fa Z underlying149 Z sizeOf3 Z Z Z) (xl 0 isAgg3 Z (xz (.bool (decide (l.Line < (s_.length : Int)))) Z (xe (cd h (tm Z) (fun _ h => ?_) (fun _ h => ?_)))))))))
  ·refine xr (xa (.agg [.str ([] : List UInt8), .sl .full 1 (([] : List (List UInt8)).map AV.str), .i 0, .i 0, .bool false, .i 0, .i 0]) Z (pu_build (zs := [.str ([] : List UInt8), .sl .full 1 (([] : List (List UInt8)).map AV.str), .i 0, .i 0, .bool false, .i 0, .i 0]) (szs := [1, 1, 1, 1, 1, 1, 1]) (aparts := []) (cs := [.str ([] : List UInt8), .sl .full 1 (([] : List (List UInt8)).map AV.str), .i 0, .i 0, .bool false, .i 0, .i 0]) Z underlying144 zeroValue144 Z ⟨sizeOf9, sizeOf65, sizeOf3, sizeOf3, sizeOf4, sizeOf3, sizeOf29, trivial⟩ trivial Z) (xs 1 [.str ([] : List UInt8), .sl .full 1 (([] : List (List UInt8)).map AV.str), .i 0, .i 0, .bool false, .i 0, .i 0] sizeOf144 Z (xz (.i 6) Z (xe (aw_ret ?_)))))
   cases h
   exact rq [.agg [.str ([] : List UInt8), .sl .full 1 (([] : List (List UInt8)).map AV.str), .i 0, .i 0, .bool false, .i 0, .i 0], .i 6] ⟨Z, Z⟩ (AV.Le.tup ⟨(AV.Le.agg ⟨vr, (AV.Le.forget _ _ _), vr, vr, vr, vr, vr, trivial⟩), vr, trivial⟩) ⟨(CellOk.agg 1 (tm Z) Z isAgg144 sizeOf144 (nb Z) Z), (tm Z), trivial⟩ w0
  ·refine aw_skip (xr (xy Z (xa (.agg [.str s_, .sl .full 1 (([] : List (List UInt8)).map AV.str), .i 0, .i 0, .bool false, .i 0, .i 0]) Z (pu_build (zs := [.str ([] : List UInt8), .sl .full 1 (([] : List (List UInt8)).map AV.str), .i 0, .i 0, .bool false, .i 0, .i 0]) (szs := [1, 1, 1, 1, 1, 1, 1]) (aparts := [(0, .str s_)]) (cs := [.str s_, .sl .full 1 (([] : List (List UInt8)).map AV.str), .i 0, .i 0, .bool false, .i 0, .i 0]) Z underlying144 zeroValue144 Z ⟨sizeOf9, sizeOf65, sizeOf3, sizeOf3, sizeOf4, sizeOf3, sizeOf29, trivial⟩ ⟨Z, (tm Z), trivial⟩ Z) (xs 1 [.str s_, .sl .full 1 (([] : List (List UInt8)).map AV.str), .i 0, .i 0, .bool false, .i 0, .i 0] sizeOf144 Z (xz (.i (-1)) Z (xe (aw_ret ?_)))))))
   cases h
   exact rq [.agg [.str s_, .sl .full 1 (([] : List (List UInt8)).map AV.str), .i 0, .i 0, .bool false, .i 0, .i 0], .i (-1)] ⟨Z, Z⟩ (AV.Le.tup ⟨(AV.Le.agg ⟨vr, (AV.Le.forget _ _ _), vr, vr, vr, vr, vr, trivial⟩), vr, trivial⟩) ⟨(CellOk.agg 1 (tm Z) Z isAgg144 sizeOf144 (nb Z) Z), (tm Z), trivial⟩ w0
 ·have h := s1694e
  refine xr (xz (.i 0) Z (xe (aw_block (aw_while (σ := mewsref05.one.S0) (ν := Unit) (mewsref05.one.body0 s_ l) (fun s1551 v => [(0, .str s_), (3, .ptr p848 0), (4, .ptr p849 0), (6, .i s1551.i)]) (fun s1551 v => [(p848, .cells [.i l.Args, .i l.Bulk, .i l.Line]), (p849, .cells [.str ([] : List UInt8), .sl .full 1 (([] : List (List UInt8)).map AV.str), .i 0, .i 0, .bool false, .i 0, .i 0])]) ⟨0⟩ () _ h (wi [1, 0] Z) ?_))))
  rintro s1551 _ x1553 h hx1552
  unfold mewsref05.one.body0 at h
  refine aw_seq ?_
  obtain ⟨s1556, s1556e, h1557⟩ := letO_of h
  refine aw_meet (ν := Unit) (fun v => [(0, .str s_), (3, .ptr p848 0), (4, .ptr p849 0), (6, .i s1551.i), (20, .bool s1556)]) (fun v => [(p848, .cells [.i l.Args, .i l.Bulk, .i l.Line]), (p849, .cells [.str ([] : List UInt8), .sl .full 1 (([] : List (List UInt8)).map AV.str), .i 0, .i 0, .bool false, .i 0, .i 0])]) ?_ ?_
  ·have h := s1556e.symm
   refine aw_region (xy Z (xy Z (xa (.i (s_.length : Int)) Z (pu_strLen Z underlying9 (tm Z)) (xz (.bool (decide (s1551.i < (s_.length : Int)))) Z (xy Z ?_)))))
   rcases Bool.eq_false_or_eq_true (decide (s1551.i < (s_.length : Int))) with hb1559 | hb1559
   ·replace h := ite_t (dec_t hb1559) h
    refine aops_known 15 Z hb1559 (xq Z Z Z Z (xp (.ptr p848 2) Z Z (fa Z underlying149 Z sizeOf3 Z Z Z) (xg Z Z (op_load1 (i := 0) Z isAgg3 (tm Z) Z Z (xp (.bool (decide (s1551.i ≤ l.Line))) Z Z (pe Z) (xz (.bool (decide (s1551.i ≤ l.Line))) Z (xe ?_)))))))
    subst h
    exact ⟨(), wl [0, 1] Z ⟨⟨_, Z, cr, Z⟩, ⟨_, Z, cr, Z⟩, trivial⟩ ⟨tm Z, tm Z, tm Z, tm Z, (AEv.le (tm Z) vr), trivial⟩⟩
   ·replace h := ite_f (dec_f hb1559) h
    refine aops_known 15 Z hb1559 (xu Z (xu Z (xu Z (xu Z (xz (.bool false) Z (xe ?_))))))
    subst h
    exact ⟨(), wi [0, 1] Z⟩
  ·intro _
   have h := h1557
   refine aw_cond (b := s1556) (tm Z) (fun hb1692 => ?_) (fun hb1692 => ?_)
   ·replace h := ite_t hb1692 h
    refine aw_skip ?_
    obtain ⟨s1691, s1691e, h1625⟩ := bind_some h
    refine aw_join (σ := Unit) (ν := Unit) (fun u v => [(0, .str s_), (3, .ptr p848 0), (4, .ptr p849 0), (6, .i s1551.i)]) (fun u v => [(p848, .cells [.i l.Args, .i l.Bulk, .i l.Line]), (p849, .cells [.str ([] : List UInt8), .sl .full 1 (([] : List (List UInt8)).map AV.str), .i 0, .i 0, .bool false, .i 0, .i 0])]) (fun u => s1691 = .inl u) ?_ ?_
    ·intro s1624
     intro _
     rintro rfl
     have h := onSum_inl h1625
     refine aw_region (xy Z (xz (.i (IntKind.wrap .i64 (s1551.i + 1))) Z (xy Z (xe ?_))))
     cases h
     exact ⟨_, (), Z, wl [0, 1] Z ⟨⟨_, Z, cr, Z⟩, ⟨_, Z, cr, Z⟩, trivial⟩ ⟨tm Z, tm Z, tm Z, (AEv.le (tm Z) vr), trivial⟩⟩
    ·have h := s1691e
     refine aw_block (aw_seq (xr (xy Z (xy Z ?_))))
     obtain ⟨c1627, h⟩ := need_of h
     refine xa (.int .u8 (bix s_ s1551.i)) Z (pu_strIdxM Z underlying9 (tm Z) (tm Z) c1627) (xz (.bool (!decide ((bix s_ s1551.i) = 10))) Z (xe (aw_cond (tm Z) (fun hb1690 => ?_) (fun hb1690 => ?_))))
     ·replace h := ite_f (ndec_t hb1690) h
      refine aw_exit ?_
      exact ⟨(), (), (some_of h).symm, wi [0, 1] Z⟩
     ·replace h := ite_t (ndec_f hb1690) h
      refine aw_skip (xr (xy Z (xy Z ?_)))
      obtain ⟨c1628, h⟩ := need_of h
      refine xa (.str (sub s_ 0 s1551.i)) Z (pu_strSliceM Z underlying9 (tm Z) Z ⟨_, (tm Z)⟩ c1628) (xy Z (xe ?_))
      obtain ⟨s1639, s1639e, h1640⟩ := bind_some h
      refine aw_meet (ν := Unit) (fun v => [(3, .ptr p848 0), (4, .ptr p849 0), (6, .i s1551.i), (7, .str s1639)]) (fun v => [(p848, .cells [.i l.Args, .i l.Bulk, .i l.Line]), (p849, .cells [.str ([] : List UInt8), .sl .full 1 (([] : List (List UInt8)).map AV.str), .i 0, .i 0, .bool false, .i 0, .i 0])]) ?_ ?_
      ·have h := s1639e
       obtain ⟨s1644, s1644e, h1645⟩ := bind_some h
       refine aw_meet (ν := Unit) (fun v => [(3, .ptr p848 0), (4, .ptr p849 0), (6, .i s1551.i), (7, .str (sub s_ 0 s1551.i)), (38, .bool s1644)]) (fun v => [(p848, .cells [.i l.Args, .i l.Bulk, .i l.Line]), (p849, .cells [.str ([] : List UInt8), .sl .full 1 (([] : List (List UInt8)).map AV.str), .i 0, .i 0, .bool false, .i 0, .i 0])]) ?_ ?_
       ·have h := s1644e
        refine aw_region (xy Z (xz (.bool (decide (0 < s1551.i))) Z (xy Z ?_)))
        rcases Bool.eq_false_or_eq_true (decide (0 < s1551.i)) with hb1647 | hb1647
        ·replace h := ite_t (dec_t hb1647) h
         refine aops_known 32 Z hb1647 (xq Z Z Z Z (xq Z Z Z Z (xp (.i (IntKind.wrap .i64 (s1551.i - 1))) Z Z (pe Z) ?_)))
         obtain ⟨c1648, h⟩ := need_of h
         refine xp (.int .u8 (bix (sub s_ 0 s1551.i) (IntKind.wrap .i64 (s1551.i - 1)))) Z Z (pu_strIdxM Z underlying9 (tm Z) (tm Z) c1648) (xp (.bool (decide ((bix (sub s_ 0 s1551.i) (IntKind.wrap .i64 (s1551.i - 1))) = 13))) Z Z (pe Z) (xz (.bool (decide ((bix (sub s_ 0 s1551.i) (IntKind.wrap .i64 (s1551.i - 1))) = 13))) Z (xe ?_)))
         cases h
         exact ⟨(), wl [0, 1] Z ⟨⟨_, Z, cr, Z⟩, ⟨_, Z, cr, Z⟩, trivial⟩ ⟨tm Z, tm Z, tm Z, tm Z, (AEv.le (tm Z) vr), trivial⟩⟩
        ·replace h := ite_f (dec_f hb1647) h
         refine aops_known 32 Z hb1647 (xu Z (xu Z (xu Z (xu Z (xu Z (xz (.bool false) Z (xe ?_)))))))
         cases h
         exact ⟨(), wi [0, 1] Z⟩
       ·intro _
        have h := h1645
        refine aw_cond (b := s1644) (tm Z) (fun hb1651 => ?_) (fun hb1651 => ?_)
        ·replace h := ite_t hb1651 h
         refine aw_region (xy Z (xy Z (xz (.i (IntKind.wrap .i64 (s1551.i - 1))) Z ?_)))
         obtain ⟨c1649, h⟩ := need_of h
         obtain ⟨x1650, x1650e, h⟩ := letO_of h
         refine xa (.str x1650) Z (APure.eq (pu_strSliceM Z underlying9 (tm Z) Z ⟨_, (tm Z)⟩ c1649) (congrArg (AV.str) x1650e.symm)) (xy Z (xe ?_))
         cases h
         exact ⟨(), wi [0, 1] Z⟩
        ·replace h := ite_fb hb1651 h
         refine aw_skip ?_
         cases h
         exact ⟨(), wl [0, 1] Z ⟨⟨_, Z, cr, Z⟩, ⟨_, Z, cr, Z⟩, trivial⟩ ⟨tm Z, tm Z, tm Z, (AEv.le (tm Z) vr), trivial⟩⟩
      ·intro _
       have h := h1640
       refine xr (xy Z ?_)
       obtain ⟨r1652, r1652e, h⟩ := bind_some h
       refine xk (mewsref04.Split.ok r1652e) call126 Z ?_
       rintro _ _ ⟨t1653, rfl, rfl⟩
       refine xy Z (xz (.sl (.own t1653) 1 (r1652.1.map AV.str)) Z (xz (.bool r1652.2) Z (xy Z (xy Z (xe (aw_seq (xr (xy Z ?_))))))))
       refine xz (.bool (!r1652.2)) Z (xe (cb h (tm Z) (fun _ h => ?_) (fun _ h => ?_)))
       ·refine xr (xa (.agg [.str ([] : List UInt8), .sl .full 1 (([] : List (List UInt8)).map AV.str), .i 0, .i 0, .bool false, .i 0, .i 0]) Z (pu_build (zs := [.str ([] : List UInt8), .sl .full 1 (([] : List (List UInt8)).map AV.str), .i 0, .i 0, .bool false, .i 0, .i 0]) (szs := [1, 1, 1, 1, 1, 1, 1]) (aparts := []) (cs := [.str ([] : List UInt8), .sl .full 1 (([] : List (List UInt8)).map AV.str), .i 0, .i 0, .bool false, .i 0, .i 0]) Z underlying144 zeroValue144 Z ⟨sizeOf9, sizeOf65, sizeOf3, sizeOf3, sizeOf4, sizeOf3, sizeOf29, trivial⟩ trivial Z) (xs 2 [.str ([] : List UInt8), .sl .full 1 (([] : List (List UInt8)).map AV.str), .i 0, .i 0, .bool false, .i 0, .i 0] sizeOf144 Z (xz (.i 16) Z (xe (aw_ret ?_)))))
        cases h
        have h := onSum_inr h1625
        cases h
        have h := congrArg some (hx1552 _ rfl)
        cases h
        have h := onSum_inr h1271
        cases h
        exact rq [.agg [.str ([] : List UInt8), .sl .full 1 (([] : List (List UInt8)).map AV.str), .i 0, .i 0, .bool false, .i 0, .i 0], .i 16] ⟨Z, Z⟩ (AV.Le.tup ⟨(AV.Le.agg ⟨vr, (AV.Le.forget _ _ _), vr, vr, vr, vr, vr, trivial⟩), vr, trivial⟩) ⟨(CellOk.agg 2 (tm Z) Z isAgg144 sizeOf144 (nb Z) Z), (tm Z), trivial⟩ w0
       ·refine aw_skip (aw_seq (xr (xy Z (xa (.i (r1652.1.length : Int)) Z (pu_lenM Z underlying65 (tm Z)) (xa (.ptr p848 0) Z (fa Z underlying149 Z sizeOf3 Z Z Z) (xl 1 isAgg3 Z (xz (.bool (decide (l.Args < (r1652.1.length : Int)))) Z (xe ?_))))))))
        refine aw_cond (b := decide (l.Args < (r1652.1.length : Int))) (tm Z) (fun hb1688 => ?_) (fun hb1688 => ?_)
        ·replace h := ite_t (dec_t hb1688) h
         refine xr (xa (.agg [.str ([] : List UInt8), .sl .full 1 (([] : List (List UInt8)).map AV.str), .i 0, .i 0, .bool false, .i 0, .i 0]) Z (pu_build (zs := [.str ([] : List UInt8), .sl .full 1 (([] : List (List UInt8)).map AV.str), .i 0, .i 0, .bool false, .i 0, .i 0]) (szs := [1, 1, 1, 1, 1, 1, 1]) (aparts := []) (cs := [.str ([] : List UInt8), .sl .full 1 (([] : List (List UInt8)).map AV.str), .i 0, .i 0, .bool false, .i 0, .i 0]) Z underlying144 zeroValue144 Z ⟨sizeOf9, sizeOf65, sizeOf3, sizeOf3, sizeOf4, sizeOf3, sizeOf29, trivial⟩ trivial Z) (xs 2 [.str ([] : List UInt8), .sl .full 1 (([] : List (List UInt8)).map AV.str), .i 0, .i 0, .bool false, .i 0, .i 0] sizeOf144 Z (xz (.i 7) Z (xe (aw_ret ?_)))))
         cases h
         have h := onSum_inr h1625
         cases h
         have h := congrArg some (hx1552 _ rfl)
         cases h
         have h := onSum_inr h1271
         cases h
         exact rq [.agg [.str ([] : List UInt8), .sl .full 1 (([] : List (List UInt8)).map AV.str), .i 0, .i 0, .bool false, .i 0, .i 0], .i 7] ⟨Z, Z⟩ (AV.Le.tup ⟨(AV.Le.agg ⟨vr, (AV.Le.forget _ _ _), vr, vr, vr, vr, vr, trivial⟩), vr, trivial⟩) ⟨(CellOk.agg 2 (tm Z) Z isAgg144 sizeOf144 (nb Z) Z), (tm Z), trivial⟩ w0
        ·replace h := ite_f (dec_f hb1688) h
         refine aw_skip ?_
         obtain ⟨s1687, s1687e, h1670⟩ := bind_some h
         refine aw_join (σ := Unit) (ν := Unit) (fun u v => [(4, .ptr p849 0), (6, .i s1551.i), (8, .sl (.own t1653) 1 (r1652.1.map AV.str))]) (fun u v => [(p849, .cells [.str ([] : List UInt8), .sl .full 1 (([] : List (List UInt8)).map AV.str), .i 0, .i 0, .bool false, .i 0, .i 0]), (t1653, .spare)]) (fun u => s1687 = .inl u) ?_ ?_
         ·intro s1669
          intro _
          rintro rfl
          have h := onSum_inl h1670
          refine xr (xy Z (xy Z (xz (.i (IntKind.wrap .i64 (s1551.i + 1))) Z (xa (.agg [.str ([] : List UInt8), .sl (.own t1653) 1 (r1652.1.map AV.str), .i 0, .i (IntKind.wrap .i64 (s1551.i + 1)), .bool false, .i 0, .i 0]) Z (pu_build (zs := [.str ([] : List UInt8), .sl .full 1 (([] : List (List UInt8)).map AV.str), .i 0, .i 0, .bool false, .i 0, .i 0]) (szs := [1, 1, 1, 1, 1, 1, 1]) (aparts := [(1, .sl (.own t1653) 1 (r1652.1.map AV.str)), (3, .i (IntKind.wrap .i64 (s1551.i + 1)))]) (cs := [.str ([] : List UInt8), .sl (.own t1653) 1 (r1652.1.map AV.str), .i 0, .i (IntKind.wrap .i64 (s1551.i + 1)), .bool false, .i 0, .i 0]) Z underlying144 zeroValue144 Z ⟨sizeOf9, sizeOf65, sizeOf3, sizeOf3, sizeOf4, sizeOf3, sizeOf29, trivial⟩ ⟨Z, (tm Z), ⟨Z, (tm Z), trivial⟩⟩ Z) (xs 0 [.str ([] : List UInt8), .sl (.own t1653) 1 (r1652.1.map AV.str), .i 0, .i (IntKind.wrap .i64 (s1551.i + 1)), .bool false, .i 0, .i 0] sizeOf144 Z (xz (.i 0) Z (xe (aw_ret ?_))))))))
          cases h
          have h := onSum_inr h1625
          cases h
          have h := congrArg some (hx1552 _ rfl)
          cases h
          have h := onSum_inr h1271
          cases h
          exact rq [.agg [.str ([] : List UInt8), .sl (.own t1653) 1 (r1652.1.map AV.str), .i 0, .i (IntKind.wrap .i64 (s1551.i + 1)), .bool false, .i 0, .i 0], .i 0] ⟨Z, Z⟩ (AV.Le.tup ⟨(AV.Le.agg ⟨vr, (AV.Le.forget _ _ _), vr, vr, vr, vr, vr, trivial⟩), vr, trivial⟩) ⟨(CellOk.agg 0 (tm Z) Z isAgg144 sizeOf144 (nb Z) Z), (tm Z), trivial⟩ w0
         ·have h := s1687e
          refine xr (xz (.i 0) Z (xe (aw_block (aw_while (σ := mewsref05.one.S2) (ν := Unit) (mewsref05.one.body2 r1652 l) (fun s1680 v => [(3, .ptr p848 0), (4, .ptr p849 0), (6, .i s1551.i), (8, .sl (.own t1653) 1 (r1652.1.map AV.str)), (10, .i s1680.k)]) (fun s1680 v => [(p848, .cells [.i l.Args, .i l.Bulk, .i l.Line]), (p849, .cells [.str ([] : List UInt8), .sl .full 1 (([] : List (List UInt8)).map AV.str), .i 0, .i 0, .bool false, .i 0, .i 0]), (t1653, .spare)]) ⟨0⟩ () _ h (wi [1, 2, 0] Z) ?_))))
          rintro s1680 _ x1682 h hx1681
          unfold mewsref05.one.body2 at h
          refine aw_seq (xr (xy Z (xy Z (xa (.i (r1652.1.length : Int)) Z (pu_lenM Z underlying65 (tm Z)) (xz (.bool (decide (s1680.k < (r1652.1.length : Int)))) Z (xe (cd h (tm Z) (fun _ h => ?_) (fun _ h => ?_))))))))
          ·refine aw_skip (aw_seq (aw_block (aw_seq ?_)))
           obtain ⟨c1684, h⟩ := need_of h
           refine aw_planR (by decide +kernel) [[], [], [], [], [], [], [(0, 0, false)], []] [[], [], []] [[[(p848, .cells [.i l.Args, .i l.Bulk, .i l.Line])]], [[(p849, .cells [.str ([] : List UInt8), .sl .full 1 (([] : List (List UInt8)).map AV.str), .i 0, .i 0, .bool false, .i 0, .i 0])]], [[(t1653, .spare)]]] [.sl (.own t1653) 1 (r1652.1.map AV.str), .i s1680.k, .vptr [.str (ix r1652.1 s1680.k)], .str (ix r1652.1 s1680.k), .i ((ix r1652.1 s1680.k).length : Int), .ptr p848 1, .i l.Bulk, .bool (decide (l.Bulk < ((ix r1652.1 s1680.k).length : Int)))] (by decide +kernel) Z Z ?_ ?_
           ·exact ⟨ym Z Z Z, ym Z Z Z, yp Z (pu_indexAddrM Z underlying65 sizeOf9 (tm Z) (tm Z) c1684 Z), stepg_plain Z (op_loadV1 Z isAgg9 (tm Z) Z ⟨Z, Z⟩), yp Z (pu_strLen Z underlying9 (tm Z)), yp Z (fa Z underlying149 Z sizeOf3 Z Z Z), stepg_plain Z (op_load1 (i := 0) Z isAgg3 (tm Z) Z Z ⟨Z, Z⟩), yp Z (pe Z), trivial⟩
           refine aw_cond (b := decide (l.Bulk < ((ix r1652.1 s1680.k).length : Int))) (tm Z) (fun hb1685 => ?_) (fun hb1685 => ?_)
           ·replace h := ite_t (dec_t hb1685) h
            refine xr (xa (.agg [.str ([] : List UInt8), .sl .full 1 (([] : List (List UInt8)).map AV.str), .i 0, .i 0, .bool false, .i 0, .i 0]) Z (pu_build (zs := [.str ([] : List UInt8), .sl .full 1 (([] : List (List UInt8)).map AV.str), .i 0, .i 0, .bool false, .i 0, .i 0]) (szs := [1, 1, 1, 1, 1, 1, 1]) (aparts := []) (cs := [.str ([] : List UInt8), .sl .full 1 (([] : List (List UInt8)).map AV.str), .i 0, .i 0, .bool false, .i 0, .i 0]) Z underlying144 zeroValue144 Z ⟨sizeOf9, sizeOf65, sizeOf3, sizeOf3, sizeOf4, sizeOf3, sizeOf29, trivial⟩ trivial Z) (xs 1 [.str ([] : List UInt8), .sl .full 1 (([] : List (List UInt8)).map AV.str), .i 0, .i 0, .bool false, .i 0, .i 0] sizeOf144 Z (xz (.i 6) Z (xe (aw_ret ?_)))))
            cases h
            have h := congrArg some (hx1681 _ rfl)
            cases h
            have h := onSum_inr h1670
            cases h
            have h := onSum_inr h1625
            cases h
            have h := congrArg some (hx1552 _ rfl)
            cases h
            have h := onSum_inr h1271
            cases h
            exact rq [.agg [.str ([] : List UInt8), .sl .full 1 (([] : List (List UInt8)).map AV.str), .i 0, .i 0, .bool false, .i 0, .i 0], .i 6] ⟨Z, Z⟩ (AV.Le.tup ⟨(AV.Le.agg ⟨vr, (AV.Le.forget _ _ _), vr, vr, vr, vr, vr, trivial⟩), vr, trivial⟩) ⟨(CellOk.agg 1 (tm Z) Z isAgg144 sizeOf144 (nb Z) Z), (tm Z), trivial⟩ w0
           ·replace h := ite_f (dec_f hb1685) h
            refine aw_skip (aw_region (xy Z (xz (.i (IntKind.wrap .i64 (s1680.k + 1))) Z (xy Z (xe ?_)))))
            cases h
            exact ⟨_, (), Z, wl [0, 1, 2] Z ⟨⟨_, Z, cr, Z⟩, ⟨_, Z, cr, Z⟩, ⟨_, Z, Z⟩, trivial⟩ ⟨tm Z, tm Z, tm Z, tm Z, (AEv.le (tm Z) vr), trivial⟩⟩
          ·refine aw_exit ?_
           cases h
           have h := congrArg some (hx1681 _ rfl)
           exact ⟨(), (), (some_of h).symm, wi [1, 2] Z⟩
   ·replace h := ite_fb hb1692 h
    refine aw_exit ?_
    cases h
    have h := congrArg some (hx1552 _ rfl)
    exact ⟨(), (), (some_of h).symm, wi [0, 1] Z⟩

theorem mewsref05.All.ok {s_ : List UInt8} {l : api.Limits} {r : api.Input × (List api.Request)} (h : mewsref05.All s_ l = some r) : Go.Lift.Spec prog 88 [.str s_, .agg [.i l.Args, .i l.Bulk, .i l.Line]] [] (fun v H => ∃ n0, v = .tup [.agg [.str r.1.Rest, .sl .no 1 (r.1.Args.map AV.str), .i r.1.Left, .i r.1.Size, .bool r.1.Body, .i r.1.Need, .i r.1.Dead], .sl (.own n0) 2 (r.2.map api.Request.av)] ∧ H = [(n0, .spare)]) := by
 unfold mewsref05.All at h
 refine Go.Lift.Spec.of_body (rs := [.cell 4 144, .tmp 5]) func88 Z Z (nb Z) Z (xr (xc Z (op_box (cs := [.i l.Args, .i l.Bulk, .i l.Line]) (v := .agg [.i l.Args, .i l.Bulk, .i l.Line]) Z (tm Z) Z Z ?_)))
 intro p185
 refine xc Z (op_alloc (cs := [.str ([] : List UInt8), .sl .full 1 (([] : List (List UInt8)).map AV.str), .i 0, .i 0, .bool false, .i 0, .i 0]) (v := .agg [.str ([] : List UInt8), .sl .full 1 (([] : List (List UInt8)).map AV.str), .i 0, .i 0, .bool false, .i 0, .i 0]) Z zeroValue144 Z Z Z ?_)
 intro p186
 refine xa (.sl .full 2 (([] : List api.Request).map api.Request.av)) Z (pu_assign Z (AEv.nil 2 (by decide))) (xe (xr (xL 1 isAgg149 sizeOf149 Z ?_)))
 obtain ⟨r187, r187e, h⟩ := bind_some h
 refine xk (mewsref05.Limits.ok r187e) call101 Z ?_
 rintro _ _ ⟨rfl, rfl⟩
 refine xs 1 [.i r187.Args, .i r187.Bulk, .i r187.Line] sizeOf149 Z (xe (xr (xa (.sl .full 2 (([] : List api.Request).map api.Request.av)) Z (pu_assign Z (AEv.nil 2 (by decide))) (xe ?_))))
 obtain ⟨s368, s368e, h278⟩ := bind_some h
 refine aw_join (σ := List api.Request) (ν := Nat) (fun u v => [(4, .ptr p186 0), (6, .sl (.own v) 2 (u.map api.Request.av))]) (fun u v => [(p186, .cells [.str ([] : List UInt8), .sl .full 1 (([] : List (List UInt8)).map AV.str), .i 0, .i 0, .bool false, .i 0, .i 0]), (v, .spare)]) (fun u => s368 = .inl u) ?_ ?_
 ·intro s276
  intro n277
  rintro rfl
  have h := onSum_inl h278
  refine xr (xa (.agg [.str ([] : List UInt8), .sl .full 1 (([] : List (List UInt8)).map AV.str), .i 0, .i 0, .bool false, .i 0, .i 0]) Z (pu_build (zs := [.str ([] : List UInt8), .sl .full 1 (([] : List (List UInt8)).map AV.str), .i 0, .i 0, .bool false, .i 0, .i 0]) (szs := [1, 1, 1, 1, 1, 1, 1]) (aparts := []) (cs := [.str ([] : List UInt8), .sl .full 1 (([] : List (List UInt8)).map AV.str), .i 0, .i 0, .bool false, .i 0, .i 0]) Z underlying144 zeroValue144 Z ⟨sizeOf9, sizeOf65, sizeOf3, sizeOf3, sizeOf4, sizeOf3, sizeOf29, trivial⟩ trivial Z) (xy Z (xs 0 [.str ([] : List UInt8), .sl .full 1 (([] : List (List UInt8)).map AV.str), .i 0, .i 0, .bool false, .i 0, .i 0] sizeOf144 Z (xy Z (xe (aw_ret ?_))))))
  cases h
  exact rq [.agg [.str ([] : List UInt8), .sl .full 1 (([] : List (List UInt8)).map AV.str), .i 0, .i 0, .bool false, .i 0, .i 0], .sl (.own n277) 2 (s276.map api.Request.av)] ⟨n277, Z, Z⟩ (AV.Le.tup ⟨(AV.Le.agg ⟨vr, (AV.Le.forget _ _ _), vr, vr, vr, vr, vr, trivial⟩), vr, trivial⟩) ⟨(CellOk.agg 0 (tm Z) Z isAgg144 sizeOf144 (nb Z) Z), (tm Z), trivial⟩ (wi [1] Z)
 ·have h := s368e
  refine aw_block (aw_claim 6 (tm Z) fun t367 => (aw_while (σ := mewsref05.All.S0) (ν := Nat) (mewsref05.All.body0 r187) (fun s336 v => [(0, .str s336.s), (3, .ptr p185 0), (4, .ptr p186 0), (6, .sl (.own v) 2 (s336.out.map api.Request.av))]) (fun s336 v => [(p185, .cells [.i r187.Args, .i r187.Bulk, .i r187.Line]), (p186, .cells [.str ([] : List UInt8), .sl .full 1 (([] : List (List UInt8)).map AV.str), .i 0, .i 0, .bool false, .i 0, .i 0]), (v, .spare)]) ⟨s_, ([] : List api.Request)⟩ t367 _ h (wi [2, 1, 0] Z) ?_))
  rintro s336 n337 x339 h hx338
  unfold mewsref05.All.body0 at h
  refine aw_seq (xr (xy Z (xa (.bool (!decide (s336.s = ([] : List UInt8)))) Z (pu_str (v := .bool (!decide (s336.s = ([] : List UInt8)))) Z Z (tm Z) (AEv.const Z) Z) (xe (aw_cond (tm Z) (fun hb366 => ?_) (fun hb366 => ?_))))))
  ·replace h := ite_f (ndec_t hb366) h
   refine aw_skip (aw_block (xr (xa (.agg [.str ([] : List UInt8), .sl .full 1 (([] : List (List UInt8)).map AV.str), .i 0, .i 0, .bool false, .i 0, .i 0]) Z (pu_build (zs := [.str ([] : List UInt8), .sl .full 1 (([] : List (List UInt8)).map AV.str), .i 0, .i 0, .bool false, .i 0, .i 0]) (szs := [1, 1, 1, 1, 1, 1, 1]) (aparts := []) (cs := [.str ([] : List UInt8), .sl .full 1 (([] : List (List UInt8)).map AV.str), .i 0, .i 0, .bool false, .i 0, .i 0]) Z underlying144 zeroValue144 Z ⟨sizeOf9, sizeOf65, sizeOf3, sizeOf3, sizeOf4, sizeOf3, sizeOf29, trivial⟩ trivial Z) (xc Z (op_alloc (cs := [.str ([] : List UInt8), .sl .full 1 (([] : List (List UInt8)).map AV.str), .i 0, .i 0, .bool false, .i 0, .i 0]) (v := .agg [.str ([] : List UInt8), .sl .full 1 (([] : List (List UInt8)).map AV.str), .i 0, .i 0, .bool false, .i 0, .i 0]) Z zeroValue144 Z Z Z ?_)))))
   intro p341
   refine xs 0 [.str ([] : List UInt8), .sl .full 1 (([] : List (List UInt8)).map AV.str), .i 0, .i 0, .bool false, .i 0, .i 0] sizeOf144 Z (xz (.i 0) Z (xe ?_))
   obtain ⟨s346, s346e, h347⟩ := bind_some h
   refine aw_meet (ν := Unit) (fun v => [(0, .str s336.s), (3, .ptr p185 0), (4, .ptr p186 0), (6, .sl (.own n337) 2 (s336.out.map api.Request.av)), (7, .ptr p341 0), (8, .i s346.1)]) (fun v => [(p185, .cells [.i r187.Args, .i r187.Bulk, .i r187.Line]), (p186, .cells [.str ([] : List UInt8), .sl .full 1 (([] : List (List UInt8)).map AV.str), .i 0, .i 0, .bool false, .i 0, .i 0]), (n337, .spare), (p341, .cells [.str s346.2.1, .sl .no 1 (s346.2.2.1.map AV.str), .i s346.2.2.2.1, .i s346.2.2.2.2.1, .bool s346.2.2.2.2.2.1, .i s346.2.2.2.2.2.2.1, .i s346.2.2.2.2.2.2.2])]) ?_ ?_
   ·have h := s346e
    refine xr (xy Z ?_)
    obtain ⟨c349, h⟩ := need_of h
    refine xa (.int .u8 (bix s336.s 0)) Z (pu_strIdxM Z underlying9 (tm Z) (AEv.int _ _) c349) (xz (.bool (decide ((bix s336.s 0) = 42))) Z (xe (cd h (tm Z) (fun _ h => ?_) (fun _ h => ?_))))
    ·refine aw_region (xy Z (xL 1 isAgg149 sizeOf149 Z ?_))
     obtain ⟨r350, r350e, h⟩ := bind_some h
     refine xk (mewsref05.many.ok r350e) call102 Z ?_
     rintro _ _ ⟨rfl, rfl⟩
     refine xy Z (xz (.agg (api.Input.ct .no r350.1)) Z (xz (.i r350.2) Z (xs 0 (api.Input.ct .no r350.1) sizeOf144 Z (xy Z (xe ?_)))))
     cases h
     exact ⟨(), wi [1, 2, 3, 0] Z⟩
    ·refine aw_region (xy Z (xL 1 isAgg149 sizeOf149 Z ?_))
     obtain ⟨r351, r351e, h⟩ := bind_some h
     refine xk (mewsref05.one.ok r351e) call103 Z ?_
     rintro _ _ ⟨rfl, rfl⟩
     refine xy Z (xz (.agg (api.Input.ct .no r351.1)) Z (xz (.i r351.2) Z (xs 0 (api.Input.ct .no r351.1) sizeOf144 Z (xy Z (xe ?_)))))
     cases h
     exact ⟨(), wi [1, 2, 3, 0] Z⟩
   ·intro _
    have h := h347
    refine aw_seq (xr (xy Z (xz (.bool (decide (s346.1 = (-1)))) Z (xe (cd h (tm Z) (fun _ h => ?_) (fun _ h => ?_))))))
    ·refine xr (xL 3 isAgg144 sizeOf144 Z (xy Z (xs 1 [.str s346.2.1, .sl .no 1 (s346.2.2.1.map AV.str), .i s346.2.2.2.1, .i s346.2.2.2.2.1, .bool s346.2.2.2.2.2.1, .i s346.2.2.2.2.2.2.1, .i s346.2.2.2.2.2.2.2] sizeOf144 Z (xy Z (xe (aw_ret ?_))))))
     cases h
     have h := congrArg some (hx338 _ rfl)
     cases h
     have h := onSum_inr h278
     cases h
     exact rq [.agg [.str s346.2.1, .sl .no 1 (s346.2.2.1.map AV.str), .i s346.2.2.2.1, .i s346.2.2.2.2.1, .bool s346.2.2.2.2.2.1, .i s346.2.2.2.2.2.2.1, .i s346.2.2.2.2.2.2.2], .sl (.own n337) 2 (s336.out.map api.Request.av)] ⟨n337, Z, Z⟩ (AV.Le.tup cr) ⟨(CellOk.agg 1 (tm Z) Z isAgg144 sizeOf144 (nb Z) Z), (tm Z), trivial⟩ (wi [2] Z)
    ·refine aw_skip (aw_seq (xr (xy Z (xz (.bool (!decide (s346.1 = 0))) Z (xe (aw_cond (tm Z) (fun hb364 => ?_) (fun hb364 => ?_)))))))
     ·replace h := ite_f (ndec_t hb364) h
      refine xr (xy Z (xa (.agg [.str ([] : List UInt8), .sl .full 1 (([] : List (List UInt8)).map AV.str), .i 0, .i 0, .bool false, .i 0, .i s346.1]) Z (pu_build (zs := [.str ([] : List UInt8), .sl .full 1 (([] : List (List UInt8)).map AV.str), .i 0, .i 0, .bool false, .i 0, .i 0]) (szs := [1, 1, 1, 1, 1, 1, 1]) (aparts := [(6, .i s346.1)]) (cs := [.str ([] : List UInt8), .sl .full 1 (([] : List (List UInt8)).map AV.str), .i 0, .i 0, .bool false, .i 0, .i s346.1]) Z underlying144 zeroValue144 Z ⟨sizeOf9, sizeOf65, sizeOf3, sizeOf3, sizeOf4, sizeOf3, sizeOf29, trivial⟩ ⟨Z, (tm Z), trivial⟩ Z) (xy Z (xs 1 [.str ([] : List UInt8), .sl .full 1 (([] : List (List UInt8)).map AV.str), .i 0, .i 0, .bool false, .i 0, .i s346.1] sizeOf144 Z (xy Z (xe (aw_ret ?_)))))))
      cases h
      have h := congrArg some (hx338 _ rfl)
      cases h
      have h := onSum_inr h278
      cases h
      exact rq [.agg [.str ([] : List UInt8), .sl .full 1 (([] : List (List UInt8)).map AV.str), .i 0, .i 0, .bool false, .i 0, .i s346.1], .sl (.own n337) 2 (s336.out.map api.Request.av)] ⟨n337, Z, Z⟩ (AV.Le.tup ⟨(AV.Le.agg ⟨vr, (AV.Le.forget _ _ _), vr, vr, vr, vr, vr, trivial⟩), vr, trivial⟩) ⟨(CellOk.agg 1 (tm Z) Z isAgg144 sizeOf144 (nb Z) Z), (tm Z), trivial⟩ (wi [2] Z)
     ·replace h := ite_t (ndec_f hb364) h
      refine aw_skip ?_
      obtain ⟨s356, s356e, h358⟩ := bind_some h
      refine aw_meet (ν := Nat) (fun v => [(0, .str s336.s), (3, .ptr p185 0), (4, .ptr p186 0), (6, .sl (.own v) 2 (s356.map api.Request.av)), (7, .ptr p341 0)]) (fun v => [(p185, .cells [.i r187.Args, .i r187.Bulk, .i r187.Line]), (p186, .cells [.str ([] : List UInt8), .sl .full 1 (([] : List (List UInt8)).map AV.str), .i 0, .i 0, .bool false, .i 0, .i 0]), (v, .spare), (p341, .cells [.str s346.2.1, .sl .no 1 (s346.2.2.1.map AV.str), .i s346.2.2.2.1, .i s346.2.2.2.2.1, .bool s346.2.2.2.2.2.1, .i s346.2.2.2.2.2.2.1, .i s346.2.2.2.2.2.2.2])]) ?_ ?_
      ·have h := s356e
       refine xr (xa (.ptr p341 1) Z (fa Z underlying144 Z sizeOf65 Z Z Z) (xl 3 isAgg65 Z (xa (.i (s346.2.2.1.length : Int)) Z (pu_lenM Z underlying65 (tm Z)) (xz (.bool (decide (0 < (s346.2.2.1.length : Int)))) Z (xe (cd h (tm Z) (fun _ h => ?_) (fun _ h => ?_)))))))
       ·refine aw_region (xy Z (xa (.ptr p341 1) Z (fa Z underlying144 Z sizeOf65 Z Z Z) (xl 3 isAgg65 Z (xa (.ptr p341 3) Z (fa Z underlying144 Z sizeOf3 Z Z Z) (xl 3 isAgg3 Z (xa (.agg [.sl .no 1 (s346.2.2.1.map AV.str), .i s346.2.2.2.2.1]) Z (pu_build (zs := [.sl .full 1 (([] : List (List UInt8)).map AV.str), .i 0]) (szs := [1, 1]) (aparts := [(0, .sl .no 1 (s346.2.2.1.map AV.str)), (1, .i s346.2.2.2.2.1)]) (cs := [.sl .no 1 (s346.2.2.1.map AV.str), .i s346.2.2.2.2.1]) Z underlying151 zeroValue151 Z ⟨sizeOf65, sizeOf3, trivial⟩ ⟨Z, (tm Z), ⟨Z, (tm Z), trivial⟩⟩ Z) (xc Z (op_buildSlice (xs := ([({ Args := s346.2.2.1, Size := s346.2.2.2.2.1 } : api.Request)] : List api.Request).map api.Request.av) (aparts := [(0, .agg [.sl .no 1 (s346.2.2.1.map AV.str), .i s346.2.2.2.2.1])]) Z underlying145 sizeOf151 zeroValue151 (by decide) (by decide) ⟨Z, (tm Z), trivial⟩ Z Z Z ?_))))))))
        obtain ⟨c360, h⟩ := need_of h
        refine xc Z (op_appendOM (q := 2) Z underlying145 underlying145 (.inl Z) typeInfo151 Z Z Z (by decide) (tm Z) Z (given_sl (tm Z)) c360 ?_)
        intro t361
        refine xy Z (xe ?_)
        cases h
        exact ⟨t361, wl [0, 1, 2, 3] Z ⟨⟨_, Z, cr, Z⟩, ⟨_, Z, cr, Z⟩, ⟨_, Z, Z⟩, ⟨_, Z, cr, Z⟩, trivial⟩ ⟨tm Z, tm Z, tm Z, (AEv.le (tm Z) vr), tm Z, trivial⟩⟩
       ·refine aw_skip ?_
        cases h
        exact ⟨n337, wi [0, 1, 2, 3] Z⟩
      ·intro n357
       have h := h358
       refine aw_region (xy Z (xa (.ptr p341 3) Z (fa Z underlying144 Z sizeOf3 Z Z Z) (xl 3 isAgg3 Z ?_)))
       obtain ⟨c363, h⟩ := need_of h
       refine xa (.str (sub s336.s s346.2.2.2.2.1 (s336.s.length : Int))) Z (pu_strSliceM Z underlying9 (tm Z) ⟨_, (tm Z)⟩ Z c363) (xy Z (xe ?_))
       cases h
       exact ⟨_, n357, Z, wl [0, 1, 2] Z ⟨⟨_, Z, cr, Z⟩, ⟨_, Z, cr, Z⟩, ⟨_, Z, Z⟩, trivial⟩ ⟨(AEv.le (tm Z) vr), tm Z, tm Z, tm Z, trivial⟩⟩
  ·replace h := ite_t (ndec_f hb366) h
   refine aw_exit ?_
   cases h
   have h := congrArg some (hx338 _ rfl)
   exact ⟨s336.out, n337, (some_of h).symm, wi [1, 2] Z⟩

theorem mewsref15.Take.ok {s_ : List UInt8} {r : api.Unit × Int × Int} (h : mewsref15.Take s_ = some r) : Go.Lift.Spec prog 60 [.str s_] [] (fun v H => v = .tup [.agg [.sl .no 1 (r.1.Cmds.map av_List_List_UInt8)], .i r.2.1, .i r.2.2] ∧ H = []) := by
 unfold mewsref15.Take at h
 refine Go.Lift.Spec.of_body (rs := [.cell 2 68, .tmp 3, .tmp 4]) func60 Z Z (nb Z) Z (xr (xc Z (op_alloc (cs := [.sl .full 1 (([] : List (List (List UInt8))).map av_List_List_UInt8)]) (v := .agg [.sl .full 1 (([] : List (List (List UInt8))).map av_List_List_UInt8)]) Z zeroValue68 Z Z Z ?_)))
 intro p102
 refine xz (.i 0) Z (xz (.i 0) Z (xe (aw_seq (xr (xy Z (xa (.bool (decide (s_ = ([] : List UInt8)))) Z (pu_str (v := .bool (decide (s_ = ([] : List UInt8)))) Z Z (tm Z) (AEv.const Z) Z) (xe (cd h (tm Z) (fun _ h => ?_) (fun _ h => ?_)))))))))
 ·refine xr (xa (.agg [.sl .full 1 (([] : List (List (List UInt8))).map av_List_List_UInt8)]) Z (pu_build (zs := [.sl .full 1 (([] : List (List (List UInt8))).map av_List_List_UInt8)]) (szs := [1]) (aparts := []) (cs := [.sl .full 1 (([] : List (List (List UInt8))).map av_List_List_UInt8)]) Z underlying68 zeroValue68 Z ⟨sizeOf66, trivial⟩ trivial Z) (xs 0 [.sl .full 1 (([] : List (List (List UInt8))).map av_List_List_UInt8)] sizeOf68 Z (xz (.i 0) Z (xz (.i 4) Z (xe (aw_ret ?_))))))
  cases h
  exact rq [.agg [.sl .full 1 (([] : List (List (List UInt8))).map av_List_List_UInt8)], .i 0, .i 4] ⟨Z, Z⟩ (AV.Le.tup ⟨(AV.Le.agg ⟨(AV.Le.forget _ _ _), trivial⟩), vr, vr, trivial⟩) ⟨(CellOk.agg 0 (tm Z) Z isAgg68 sizeOf68 (nb Z) Z), (tm Z), (tm Z), trivial⟩ w0
 ·refine aw_skip (aw_seq (xr (xy Z ?_)))
  obtain ⟨c103, h⟩ := need_of h
  refine xa (.int .u8 (bix s_ 0)) Z (pu_strIdxM Z underlying9 (tm Z) (AEv.int _ _) c103) (xz (.bool (!decide ((bix s_ 0) = 85))) Z (xe (aw_cond (tm Z) (fun hb201 => ?_) (fun hb201 => ?_))))
  ·replace h := ite_f (ndec_t hb201) h
   refine xr (xa (.agg [.sl .full 1 (([] : List (List (List UInt8))).map av_List_List_UInt8)]) Z (pu_build (zs := [.sl .full 1 (([] : List (List (List UInt8))).map av_List_List_UInt8)]) (szs := [1]) (aparts := []) (cs := [.sl .full 1 (([] : List (List (List UInt8))).map av_List_List_UInt8)]) Z underlying68 zeroValue68 Z ⟨sizeOf66, trivial⟩ trivial Z) (xs 0 [.sl .full 1 (([] : List (List (List UInt8))).map av_List_List_UInt8)] sizeOf68 Z (xz (.i 0) Z (xz (.i 5) Z (xe (aw_ret ?_))))))
   cases h
   exact rq [.agg [.sl .full 1 (([] : List (List (List UInt8))).map av_List_List_UInt8)], .i 0, .i 5] ⟨Z, Z⟩ (AV.Le.tup ⟨(AV.Le.agg ⟨(AV.Le.forget _ _ _), trivial⟩), vr, vr, trivial⟩) ⟨(CellOk.agg 0 (tm Z) Z isAgg68 sizeOf68 (nb Z) Z), (tm Z), (tm Z), trivial⟩ w0
  ·replace h := ite_t (ndec_f hb201) h
   refine aw_skip (aw_seq (xr (xy Z (xa (.i (s_.length : Int)) Z (pu_strLen Z underlying9 (tm Z)) (xz (.bool (decide ((s_.length : Int) < 5))) Z (xe (cd h (tm Z) (fun _ h => ?_) (fun _ h => ?_))))))))
   ·refine xr (xa (.agg [.sl .full 1 (([] : List (List (List UInt8))).map av_List_List_UInt8)]) Z (pu_build (zs := [.sl .full 1 (([] : List (List (List UInt8))).map av_List_List_UInt8)]) (szs := [1]) (aparts := []) (cs := [.sl .full 1 (([] : List (List (List UInt8))).map av_List_List_UInt8)]) Z underlying68 zeroValue68 Z ⟨sizeOf66, trivial⟩ trivial Z) (xs 0 [.sl .full 1 (([] : List (List (List UInt8))).map av_List_List_UInt8)] sizeOf68 Z (xz (.i 0) Z (xz (.i 4) Z (xe (aw_ret ?_))))))
    cases h
    exact rq [.agg [.sl .full 1 (([] : List (List (List UInt8))).map av_List_List_UInt8)], .i 0, .i 4] ⟨Z, Z⟩ (AV.Le.tup ⟨(AV.Le.agg ⟨(AV.Le.forget _ _ _), trivial⟩), vr, vr, trivial⟩) ⟨(CellOk.agg 0 (tm Z) Z isAgg68 sizeOf68 (nb Z) Z), (tm Z), (tm Z), trivial⟩ w0
   ·refine aw_skip (xr (xz (.i 0) Z (xe ?_)))
    obtain ⟨s116, s116e, h117⟩ := bind_some h
    refine aw_meet (ν := Unit) (fun v => [(0, .str s_), (2, .ptr p102 0), (5, .i s116)]) (fun v => [(p102, .cells [.sl .full 1 (([] : List (List (List UInt8))).map av_List_List_UInt8)])]) ?_ ?_
    ·have h := s116e
     refine xr (xz (.i 4) Z (xe (aw_block (aw_while (σ := mewsref15.Take.S0) (ν := Unit) (mewsref15.Take.body0 s_) (fun s125 v => [(0, .str s_), (2, .ptr p102 0), (5, .i s125.n), (6, .i s125.i)]) (fun s125 v => [(p102, .cells [.sl .full 1 (([] : List (List (List UInt8))).map av_List_List_UInt8)])]) ⟨0, 4⟩ () _ h (wi [0] Z) ?_))))
     rintro s125 _ x127 h hx126
     unfold mewsref15.Take.body0 at h
     refine aw_seq (xr (xy Z (xz (.bool (decide (1 ≤ s125.i))) Z (xe (cd h (tm Z) (fun _ h => ?_) (fun _ h => ?_))))))
     ·refine aw_skip (aw_seq (aw_block (aw_region (xy Z (xz (.i (IntKind.wrap .i64 (s125.n * 256))) Z (xy Z (xy Z ?_)))))))
      obtain ⟨c129, h⟩ := need_of h
      refine xa (.int .u8 (bix s_ s125.i)) Z (pu_strIdxM Z underlying9 (tm Z) (tm Z) c129) (xa (.i (IntKind.wrap .i64 (bix s_ s125.i))) Z (pu_conv Z underlying5 underlying3 (tm Z)) (xz (.i (IntKind.wrap .i64 ((IntKind.wrap .i64 (s125.n * 256)) + (IntKind.wrap .i64 (bix s_ s125.i))))) Z (xy Z (xe (aw_region (xy Z (xz (.i (IntKind.wrap .i64 (s125.i - 1))) Z (xy Z (xe ?_)))))))))
      cases h
      exact ⟨_, (), Z, wl [0] Z ⟨⟨_, Z, ⟨vr, trivial⟩, Z⟩, trivial⟩ ⟨tm Z, tm Z, (AEv.le (tm Z) vr), (AEv.le (tm Z) vr), trivial⟩⟩
     ·refine aw_exit ?_
      cases h
      have h := congrArg some (hx126 _ rfl)
      cases h
      exact ⟨(), wi [0] Z⟩
    ·intro _
     have h := h117
     refine aw_seq (xr (xy Z (xz (.bool (decide (4194304 < s116))) Z (xe (cd h (tm Z) (fun _ h => ?_) (fun _ h => ?_))))))
     ·refine xr (xa (.agg [.sl .full 1 (([] : List (List (List UInt8))).map av_List_List_UInt8)]) Z (pu_build (zs := [.sl .full 1 (([] : List (List (List UInt8))).map av_List_List_UInt8)]) (szs := [1]) (aparts := []) (cs := [.sl .full 1 (([] : List (List (List UInt8))).map av_List_List_UInt8)]) Z underlying68 zeroValue68 Z ⟨sizeOf66, trivial⟩ trivial Z) (xs 0 [.sl .full 1 (([] : List (List (List UInt8))).map av_List_List_UInt8)] sizeOf68 Z (xz (.i 0) Z (xz (.i 6) Z (xe (aw_ret ?_))))))
      cases h
      exact rq [.agg [.sl .full 1 (([] : List (List (List UInt8))).map av_List_List_UInt8)], .i 0, .i 6] ⟨Z, Z⟩ (AV.Le.tup ⟨(AV.Le.agg ⟨(AV.Le.forget _ _ _), trivial⟩), vr, vr, trivial⟩) ⟨(CellOk.agg 0 (tm Z) Z isAgg68 sizeOf68 (nb Z) Z), (tm Z), (tm Z), trivial⟩ w0
     ·refine aw_skip (aw_seq (xr (xy Z (xa (.i (s_.length : Int)) Z (pu_strLen Z underlying9 (tm Z)) (xy Z (xz (.i (IntKind.wrap .i64 (s116 + 9))) Z (xz (.bool (decide ((s_.length : Int) < (IntKind.wrap .i64 (s116 + 9))))) Z (xe ?_))))))))
      refine aw_cond (b := decide ((s_.length : Int) < (IntKind.wrap .i64 (s116 + 9)))) (tm Z) (fun hb198 => ?_) (fun hb198 => ?_)
      ·replace h := ite_t (dec_t hb198) h
       refine xr (xa (.agg [.sl .full 1 (([] : List (List (List UInt8))).map av_List_List_UInt8)]) Z (pu_build (zs := [.sl .full 1 (([] : List (List (List UInt8))).map av_List_List_UInt8)]) (szs := [1]) (aparts := []) (cs := [.sl .full 1 (([] : List (List (List UInt8))).map av_List_List_UInt8)]) Z underlying68 zeroValue68 Z ⟨sizeOf66, trivial⟩ trivial Z) (xs 0 [.sl .full 1 (([] : List (List (List UInt8))).map av_List_List_UInt8)] sizeOf68 Z (xz (.i 0) Z (xz (.i 4) Z (xe (aw_ret ?_))))))
       cases h
       exact rq [.agg [.sl .full 1 (([] : List (List (List UInt8))).map av_List_List_UInt8)], .i 0, .i 4] ⟨Z, Z⟩ (AV.Le.tup ⟨(AV.Le.agg ⟨(AV.Le.forget _ _ _), trivial⟩), vr, vr, trivial⟩) ⟨(CellOk.agg 0 (tm Z) Z isAgg68 sizeOf68 (nb Z) Z), (tm Z), (tm Z), trivial⟩ w0
      ·replace h := ite_f (dec_f hb198) h
       refine aw_skip (aw_seq (aw_seq ?_))
       obtain ⟨c131, h⟩ := need_of h
       obtain ⟨r132, r132e, h⟩ := bind_some h
       obtain ⟨c133, h⟩ := need_of h
       refine aw_planR (by decide +kernel) [[], [], [], [], [], [], [], [], [], []] [[]] [[[(p102, .cells [.sl .full 1 (([] : List (List (List UInt8))).map av_List_List_UInt8)])]]] [.str s_, .i s116, .i (IntKind.wrap .i64 (s116 + 5)), .str (sub s_ 0 (IntKind.wrap .i64 (s116 + 5))), .str r132, .str s_, .i s116, .i (IntKind.wrap .i64 (s116 + 9)), .str (sub s_ 0 (IntKind.wrap .i64 (s116 + 9))), .bool (!decide (r132 = (sub s_ 0 (IntKind.wrap .i64 (s116 + 9)))))] (by decide +kernel) Z Z ?_ ?_
       ·exact ⟨ym Z Z Z, ym Z Z Z, yp Z (pe Z), yp Z (pu_strSliceM Z underlying9 (tm Z) Z ⟨_, (tm Z)⟩ c131), stepg_plain Z (op_call (vs := [.str (sub s_ 0 (IntKind.wrap .i64 (s116 + 5)))]) (H := []) Z call65 ⟨(tm Z), trivial⟩ (R := []) (List.Perm.refl _) (mewsref14.Seal.ok r132e) (by rintro _ _ ⟨rfl, rfl⟩; exact ⟨Z, Z⟩)), ym Z Z Z, ym Z Z Z, yp Z (pe Z), yp Z (pu_strSliceM Z underlying9 (tm Z) Z ⟨_, (tm Z)⟩ c133), yp Z (pu_str (v := .bool (!decide (r132 = (sub s_ 0 (IntKind.wrap .i64 (s116 + 9)))))) Z Z (tm Z) (tm Z) Z), trivial⟩
       refine aw_cond (b := (!decide (r132 = (sub s_ 0 (IntKind.wrap .i64 (s116 + 9)))))) (tm Z) (fun hb197 => ?_) (fun hb197 => ?_)
       ·replace h := ite_f (ndec_t hb197) h
        refine xr (xa (.agg [.sl .full 1 (([] : List (List (List UInt8))).map av_List_List_UInt8)]) Z (pu_build (zs := [.sl .full 1 (([] : List (List (List UInt8))).map av_List_List_UInt8)]) (szs := [1]) (aparts := []) (cs := [.sl .full 1 (([] : List (List (List UInt8))).map av_List_List_UInt8)]) Z underlying68 zeroValue68 Z ⟨sizeOf66, trivial⟩ trivial Z) (xs 0 [.sl .full 1 (([] : List (List (List UInt8))).map av_List_List_UInt8)] sizeOf68 Z (xz (.i 0) Z (xz (.i 14) Z (xe (aw_ret ?_))))))
        cases h
        exact rq [.agg [.sl .full 1 (([] : List (List (List UInt8))).map av_List_List_UInt8)], .i 0, .i 14] ⟨Z, Z⟩ (AV.Le.tup ⟨(AV.Le.agg ⟨(AV.Le.forget _ _ _), trivial⟩), vr, vr, trivial⟩) ⟨(CellOk.agg 0 (tm Z) Z isAgg68 sizeOf68 (nb Z) Z), (tm Z), (tm Z), trivial⟩ w0
       ·replace h := ite_t (ndec_f hb197) h
        refine aw_skip (xr (xy Z (xy Z (xz (.i (IntKind.wrap .i64 (s116 + 5))) Z ?_))))
        obtain ⟨c134, h⟩ := need_of h
        refine xa (.str (sub s_ 5 (IntKind.wrap .i64 (s116 + 5)))) Z (pu_strSliceM Z underlying9 (tm Z) ⟨_, (AEv.int _ _)⟩ ⟨_, (tm Z)⟩ c134) (xa (.agg [.i 65536, .i 1048576, .i 1]) Z (pu_build (zs := [.i 0, .i 0, .i 0]) (szs := [1, 1, 1]) (aparts := [(0, .i 65536), (1, .i 1048576), (2, .i 1)]) (cs := [.i 65536, .i 1048576, .i 1]) Z underlying149 zeroValue149 Z ⟨sizeOf3, sizeOf3, sizeOf3, trivial⟩ ⟨Z, (AEv.int _ _), ⟨Z, (AEv.int _ _), ⟨Z, (AEv.int _ _), trivial⟩⟩⟩ Z) ?_)
        obtain ⟨r135, r135e, h⟩ := bind_some h
        refine xk (mewsref05.All.ok r135e) call88 Z ?_
        rintro _ _ ⟨t136, rfl, rfl⟩
        refine xy Z (xz (.agg (api.Input.ct .no r135.1)) Z (xz (.sl (.own t136) 2 (r135.2.map api.Request.av)) Z (xc Z (op_alloc (cs := [.str ([] : List UInt8), .sl .full 1 (([] : List (List UInt8)).map AV.str), .i 0, .i 0, .bool false, .i 0, .i 0]) (v := .agg [.str ([] : List UInt8), .sl .full 1 (([] : List (List UInt8)).map AV.str), .i 0, .i 0, .bool false, .i 0, .i 0]) Z zeroValue144 Z Z Z ?_))))
        intro p137
        refine xs 0 (api.Input.ct .no r135.1) sizeOf144 Z (xy Z (xe (xr (xa (.agg [.sl .full 1 (([] : List (List (List UInt8))).map av_List_List_UInt8)]) Z (pu_build (zs := [.sl .full 1 (([] : List (List (List UInt8))).map av_List_List_UInt8)]) (szs := [1]) (aparts := []) (cs := [.sl .full 1 (([] : List (List (List UInt8))).map av_List_List_UInt8)]) Z underlying68 zeroValue68 Z ⟨sizeOf66, trivial⟩ trivial Z) (xc Z (op_alloc (cs := [.sl .full 1 (([] : List (List (List UInt8))).map av_List_List_UInt8)]) (v := .agg [.sl .full 1 (([] : List (List (List UInt8))).map av_List_List_UInt8)]) Z zeroValue68 Z Z Z ?_))))))
        intro p138
        refine xs 0 [.sl .full 1 (([] : List (List (List UInt8))).map av_List_List_UInt8)] sizeOf68 Z (xe ?_)
        obtain ⟨s160, s160e, h162⟩ := bind_some h
        refine aw_meet (ν := Nat) (fun v => [(0, .str s_), (2, .ptr p102 0), (5, .i s116), (9, .ptr p138 0)]) (fun v => [(p102, .cells [.sl .full 1 (([] : List (List (List UInt8))).map av_List_List_UInt8)]), (p138, .cells [.sl (.own v) 1 (s160.map av_List_List_UInt8)]), (v, .spare)]) ?_ ?_
        ·have h := s160e
         refine xr (xz (.i 0) Z (xe (aw_block (aw_claimCell 0 0 Z Z fun t184 => (aw_while (σ := mewsref15.Take.S2) (ν := Nat) (mewsref15.Take.body2 r135) (fun s175 v => [(0, .str s_), (2, .ptr p102 0), (5, .i s116), (8, .sl (.own t136) 2 (r135.2.map api.Request.av)), (9, .ptr p138 0), (10, .i s175.i)]) (fun s175 v => [(p102, .cells [.sl .full 1 (([] : List (List (List UInt8))).map av_List_List_UInt8)]), (t136, .spare), (p138, .cells [.sl (.own v) 1 (s175.c.map av_List_List_UInt8)]), (v, .spare)]) ⟨0, ([] : List (List (List UInt8)))⟩ t184 _ h (wi [4, 3, 1, 0] Z) ?_)))))
         rintro s175 n176 x178 h hx177
         unfold mewsref15.Take.body2 at h
         refine aw_seq (xr (xy Z (xy Z (xa (.i (r135.2.length : Int)) Z (pu_lenM Z underlying145 (tm Z)) (xz (.bool (decide (s175.i < (r135.2.length : Int)))) Z (xe (cd h (tm Z) (fun _ h => ?_) (fun _ h => ?_))))))))
         ·refine aw_skip (aw_seq (aw_block ?_))
          obtain ⟨c180, h⟩ := need_of h
          obtain ⟨c181, h⟩ := need_of h
          refine aw_reserve fun p182 => (aw_planR (by decide +kernel) [[], [(3, 0, false)], [], [], [], [], [], [], [(4, 0, true), (0, 0, true)], [], [(3, 0, true)]] [[8], [], [], [10], [8]] [[[(p182, .resv)], [(p182, .spare)]], [[(p102, .cells [.sl .full 1 (([] : List (List (List UInt8))).map av_List_List_UInt8)])]], [[(t136, .spare)]], [[(p138, .cells [.sl (.own n176) 1 (s175.c.map av_List_List_UInt8)])], [(p138, .cells [.sl (.own p182) 1 ((s175.c ++ [(ix r135.2 s175.i).Args]).map av_List_List_UInt8)])]], [[(n176, .spare)], []]] [.ptr p138 0, .sl (.own n176) 1 (s175.c.map av_List_List_UInt8), .sl (.own t136) 2 (r135.2.map api.Request.av), .i s175.i, .vptr [.sl .no 1 ((ix r135.2 s175.i).Args.map AV.str), .i (ix r135.2 s175.i).Size], .vptr [.sl .no 1 ((ix r135.2 s175.i).Args.map AV.str), .i (ix r135.2 s175.i).Size], .sl .no 1 ((ix r135.2 s175.i).Args.map AV.str), .sl .full 1 ([(ix r135.2 s175.i).Args].map av_List_List_UInt8), .sl (.own p182) 1 ((s175.c ++ [(ix r135.2 s175.i).Args]).map av_List_List_UInt8), .ptr p138 0, .un] (by decide +kernel) Z Z ?_ ?_)
          ·exact ⟨yp Z (fa Z underlying68 Z sizeOf66 Z Z Z), stepg_plain Z (op_load1 (i := 0) Z isAgg66 (tm Z) Z Z ⟨Z, Z⟩), ym Z Z Z, ym Z Z Z, yp Z (pu_indexAddrM Z underlying145 sizeOf151 (tm Z) (tm Z) c180 Z), yp Z (fa Z underlying151 Z sizeOf65 Z Z Z), stepg_plain Z (op_loadV1 Z isAgg65 (tm Z) Z ⟨Z, Z⟩), stepg_plain Z (op_buildSlice (xs := ([(ix r135.2 s175.i).Args] : List (List (List UInt8))).map av_List_List_UInt8) (aparts := [(0, .sl .no 1 ((ix r135.2 s175.i).Args.map AV.str))]) Z underlying66 sizeOf65 zeroValue65 (by decide) (by decide) ⟨Z, (tm Z), trivial⟩ Z Z Z ⟨Z, Z⟩), stepg_plain Z (aop_settleS (op_appendOM (q := 0) Z underlying66 underlying66 (.inl Z) typeInfo65 Z Z Z (by decide) (tm Z) Z (given_sl (tm Z)) c181 fun t => ⟨t, Z, Z⟩) ⟨Z, Z⟩), yp Z (fa Z underlying68 Z sizeOf66 Z Z Z), stepg_plain Z (op_store (i := 0) (cs' := [.sl (.own p182) 1 ((s175.c ++ [(ix r135.2 s175.i).Args]).map av_List_List_UInt8)]) Z sizeOf66 (tm Z) (v := .sl (.own p182) 1 ((s175.c ++ [(ix r135.2 s175.i).Args]).map av_List_List_UInt8)) (tm Z) Z Z Z (nb Z) Z ⟨Z, Z⟩), trivial⟩
          refine aw_region (xy Z (xz (.i (IntKind.wrap .i64 (s175.i + 1))) Z (xy Z (xe ?_))))
          cases h
          exact ⟨_, p182, Z, wl [1, 2, 3, 0] Z ⟨⟨_, Z, ⟨vr, trivial⟩, Z⟩, ⟨_, Z, Z⟩, ⟨_, Z, ⟨vr, trivial⟩, Z⟩, ⟨_, Z, Z⟩, trivial⟩ ⟨tm Z, tm Z, tm Z, tm Z, tm Z, (AEv.le (tm Z) vr), trivial⟩⟩
         ·refine aw_exit ?_
          cases h
          have h := congrArg some (hx177 _ rfl)
          cases h
          exact ⟨n176, wi [0, 2, 3] Z⟩
        ·intro n161
         have h := h162
         refine aw_seq ?_
         obtain ⟨s189, s189e, h190⟩ := bind_some h
         refine aw_meet (ν := Unit) (fun v => [(2, .ptr p102 0), (5, .i s116), (9, .ptr p138 0), (90, .bool s189)]) (fun v => [(p102, .cells [.sl .full 1 (([] : List (List (List UInt8))).map av_List_List_UInt8)]), (p138, .cells [.sl (.own n161) 1 (s160.map av_List_List_UInt8)]), (n161, .spare)]) ?_ ?_
         ·have h := s189e
          obtain ⟨r192, r192e, h⟩ := bind_some h
          rcases Bool.eq_false_or_eq_true (!r192) with hb193 | hb193
          ·replace h := ite_t hb193 h
           refine aw_planR (by decide +kernel) [[(1, 0, false)], [], [], [], [], [], [], [], [], [], [], []] [[], [], []] [[[(p102, .cells [.sl .full 1 (([] : List (List (List UInt8))).map av_List_List_UInt8)])]], [[(p138, .cells [.sl (.own n161) 1 (s160.map av_List_List_UInt8)])]], [[(n161, .spare)]]] [.agg [.sl (.own n161) 1 (s160.map av_List_List_UInt8)], .bool r192, .bool (!r192), .bool true, .lit undef, .lit undef, .lit undef, .lit undef, .lit undef, .lit undef, .lit undef, .bool true] (by decide +kernel) Z Z ?_ ?_
           ·exact ⟨stepg_plain Z (op_loadN (i := 0) Z isAgg68 sizeOf68 (tm Z) Z (nb Z) Z ⟨Z, Z⟩), stepg_plain Z (op_call (vs := [.agg [.sl .no 1 (s160.map av_List_List_UInt8)]]) (H := []) Z call63 ⟨(AEv.le (tm Z) (AV.Le.agg ⟨(AV.Le.forget _ _ _), trivial⟩)), trivial⟩ (R := []) (List.Perm.refl _) (mewsref15.May.ok r192e) (by rintro _ _ ⟨rfl, rfl⟩; exact ⟨Z, Z⟩)), yp Z (pe Z), AStepG.cast (ym Z Z Z) (congrArg AV.bool hb193), yx Z Z Z, yx Z Z Z, yx Z Z Z, yx Z Z Z, yx Z Z Z, yx Z Z Z, yx Z Z Z, yp Z (pe Z), trivial⟩
           cases h
           exact ⟨(), wi [0, 1, 2] Z⟩
          ·replace h := ite_fb hb193 h
           obtain ⟨r194, r194e, h⟩ := bind_some h
           obtain ⟨c195, h⟩ := need_of h
           refine aw_planR (by decide +kernel) [[(1, 0, false)], [], [], [], [(1, 0, false)], [], [], [], [], [], [], []] [[], [], []] [[[(p102, .cells [.sl .full 1 (([] : List (List (List UInt8))).map av_List_List_UInt8)])]], [[(p138, .cells [.sl (.own n161) 1 (s160.map av_List_List_UInt8)])]], [[(n161, .spare)]]] [.agg [.sl (.own n161) 1 (s160.map av_List_List_UInt8)], .bool r192, .bool (!r192), .bool false, .agg [.sl (.own n161) 1 (s160.map av_List_List_UInt8)], .str r194, .str s_, .i s116, .i (IntKind.wrap .i64 (s116 + 5)), .str (sub s_ 5 (IntKind.wrap .i64 (s116 + 5))), .bool (!decide (r194 = (sub s_ 5 (IntKind.wrap .i64 (s116 + 5))))), .bool (!decide (r194 = (sub s_ 5 (IntKind.wrap .i64 (s116 + 5)))))] (by decide +kernel) Z Z ?_ ?_
           ·exact ⟨stepg_plain Z (op_loadN (i := 0) Z isAgg68 sizeOf68 (tm Z) Z (nb Z) Z ⟨Z, Z⟩), stepg_plain Z (op_call (vs := [.agg [.sl .no 1 (s160.map av_List_List_UInt8)]]) (H := []) Z call63 ⟨(AEv.le (tm Z) (AV.Le.agg ⟨(AV.Le.forget _ _ _), trivial⟩)), trivial⟩ (R := []) (List.Perm.refl _) (mewsref15.May.ok r192e) (by rintro _ _ ⟨rfl, rfl⟩; exact ⟨Z, Z⟩)), yp Z (pe Z), AStepG.cast (ym Z Z Z) (congrArg AV.bool hb193), yg Z Z (op_loadN (i := 0) Z isAgg68 sizeOf68 (tm Z) Z (nb Z) Z ⟨Z, Z⟩), yg Z Z (op_call (vs := [.agg [.sl .no 1 (s160.map av_List_List_UInt8)]]) (H := []) Z call64 ⟨(AEv.le (tm Z) (AV.Le.agg ⟨(AV.Le.forget _ _ _), trivial⟩)), trivial⟩ (R := []) (List.Perm.refl _) (mewsref15.load.ok r194e) (by rintro _ _ ⟨rfl, rfl⟩; exact ⟨Z, Z⟩)), yq Z Z (pe Z), yq Z Z (pe Z), yq Z Z (pe Z), yq Z Z (pu_strSliceM Z underlying9 (tm Z) ⟨_, (AEv.int _ _)⟩ ⟨_, (tm Z)⟩ c195), yq Z Z (pu_str (v := .bool (!decide (r194 = (sub s_ 5 (IntKind.wrap .i64 (s116 + 5)))))) Z Z (tm Z) (tm Z) Z), yp Z (pe Z), trivial⟩
           cases h
           exact ⟨(), wi [0, 1, 2] Z⟩
         ·intro _
          have h := h190
          refine aw_cond (b := s189) (tm Z) (fun hb196 => ?_) (fun hb196 => ?_)
          ·replace h := ite_t hb196 h
           refine xr (xa (.agg [.sl .full 1 (([] : List (List (List UInt8))).map av_List_List_UInt8)]) Z (pu_build (zs := [.sl .full 1 (([] : List (List (List UInt8))).map av_List_List_UInt8)]) (szs := [1]) (aparts := []) (cs := [.sl .full 1 (([] : List (List (List UInt8))).map av_List_List_UInt8)]) Z underlying68 zeroValue68 Z ⟨sizeOf66, trivial⟩ trivial Z) (xs 0 [.sl .full 1 (([] : List (List (List UInt8))).map av_List_List_UInt8)] sizeOf68 Z (xz (.i 0) Z (xz (.i 5) Z (xe (aw_ret ?_))))))
           cases h
           exact rq [.agg [.sl .full 1 (([] : List (List (List UInt8))).map av_List_List_UInt8)], .i 0, .i 5] ⟨Z, Z⟩ (AV.Le.tup ⟨(AV.Le.agg ⟨(AV.Le.forget _ _ _), trivial⟩), vr, vr, trivial⟩) ⟨(CellOk.agg 0 (tm Z) Z isAgg68 sizeOf68 (nb Z) Z), (tm Z), (tm Z), trivial⟩ w0
          ·replace h := ite_fb hb196 h
           refine aw_skip (xr (xL 1 isAgg68 sizeOf68 Z (xy Z (xz (.i (IntKind.wrap .i64 (s116 + 9))) Z (xs 0 [.sl (.own n161) 1 (s160.map av_List_List_UInt8)] sizeOf68 Z (xy Z (xz (.i 0) Z (xe ?_))))))))
           refine aw_ret ?_
           cases h
           exact rq [.agg [.sl (.own n161) 1 (s160.map av_List_List_UInt8)], .i (IntKind.wrap .i64 (s116 + 9)), .i 0] ⟨Z, Z⟩ (AV.Le.tup ⟨(AV.Le.agg ⟨(AV.Le.forget _ _ _), trivial⟩), vr, vr, trivial⟩) ⟨(CellOk.agg 0 (tm Z) Z isAgg68 sizeOf68 (nb Z) Z), (tm Z), (tm Z), trivial⟩ w0

theorem mewsref15.All.ok {s_ : List UInt8} {r : (List api.Unit) × Int} (h : mewsref15.All s_ = some r) : Go.Lift.Spec prog 32 [.str s_] [] (fun v H => ∃ n0, v = .tup [.sl (.own n0) 1 (r.1.map api.Unit.av), .i r.2] ∧ H = [(n0, .spare)]) := by
 unfold mewsref15.All at h
 refine Go.Lift.Spec.of_body (rs := [.tmp 2, .tmp 3]) func32 Z Z (nb Z) Z (xr (xa (.sl .full 1 (([] : List api.Unit).map api.Unit.av)) Z (pu_assign Z (AEv.nil 1 (by decide))) (xz (.i 0) Z (xe (xr (xa (.sl .full 1 (([] : List api.Unit).map api.Unit.av)) Z (pu_assign Z (AEv.nil 1 (by decide))) (xe ?_)))))))
 refine xr (xz (.i 0) Z (xe (aw_block (aw_claim 4 (tm Z) fun t54 => (aw_while (σ := mewsref15.All.S0) (ν := Nat) (mewsref15.All.body0 s_) (fun s43 v => [(0, .str s_), (4, .sl (.own v) 1 (s43.out.map api.Unit.av)), (5, .i s43.at_)]) (fun s43 v => [(v, .spare)]) ⟨([] : List api.Unit), 0⟩ t54 _ h (wi [0] Z) ?_)))))
 rintro s43 n44 x46 h hx45
 unfold mewsref15.All.body0 at h
 refine aw_block (xr (xy Z (xy Z ?_)))
 obtain ⟨c48, h⟩ := need_of h
 refine xa (.str (sub s_ s43.at_ (s_.length : Int))) Z (pu_strSliceM Z underlying9 (tm Z) ⟨_, (tm Z)⟩ Z c48) ?_
 obtain ⟨r49, r49e, h⟩ := bind_some h
 refine xk (mewsref15.Take.ok r49e) call60 Z ?_
 rintro _ _ ⟨rfl, rfl⟩
 refine xy Z (xz (.agg [.sl .no 1 (r49.1.Cmds.map av_List_List_UInt8)]) Z (xz (.i r49.2.1) Z (xz (.i r49.2.2) Z (xc Z (op_alloc (cs := [.sl .full 1 (([] : List (List (List UInt8))).map av_List_List_UInt8)]) (v := .agg [.sl .full 1 (([] : List (List (List UInt8))).map av_List_List_UInt8)]) Z zeroValue68 Z Z Z ?_)))))
 intro p50
 refine xs 0 [.sl .no 1 (r49.1.Cmds.map av_List_List_UInt8)] sizeOf68 Z (xy Z (xy Z (xe (aw_seq (xr (xy Z (xz (.bool (!decide (r49.2.2 = 0))) Z (xe ?_))))))))
 refine aw_cond (b := (!decide (r49.2.2 = 0))) (tm Z) (fun hb53 => ?_) (fun hb53 => ?_)
 ·replace h := ite_f (ndec_t hb53) h
  refine xr (xy Z (xy Z (xy Z (xy Z (xe (aw_ret ?_))))))
  cases h
  have h := congrArg some (hx45 _ rfl)
  cases h
  exact rt ⟨n44, Z, Z⟩ Z (wi [1] Z)
 ·replace h := ite_t (ndec_f hb53) h
  refine aw_skip (xr (xy Z (xL 0 isAgg68 sizeOf68 Z (xc Z (op_buildSlice (xs := ([r49.1] : List api.Unit).map api.Unit.av) (aparts := [(0, .agg [.sl .no 1 (r49.1.Cmds.map av_List_List_UInt8)])]) Z underlying28 sizeOf68 zeroValue68 (by decide) (by decide) ⟨Z, (tm Z), trivial⟩ Z Z Z ?_)))))
  obtain ⟨c51, h⟩ := need_of h
  refine xc Z (op_appendOM (q := 1) Z underlying28 underlying28 (.inl Z) typeInfo68 Z Z Z (by decide) (tm Z) Z (given_sl (tm Z)) c51 ?_)
  intro t52
  refine xy Z (xe (aw_region (xy Z (xy Z (xz (.i (IntKind.wrap .i64 (s43.at_ + r49.2.1))) Z (xy Z (xe ?_)))))))
  cases h
  exact ⟨_, t52, Z, wl [1] Z ⟨⟨_, Z, Z⟩, trivial⟩ ⟨tm Z, (AEv.le (tm Z) vr), (AEv.le (tm Z) vr), trivial⟩⟩

end Go.Pu
