/- Printed by lift.py: the functions come to them. -/
import Derived.Test.YtfapgollkabopaaLiftU
import Derived.Test.YtfapgollkabopaaAFK1
set_option maxRecDepth 100000
set_option maxHeartbeats 0
namespace Go.Pu
open Go.Lift Go.Proofs.Try Go.RowKit Go.Proofs

theorem mewsref04.digit.ok {c_ : Int} {r : Int} (h : mewsref04.digit c_ = some r) : Go.Lift.Spec prog 93 [.int .u8 c_] [] (fun v H => v = .int .i64 r ∧ H = []) := by
 unfold mewsref04.digit at h
 refine Go.Lift.Spec.of_body (rs := [.tmp 2]) func93 Z Z (Nat.le_of_ble_eq_true Z) Z (aw_seq (aw_region (ap (.int .i64 0) Z Z Z (pu_assign Z (AEv.int _ _)) (aops_nil (aw_seq (aw_region (ap (.str [48, 49, 50, 51, 52, 53, 54, 55, 56, 57, 97, 98, 99, 100, 101, 102]) Z Z Z (pu_assign Z (AEv.const Z)) (ap (.str [48, 49, 50, 51, 52, 53, 54, 55, 56, 57, 65, 66, 67, 68, 69, 70]) Z Z Z (pu_assign Z (AEv.const Z)) (aops_nil ?_)))))))))
 obtain ⟨s164, s164e, h123⟩ := bind_some h
 refine aw_join (σ := Unit) (ν := Unit) (fun u v => []) (fun u v => []) (fun u => s164 = .inl u) ?_ ?_
 ·intro s122
  intro _
  rintro rfl
  have h := onSum_inl h123
  refine aw_seq (aw_region (ap (.int .i64 16) Z Z Z (pu_assign Z (AEv.int _ _)) (aops_nil (aw_ret ?_))))
  obtain rfl := some_of h
  exact ⟨[.int .i64 16], _, [], ⟨(tm Z), trivial⟩, (AV.Le.refl _), Weak.mkL [] (by decide) trivial trivial, ⟨Z, Z⟩⟩
 ·have h := s164e
  refine aw_seq (aw_region (ap (.int .i64 0) Z Z Z (pu_assign Z (AEv.int _ _)) (aops_nil (aw_block (aw_while (σ := mewsref04.digit.S0) (ν := Unit) (mewsref04.digit.body0 c_) (fun s149 v => [(0, .int .u8 c_), (3, .str [48, 49, 50, 51, 52, 53, 54, 55, 56, 57, 97, 98, 99, 100, 101, 102]), (4, .str [48, 49, 50, 51, 52, 53, 54, 55, 56, 57, 65, 66, 67, 68, 69, 70]), (5, .int .i64 s149.i)]) (fun s149 v => []) ⟨0⟩ () _ h (Weak.mkL [] (by decide) trivial ⟨AEv.tmp Z, AEv.tmp Z, AEv.tmp Z, AEv.tmp Z, trivial⟩) ?_)))))
  rintro s149 _ x151 h hx150
  unfold mewsref04.digit.body0 at h
  refine aw_seq (aw_seq (aw_region (ap (.int .i64 s149.i) Z Z Z (pu_move Z (tm Z)) (ap (.bool (decide (s149.i < 16))) Z Z Z (pu_int (v := .bool (decide (s149.i < 16))) Z Z (tm Z) (AEv.int _ _) Z) (aops_nil (aw_cond (b := decide (s149.i < 16)) (tm Z) (fun hb163 => ?_) (fun hb163 => ?_)))))))
  ·replace h := ite_t (dec_t hb163) h
   refine aw_skip (aw_seq (aw_block ?_))
   obtain ⟨s156, s156e, h157⟩ := bind_some h
   refine aw_meet (ν := Unit) (fun v => [(0, .int .u8 c_), (3, .str [48, 49, 50, 51, 52, 53, 54, 55, 56, 57, 97, 98, 99, 100, 101, 102]), (4, .str [48, 49, 50, 51, 52, 53, 54, 55, 56, 57, 65, 66, 67, 68, 69, 70]), (5, .int .i64 s149.i), (21, .bool s156)]) (fun v => []) ?_ ?_
   ·have h := s156e
    refine aw_region (ap (.str [48, 49, 50, 51, 52, 53, 54, 55, 56, 57, 97, 98, 99, 100, 101, 102]) Z Z Z (pu_move Z (tm Z)) (ap (.int .i64 s149.i) Z Z Z (pu_move Z (tm Z)) ?_))
    obtain ⟨c159, h⟩ := need_of h
    refine ap (.int .u8 (bix [48, 49, 50, 51, 52, 53, 54, 55, 56, 57, 97, 98, 99, 100, 101, 102] s149.i)) Z Z Z (pu_strIdxM Z underlying9 (tm Z) (tm Z) c159) (ap (.int .u8 c_) Z Z Z (pu_move Z (tm Z)) (ap (.bool (decide ((bix [48, 49, 50, 51, 52, 53, 54, 55, 56, 57, 97, 98, 99, 100, 101, 102] s149.i) = c_))) Z Z Z (pu_int (v := .bool (decide ((bix [48, 49, 50, 51, 52, 53, 54, 55, 56, 57, 97, 98, 99, 100, 101, 102] s149.i) = c_))) Z Z (tm Z) (tm Z) Z) (ap (.bool (decide ((bix [48, 49, 50, 51, 52, 53, 54, 55, 56, 57, 97, 98, 99, 100, 101, 102] s149.i) = c_))) Z Z Z (pu_move Z (tm Z)) ?_)))
    rcases Bool.eq_false_or_eq_true (decide ((bix [48, 49, 50, 51, 52, 53, 54, 55, 56, 57, 97, 98, 99, 100, 101, 102] s149.i) = c_)) with hb160 | hb160
    ·replace h := ite_t (dec_t hb160) h
     refine aops_known 15 Z hb160 (an Z Z Z Z Z Z Z Z (an Z Z Z Z Z Z Z Z (an Z Z Z Z Z Z Z Z (an Z Z Z Z Z Z Z Z (an Z Z Z Z Z Z Z Z (ap (.bool true) Z Z Z (pu_pick (b := true) Z (tm Z) (fun _ => (AEv.bool _)) (fun h => nomatch h)) (aops_nil ?_)))))))
     obtain rfl := some_of h
     exact ⟨(), Weak.mkL [] (by decide) trivial ⟨AEv.tmp Z, AEv.tmp Z, AEv.tmp Z, AEv.tmp Z, AEv.tmp Z, trivial⟩⟩
    ·replace h := ite_f (dec_f hb160) h
     refine aops_known 15 Z hb160 (agp (.str [48, 49, 50, 51, 52, 53, 54, 55, 56, 57, 65, 66, 67, 68, 69, 70]) Z Z Z Z Z Z Z (pu_move Z (tm Z)) (agp (.int .i64 s149.i) Z Z Z Z Z Z Z (pu_move Z (tm Z)) ?_))
     obtain ⟨c161, h⟩ := need_of h
     refine agp (.int .u8 (bix [48, 49, 50, 51, 52, 53, 54, 55, 56, 57, 65, 66, 67, 68, 69, 70] s149.i)) Z Z Z Z Z Z Z (pu_strIdxM Z underlying9 (tm Z) (tm Z) c161) (agp (.int .u8 c_) Z Z Z Z Z Z Z (pu_move Z (tm Z)) (agp (.bool (decide ((bix [48, 49, 50, 51, 52, 53, 54, 55, 56, 57, 65, 66, 67, 68, 69, 70] s149.i) = c_))) Z Z Z Z Z Z Z (pu_int (v := .bool (decide ((bix [48, 49, 50, 51, 52, 53, 54, 55, 56, 57, 65, 66, 67, 68, 69, 70] s149.i) = c_))) Z Z (tm Z) (tm Z) Z) (ap (.bool (decide ((bix [48, 49, 50, 51, 52, 53, 54, 55, 56, 57, 65, 66, 67, 68, 69, 70] s149.i) = c_))) Z Z Z (pu_pick (b := false) Z (tm Z) (fun h => nomatch h) (fun _ => (tm Z))) (aops_nil ?_))))
     obtain rfl := some_of h
     exact ⟨(), Weak.mkL [] (by decide) trivial ⟨AEv.tmp Z, AEv.tmp Z, AEv.tmp Z, AEv.tmp Z, (AEv.le (tm Z) (AV.Le.refl _)), trivial⟩⟩
   ·intro _
    have h := h157
    refine aw_cond (b := s156) (tm Z) (fun hb162 => ?_) (fun hb162 => ?_)
    ·replace h := ite_t hb162 h
     refine aw_seq (aw_region (ap (.int .i64 s149.i) Z Z Z (pu_move Z (tm Z)) (ap (.int .i64 s149.i) Z Z Z (pu_assign Z (tm Z)) (aops_nil (aw_ret ?_)))))
     obtain rfl := some_of h
     have h := congrArg some (hx150 _ rfl)
     obtain rfl := some_of h
     have h := onSum_inr h123
     obtain rfl := some_of h
     exact ⟨[.int .i64 s149.i], _, [], ⟨(tm Z), trivial⟩, (AV.Le.refl _), Weak.mkL [] (by decide) trivial trivial, ⟨Z, Z⟩⟩
    ·replace h := ite_fb hb162 h
     refine aw_skip (aw_region (ap (.int .i64 s149.i) Z Z Z (pu_move Z (tm Z)) (ap (.int .i64 (IntKind.wrap .i64 (s149.i + 1))) Z Z Z (pu_int (v := .int .i64 (IntKind.wrap .i64 (s149.i + 1))) Z Z (tm Z) (AEv.int _ _) Z) (ap (.int .i64 (IntKind.wrap .i64 (s149.i + 1))) Z Z Z (pu_assign Z (tm Z)) (aops_nil ?_)))))
     obtain rfl := some_of h
     exact ⟨_, (), Z, Weak.mkL [] (by decide) trivial ⟨AEv.tmp Z, AEv.tmp Z, AEv.tmp Z, (AEv.le (tm Z) (AV.Le.refl _)), trivial⟩⟩
  ·replace h := ite_f (dec_f hb163) h
   refine aw_exit ?_
   obtain rfl := some_of h
   have h := congrArg some (hx150 _ rfl)
   exact ⟨(), (), (some_of h).symm, Weak.mkL [] (by decide) trivial trivial⟩

theorem mewsref04.turned.ok {c_ : Int} {r : Int} (h : mewsref04.turned c_ = some r) : Go.Lift.Spec prog 94 [.int .u8 c_] [] (fun v H => v = .int .u8 r ∧ H = []) := by
 unfold mewsref04.turned at h
 refine Go.Lift.Spec.of_body (rs := [.tmp 2]) func94 Z Z (Nat.le_of_ble_eq_true Z) Z (aw_seq (aw_region (ap (.int .u8 0) Z Z Z (pu_assign Z (AEv.int _ _)) (aops_nil (aw_seq (aw_region (ap (.str [110, 114, 116, 98, 97]) Z Z Z (pu_assign Z (AEv.const Z)) (ap (.str [10, 13, 9, 8, 7]) Z Z Z (pu_assign Z (AEv.const Z)) (aops_nil ?_)))))))))
 obtain ⟨s80, s80e, h60⟩ := bind_some h
 refine aw_join (σ := Unit) (ν := Unit) (fun u v => [(0, .int .u8 c_)]) (fun u v => []) (fun u => s80 = .inl u) ?_ ?_
 ·intro s59
  intro _
  rintro rfl
  have h := onSum_inl h60
  refine aw_seq (aw_region (ap (.int .u8 c_) Z Z Z (pu_move Z (tm Z)) (ap (.int .u8 c_) Z Z Z (pu_assign Z (tm Z)) (aops_nil (aw_ret ?_)))))
  obtain rfl := some_of h
  exact ⟨[.int .u8 c_], _, [], ⟨(tm Z), trivial⟩, (AV.Le.refl _), Weak.mkL [] (by decide) trivial trivial, ⟨Z, Z⟩⟩
 ·have h := s80e
  refine aw_seq (aw_region (ap (.int .i64 0) Z Z Z (pu_assign Z (AEv.int _ _)) (aops_nil (aw_block (aw_while (σ := mewsref04.turned.S0) (ν := Unit) (mewsref04.turned.body0 c_) (fun s72 v => [(0, .int .u8 c_), (3, .str [110, 114, 116, 98, 97]), (4, .str [10, 13, 9, 8, 7]), (5, .int .i64 s72.i)]) (fun s72 v => []) ⟨0⟩ () _ h (Weak.mkL [] (by decide) trivial ⟨AEv.tmp Z, AEv.tmp Z, AEv.tmp Z, AEv.tmp Z, trivial⟩) ?_)))))
  rintro s72 _ x74 h hx73
  unfold mewsref04.turned.body0 at h
  refine aw_seq (aw_seq (aw_region (ap (.int .i64 s72.i) Z Z Z (pu_move Z (tm Z)) (ap (.str [110, 114, 116, 98, 97]) Z Z Z (pu_move Z (tm Z)) (ap (.int .i64 ([110, 114, 116, 98, 97].length : Int)) Z Z Z (pu_strLen Z underlying9 (tm Z)) (ap (.bool (decide (s72.i < ([110, 114, 116, 98, 97].length : Int)))) Z Z Z (pu_int (v := .bool (decide (s72.i < ([110, 114, 116, 98, 97].length : Int)))) Z Z (tm Z) (tm Z) Z) (aops_nil (aw_cond (b := decide (s72.i < ([110, 114, 116, 98, 97].length : Int))) (tm Z) (fun hb79 => ?_) (fun hb79 => ?_)))))))))
  ·replace h := ite_t (dec_t hb79) h
   refine aw_skip (aw_seq (aw_block (aw_seq (aw_region (ap (.str [110, 114, 116, 98, 97]) Z Z Z (pu_move Z (tm Z)) (ap (.int .i64 s72.i) Z Z Z (pu_move Z (tm Z)) ?_))))))
   obtain ⟨c76, h⟩ := need_of h
   refine ap (.int .u8 (bix [110, 114, 116, 98, 97] s72.i)) Z Z Z (pu_strIdxM Z underlying9 (tm Z) (tm Z) c76) (ap (.int .u8 c_) Z Z Z (pu_move Z (tm Z)) (ap (.bool (decide ((bix [110, 114, 116, 98, 97] s72.i) = c_))) Z Z Z (pu_int (v := .bool (decide ((bix [110, 114, 116, 98, 97] s72.i) = c_))) Z Z (tm Z) (tm Z) Z) (aops_nil (aw_cond (b := decide ((bix [110, 114, 116, 98, 97] s72.i) = c_)) (tm Z) (fun hb78 => ?_) (fun hb78 => ?_)))))
   ·replace h := ite_t (dec_t hb78) h
    refine aw_seq (aw_region (ap (.str [10, 13, 9, 8, 7]) Z Z Z (pu_move Z (tm Z)) (ap (.int .i64 s72.i) Z Z Z (pu_move Z (tm Z)) ?_)))
    obtain ⟨c77, h⟩ := need_of h
    refine ap (.int .u8 (bix [10, 13, 9, 8, 7] s72.i)) Z Z Z (pu_strIdxM Z underlying9 (tm Z) (tm Z) c77) (ap (.int .u8 (bix [10, 13, 9, 8, 7] s72.i)) Z Z Z (pu_assign Z (tm Z)) (aops_nil (aw_ret ?_)))
    obtain rfl := some_of h
    have h := congrArg some (hx73 _ rfl)
    obtain rfl := some_of h
    have h := onSum_inr h60
    obtain rfl := some_of h
    exact ⟨[.int .u8 (bix [10, 13, 9, 8, 7] s72.i)], _, [], ⟨(tm Z), trivial⟩, (AV.Le.refl _), Weak.mkL [] (by decide) trivial trivial, ⟨Z, Z⟩⟩
   ·replace h := ite_f (dec_f hb78) h
    refine aw_skip (aw_region (ap (.int .i64 s72.i) Z Z Z (pu_move Z (tm Z)) (ap (.int .i64 (IntKind.wrap .i64 (s72.i + 1))) Z Z Z (pu_int (v := .int .i64 (IntKind.wrap .i64 (s72.i + 1))) Z Z (tm Z) (AEv.int _ _) Z) (ap (.int .i64 (IntKind.wrap .i64 (s72.i + 1))) Z Z Z (pu_assign Z (tm Z)) (aops_nil ?_)))))
    obtain rfl := some_of h
    exact ⟨_, (), Z, Weak.mkL [] (by decide) trivial ⟨AEv.tmp Z, AEv.tmp Z, AEv.tmp Z, (AEv.le (tm Z) (AV.Le.refl _)), trivial⟩⟩
  ·replace h := ite_f (dec_f hb79) h
   refine aw_exit ?_
   obtain rfl := some_of h
   have h := congrArg some (hx73 _ rfl)
   exact ⟨(), (), (some_of h).symm, Weak.mkL [] (by decide) trivial ⟨AEv.tmp Z, trivial⟩⟩

theorem mewsref04.Split.ok {s_ : List UInt8} {r : (List (List UInt8)) × Bool} (h : mewsref04.Split s_ = some r) : Go.Lift.Spec prog 80 [.str s_] [] (fun v H => ∃ n0, v = .tup [.sl (.own n0) 1 (r.1.map AV.str), .bool r.2] ∧ H = [(n0, .spare)]) := by
 unfold mewsref04.Split at h
 refine Go.Lift.Spec.of_body (rs := [.tmp 2, .tmp 3]) func80 Z Z (Nat.le_of_ble_eq_true Z) Z (aw_seq (aw_region (ap (.sl .full 1 (([] : List (List UInt8)).map AV.str)) Z Z Z (pu_assign Z (AEv.nil 1 (by decide))) (ap (.bool false) Z Z Z (pu_assign Z (AEv.bool _)) (aops_nil (aw_seq (aw_region (ap (.sl .full 1 (([] : List (List UInt8)).map AV.str)) Z Z Z (pu_assign Z (AEv.nil 1 (by decide))) (aops_nil ?_)))))))))
 refine aw_seq (aw_region (ap (.int .u8 0) Z Z Z (pu_assign Z (AEv.int _ _)) (aops_nil (aw_seq (aw_region (ap (.bool false) Z Z Z (pu_assign Z (AEv.bool _)) (ap (.bool false) Z Z Z (pu_assign Z (AEv.bool _)) (aops_nil (aw_seq ?_)))))))))
 refine aw_region (ap (.str ([] : List UInt8)) Z Z Z (pu_assign Z (AEv.const Z)) (aops_nil ?_))
 obtain ⟨s3254, s3254e, h2434⟩ := bind_some h
 refine aw_join (σ := (List (List UInt8)) × Int × Bool × (List UInt8)) (ν := Nat) (fun u v => [(4, .sl (.own v) 1 (u.1.map AV.str)), (5, .int .u8 u.2.1), (6, .bool u.2.2.1), (8, .str u.2.2.2)]) (fun u v => [(v, .spare)]) (fun u => s3254 = .inl u) ?_ ?_
 ·intro s2432
  intro n2433
  rintro rfl
  have h := onSum_inl h2434
  refine aw_seq (aw_seq (aw_region (ap (.int .u8 s2432.2.1) Z Z Z (pu_move Z (tm Z)) (ap (.bool (!decide (s2432.2.1 = 0))) Z Z Z (pu_int (v := .bool (!decide (s2432.2.1 = 0))) Z Z (tm Z) (AEv.int _ _) Z) (aops_nil (aw_cond (b := (!decide (s2432.2.1 = 0))) (tm Z) (fun hb3253 => ?_) (fun hb3253 => ?_)))))))
  ·replace h := ite_f (ndec_t hb3253) h
   refine aw_seq (aw_region (ap (.sl .full 1 (([] : List (List UInt8)).map AV.str)) Z Z Z (pu_assign Z (AEv.nil 1 (by decide))) (ap (.bool false) Z Z Z (pu_assign Z (AEv.bool _)) (aops_nil (aw_claim 2 (tm Z) fun t3242 => (aw_ret ?_))))))
   obtain rfl := some_of h
   exact ⟨[.sl (.own t3242) 1 (([] : List (List UInt8)).map AV.str), .bool false], _, [(t3242, .spare)], ⟨(tm Z), (tm Z), trivial⟩, (AV.Le.refl _), Weak.mkL [0] (by decide) ⟨⟨_, Z, Z⟩, trivial⟩ trivial, ⟨t3242, Z, Z⟩⟩
  ·replace h := ite_t (ndec_f hb3253) h
   refine aw_skip ?_
   obtain ⟨s3246, s3246e, h3248⟩ := bind_some h
   refine aw_meet (ν := Nat) (fun v => [(4, .sl (.own v) 1 (s3246.map AV.str))]) (fun v => [(v, .spare)]) ?_ ?_
   ·have h := s3246e
    refine aw_seq (aw_region (ap (.bool s2432.2.2.1) Z Z Z (pu_move Z (tm Z)) (aops_nil (aw_cond (b := s2432.2.2.1) (tm Z) (fun hb3252 => ?_) (fun hb3252 => ?_)))))
    ·replace h := ite_t hb3252 h
     refine aw_region (ap (.sl (.own n2433) 1 (s2432.1.map AV.str)) Z Z Z (pu_move Z (tm Z)) (ap (.str s2432.2.2.2) Z Z Z (pu_move Z (tm Z)) (ac Z Z Z (op_buildSlice (xs := ([s2432.2.2.2] : List (List UInt8)).map AV.str) (aparts := [(0, .str s2432.2.2.2)]) Z underlying26 sizeOf9 zeroValue9 (by decide) (by decide) ⟨Z, (tm Z), trivial⟩ Z Z Z ?_))))
     obtain ⟨c3250, h⟩ := need_of h
     refine ac Z Z Z (op_appendOM (q := 0) Z underlying26 underlying26 (.inl Z) typeInfo9 Z Z Z (by decide) (tm Z) Z (given_sl (tm Z)) c3250 ?_)
     intro t3251
     refine ap (.sl (.own t3251) 1 ((s2432.1 ++ [s2432.2.2.2]).map AV.str)) Z Z Z (pu_assign Z (tm Z)) (aops_nil ?_)
     obtain rfl := some_of h
     exact ⟨t3251, Weak.mkL [0] (by decide) ⟨⟨_, Z, Z⟩, trivial⟩ ⟨(AEv.le (tm Z) (AV.Le.refl _)), trivial⟩⟩
    ·replace h := ite_fb hb3252 h
     refine aw_skip ?_
     obtain rfl := some_of h
     exact ⟨n2433, Weak.mkL [0] (by decide) ⟨⟨_, Z, Z⟩, trivial⟩ ⟨AEv.tmp Z, trivial⟩⟩
   ·intro n3247
    have h := h3248
    refine aw_seq (aw_region (ap (.sl (.own n3247) 1 (s3246.map AV.str)) Z Z Z (pu_move Z (tm Z)) (ap (.sl (.own n3247) 1 (s3246.map AV.str)) Z Z Z (pu_assign Z (tm Z)) (ap (.bool true) Z Z Z (pu_assign Z (AEv.bool _)) (aops_nil (aw_ret ?_))))))
    obtain rfl := some_of h
    exact ⟨[.sl (.own n3247) 1 (s3246.map AV.str), .bool true], _, [(n3247, .spare)], ⟨(tm Z), (tm Z), trivial⟩, (AV.Le.refl _), Weak.mkL [0] (by decide) ⟨⟨_, Z, Z⟩, trivial⟩ trivial, ⟨n3247, Z, Z⟩⟩
 ·have h := s3254e
  refine aw_seq (aw_region (ap (.int .i64 0) Z Z Z (pu_assign Z (AEv.int _ _)) (aops_nil (aw_block (aw_claim 4 (tm Z) fun t3241 => (aw_while (σ := mewsref04.Split.S0) (ν := Nat) (mewsref04.Split.body0 s_) (fun s3033 v => [(0, .str s_), (4, .sl (.own v) 1 (s3033.out.map AV.str)), (5, .int .u8 s3033.in_), (6, .bool s3033.open_), (7, .bool s3033.closed), (8, .str s3033.now), (9, .int .i64 s3033.i)]) (fun s3033 v => [(v, .spare)]) ⟨([] : List (List UInt8)), 0, false, false, ([] : List UInt8), 0⟩ t3241 _ h (Weak.mkL [0] (by decide) ⟨⟨_, Z, Z⟩, trivial⟩ ⟨AEv.tmp Z, AEv.tmp Z, AEv.tmp Z, AEv.tmp Z, AEv.tmp Z, AEv.tmp Z, AEv.tmp Z, trivial⟩) ?_))))))
  rintro s3033 n3034 x3036 h hx3035
  unfold mewsref04.Split.body0 at h
  refine aw_seq (aw_seq (aw_region (ap (.int .i64 s3033.i) Z Z Z (pu_move Z (tm Z)) (ap (.str s_) Z Z Z (pu_move Z (tm Z)) (ap (.int .i64 (s_.length : Int)) Z Z Z (pu_strLen Z underlying9 (tm Z)) (ap (.bool (decide (s3033.i < (s_.length : Int)))) Z Z Z (pu_int (v := .bool (decide (s3033.i < (s_.length : Int)))) Z Z (tm Z) (tm Z) Z) (aops_nil (aw_cond (b := decide (s3033.i < (s_.length : Int))) (tm Z) (fun hb3240 => ?_) (fun hb3240 => ?_)))))))))
  ·replace h := ite_t (dec_t hb3240) h
   refine aw_skip ?_
   obtain ⟨s3239, s3239e, h3138⟩ := bind_some h
   refine aw_join (σ := (List (List UInt8)) × Int × Bool × Bool × (List UInt8) × Int) (ν := Nat) (fun u v => [(0, .str s_), (4, .sl (.own v) 1 (u.1.map AV.str)), (5, .int .u8 u.2.1), (6, .bool u.2.2.1), (7, .bool u.2.2.2.1), (8, .str u.2.2.2.2.1), (9, .int .i64 u.2.2.2.2.2)]) (fun u v => [(v, .spare)]) (fun u => s3239 = .inl u) ?_ ?_
   ·intro s3136
    intro n3137
    rintro rfl
    have h := onSum_inl h3138
    refine aw_region (ap (.int .i64 s3136.2.2.2.2.2) Z Z Z (pu_move Z (tm Z)) (ap (.int .i64 (IntKind.wrap .i64 (s3136.2.2.2.2.2 + 1))) Z Z Z (pu_int (v := .int .i64 (IntKind.wrap .i64 (s3136.2.2.2.2.2 + 1))) Z Z (tm Z) (AEv.int _ _) Z) (ap (.int .i64 (IntKind.wrap .i64 (s3136.2.2.2.2.2 + 1))) Z Z Z (pu_assign Z (tm Z)) (aops_nil ?_))))
    obtain rfl := some_of h
    exact ⟨_, n3137, Z, Weak.mkL [0] (by decide) ⟨⟨_, Z, Z⟩, trivial⟩ ⟨AEv.tmp Z, AEv.tmp Z, AEv.tmp Z, AEv.tmp Z, AEv.tmp Z, AEv.tmp Z, (AEv.le (tm Z) (AV.Le.refl _)), trivial⟩⟩
   ·have h := s3239e
    refine aw_block (aw_seq (aw_region (ap (.str s_) Z Z Z (pu_move Z (tm Z)) (ap (.int .i64 s3033.i) Z Z Z (pu_move Z (tm Z)) ?_))))
    obtain ⟨c3140, h⟩ := need_of h
    refine ap (.int .u8 (bix s_ s3033.i)) Z Z Z (pu_strIdxM Z underlying9 (tm Z) (tm Z) c3140) (ap (.int .u8 (bix s_ s3033.i)) Z Z Z (pu_assign Z (tm Z)) (aops_nil ?_))
    obtain ⟨s3142, s3142e, h3143⟩ := letO_of h
    refine aw_meet (ν := Unit) (fun v => [(0, .str s_), (4, .sl (.own n3034) 1 (s3033.out.map AV.str)), (5, .int .u8 s3033.in_), (6, .bool s3033.open_), (7, .bool s3033.closed), (8, .str s3033.now), (9, .int .i64 s3033.i), (10, .int .u8 (bix s_ s3033.i)), (11, .bool s3142)]) (fun v => [(n3034, .spare)]) ?_ ?_
    ·have h := s3142e.symm
     refine aw_region (ap (.int .u8 (bix s_ s3033.i)) Z Z Z (pu_move Z (tm Z)) (ap (.bool (decide ((bix s_ s3033.i) = 32))) Z Z Z (pu_int (v := .bool (decide ((bix s_ s3033.i) = 32))) Z Z (tm Z) (AEv.int _ _) Z) (ap (.bool (decide ((bix s_ s3033.i) = 32))) Z Z Z (pu_move Z (tm Z)) ?_)))
     rcases Bool.eq_false_or_eq_true (decide ((bix s_ s3033.i) = 32)) with hb3145 | hb3145
     ·replace h := ite_t (dec_t hb3145) h
      refine aops_known 23 Z hb3145 (an Z Z Z Z Z Z Z Z (an Z Z Z Z Z Z Z Z (ap (.bool true) Z Z Z (pu_pick (b := true) Z (tm Z) (fun _ => (AEv.bool _)) (fun h => nomatch h)) (ap (.bool true) Z Z Z (pu_assign Z (tm Z)) (aops_nil ?_)))))
      subst h
      exact ⟨(), Weak.mkL [0] (by decide) ⟨⟨_, Z, Z⟩, trivial⟩ ⟨AEv.tmp Z, AEv.tmp Z, AEv.tmp Z, AEv.tmp Z, AEv.tmp Z, AEv.tmp Z, AEv.tmp Z, AEv.tmp Z, AEv.tmp Z, trivial⟩⟩
     ·replace h := ite_f (dec_f hb3145) h
      refine aops_known 23 Z hb3145 (agp (.int .u8 (bix s_ s3033.i)) Z Z Z Z Z Z Z (pu_move Z (tm Z)) (agp (.bool (decide ((bix s_ s3033.i) = 9))) Z Z Z Z Z Z Z (pu_int (v := .bool (decide ((bix s_ s3033.i) = 9))) Z Z (tm Z) (AEv.int _ _) Z) (ap (.bool (decide ((bix s_ s3033.i) = 9))) Z Z Z (pu_pick (b := false) Z (tm Z) (fun h => nomatch h) (fun _ => (tm Z))) (ap (.bool (decide ((bix s_ s3033.i) = 9))) Z Z Z (pu_assign Z (tm Z)) (aops_nil ?_)))))
      subst h
      exact ⟨(), Weak.mkL [0] (by decide) ⟨⟨_, Z, Z⟩, trivial⟩ ⟨AEv.tmp Z, AEv.tmp Z, AEv.tmp Z, AEv.tmp Z, AEv.tmp Z, AEv.tmp Z, AEv.tmp Z, AEv.tmp Z, (AEv.le (tm Z) (AV.Le.refl _)), trivial⟩⟩
    ·intro _
     have h := h3143
     refine aw_seq ?_
     obtain ⟨s3147, s3147e, h3148⟩ := letO_of h
     refine aw_meet (ν := Unit) (fun v => [(0, .str s_), (4, .sl (.own n3034) 1 (s3033.out.map AV.str)), (5, .int .u8 s3033.in_), (6, .bool s3033.open_), (8, .str s3033.now), (9, .int .i64 s3033.i), (10, .int .u8 (bix s_ s3033.i)), (11, .bool s3142), (31, .bool s3147)]) (fun v => [(n3034, .spare)]) ?_ ?_
     ·have h := s3147e.symm
      refine aw_region (ap (.bool s3033.closed) Z Z Z (pu_move Z (tm Z)) (ap (.bool s3033.closed) Z Z Z (pu_move Z (tm Z)) ?_))
      rcases Bool.eq_false_or_eq_true s3033.closed with hb3150 | hb3150
      ·replace h := ite_t hb3150 h
       refine aops_known 28 Z hb3150 (agp (.bool s3142) Z Z Z Z Z Z Z (pu_move Z (tm Z)) (agp (.bool (!s3142)) Z Z Z Z Z Z Z (pu_not Z (tm Z)) (ap (.bool (!s3142)) Z Z Z (pu_pick (b := true) Z (tm Z) (fun _ => (tm Z)) (fun h => nomatch h)) (aops_nil ?_))))
       subst h
       exact ⟨(), Weak.mkL [0] (by decide) ⟨⟨_, Z, Z⟩, trivial⟩ ⟨AEv.tmp Z, AEv.tmp Z, AEv.tmp Z, AEv.tmp Z, AEv.tmp Z, AEv.tmp Z, AEv.tmp Z, AEv.tmp Z, AEv.tmp Z, trivial⟩⟩
      ·replace h := ite_fb hb3150 h
       refine aops_known 28 Z hb3150 (an Z Z Z Z Z Z Z Z (an Z Z Z Z Z Z Z Z (ap (.bool false) Z Z Z (pu_pick (b := false) Z (tm Z) (fun h => nomatch h) (fun _ => (AEv.bool _))) (aops_nil ?_))))
       subst h
       exact ⟨(), Weak.mkL [0] (by decide) ⟨⟨_, Z, Z⟩, trivial⟩ ⟨AEv.tmp Z, AEv.tmp Z, AEv.tmp Z, AEv.tmp Z, AEv.tmp Z, AEv.tmp Z, AEv.tmp Z, AEv.tmp Z, AEv.tmp Z, trivial⟩⟩
     ·intro _
      have h := h3148
      refine aw_cond (b := s3147) (tm Z) (fun hb3238 => ?_) (fun hb3238 => ?_)
      ·replace h := ite_t hb3238 h
       refine aw_seq (aw_region (ap (.sl .full 1 (([] : List (List UInt8)).map AV.str)) Z Z Z (pu_assign Z (AEv.nil 1 (by decide))) (ap (.bool false) Z Z Z (pu_assign Z (AEv.bool _)) (aops_nil (aw_claim 2 (tm Z) fun t3151 => (aw_ret ?_))))))
       obtain rfl := some_of h
       have h := onSum_inr h3138
       obtain rfl := some_of h
       have h := congrArg some (hx3035 _ rfl)
       obtain rfl := some_of h
       have h := onSum_inr h2434
       obtain rfl := some_of h
       exact ⟨[.sl (.own t3151) 1 (([] : List (List UInt8)).map AV.str), .bool false], _, [(t3151, .spare)], ⟨(tm Z), (tm Z), trivial⟩, (AV.Le.refl _), Weak.mkL [0] (by decide) ⟨⟨_, Z, Z⟩, trivial⟩ trivial, ⟨t3151, Z, Z⟩⟩
      ·replace h := ite_fb hb3238 h
       refine aw_skip (aw_seq (aw_region (ap (.bool false) Z Z Z (pu_assign Z (AEv.bool _)) (aops_nil (aw_block ?_)))))
       obtain ⟨s3153, s3153e, h3154⟩ := letO_of h
       refine aw_meet (ν := Unit) (fun v => [(0, .str s_), (4, .sl (.own n3034) 1 (s3033.out.map AV.str)), (5, .int .u8 s3033.in_), (6, .bool s3033.open_), (7, .bool false), (8, .str s3033.now), (9, .int .i64 s3033.i), (10, .int .u8 (bix s_ s3033.i)), (39, .bool s3153)]) (fun v => [(n3034, .spare)]) ?_ ?_
       ·have h := s3153e.symm
        refine aw_region (ap (.int .u8 s3033.in_) Z Z Z (pu_move Z (tm Z)) (ap (.bool (decide (s3033.in_ = 0))) Z Z Z (pu_int (v := .bool (decide (s3033.in_ = 0))) Z Z (tm Z) (AEv.int _ _) Z) (ap (.bool (decide (s3033.in_ = 0))) Z Z Z (pu_move Z (tm Z)) ?_)))
        rcases Bool.eq_false_or_eq_true (decide (s3033.in_ = 0)) with hb3156 | hb3156
        ·replace h := ite_t (dec_t hb3156) h
         refine aops_known 42 Z hb3156 (agp (.bool s3142) Z Z Z Z Z Z Z (pu_move Z (tm Z)) (ap (.bool s3142) Z Z Z (pu_pick (b := true) Z (tm Z) (fun _ => (tm Z)) (fun h => nomatch h)) (ap (.bool s3142) Z Z Z (pu_assign Z (tm Z)) (aops_nil ?_))))
         subst h
         exact ⟨(), Weak.mkL [0] (by decide) ⟨⟨_, Z, Z⟩, trivial⟩ ⟨AEv.tmp Z, AEv.tmp Z, AEv.tmp Z, AEv.tmp Z, AEv.tmp Z, AEv.tmp Z, AEv.tmp Z, AEv.tmp Z, AEv.tmp Z, trivial⟩⟩
        ·replace h := ite_f (dec_f hb3156) h
         refine aops_known 42 Z hb3156 (an Z Z Z Z Z Z Z Z (ap (.bool false) Z Z Z (pu_pick (b := false) Z (tm Z) (fun h => nomatch h) (fun _ => (AEv.bool _))) (ap (.bool false) Z Z Z (pu_assign Z (tm Z)) (aops_nil ?_))))
         subst h
         exact ⟨(), Weak.mkL [0] (by decide) ⟨⟨_, Z, Z⟩, trivial⟩ ⟨AEv.tmp Z, AEv.tmp Z, AEv.tmp Z, AEv.tmp Z, AEv.tmp Z, AEv.tmp Z, AEv.tmp Z, AEv.tmp Z, AEv.tmp Z, trivial⟩⟩
       ·intro _
        have h := h3154
        refine aw_cond (b := s3153) (tm Z) (fun hb3237 => ?_) (fun hb3237 => ?_)
        ·replace h := ite_t hb3237 h
         obtain ⟨s3160, s3160e, h3162⟩ := bind_some h
         refine aw_meet (ν := Nat) (fun v => [(0, .str s_), (4, .sl (.own v) 1 (s3160.map AV.str)), (5, .int .u8 s3033.in_), (7, .bool false), (9, .int .i64 s3033.i)]) (fun v => [(v, .spare)]) ?_ ?_
         ·have h := s3160e
          refine aw_seq (aw_region (ap (.bool s3033.open_) Z Z Z (pu_move Z (tm Z)) (aops_nil (aw_cond (b := s3033.open_) (tm Z) (fun hb3166 => ?_) (fun hb3166 => ?_)))))
          ·replace h := ite_t hb3166 h
           refine aw_region (ap (.sl (.own n3034) 1 (s3033.out.map AV.str)) Z Z Z (pu_move Z (tm Z)) (ap (.str s3033.now) Z Z Z (pu_move Z (tm Z)) (ac Z Z Z (op_buildSlice (xs := ([s3033.now] : List (List UInt8)).map AV.str) (aparts := [(0, .str s3033.now)]) Z underlying26 sizeOf9 zeroValue9 (by decide) (by decide) ⟨Z, (tm Z), trivial⟩ Z Z Z ?_))))
           obtain ⟨c3164, h⟩ := need_of h
           refine ac Z Z Z (op_appendOM (q := 0) Z underlying26 underlying26 (.inl Z) typeInfo9 Z Z Z (by decide) (tm Z) Z (given_sl (tm Z)) c3164 ?_)
           intro t3165
           refine ap (.sl (.own t3165) 1 ((s3033.out ++ [s3033.now]).map AV.str)) Z Z Z (pu_assign Z (tm Z)) (aops_nil ?_)
           obtain rfl := some_of h
           exact ⟨t3165, Weak.mkL [0] (by decide) ⟨⟨_, Z, Z⟩, trivial⟩ ⟨AEv.tmp Z, (AEv.le (tm Z) (AV.Le.refl _)), AEv.tmp Z, AEv.tmp Z, AEv.tmp Z, trivial⟩⟩
          ·replace h := ite_fb hb3166 h
           refine aw_skip ?_
           obtain rfl := some_of h
           exact ⟨n3034, Weak.mkL [0] (by decide) ⟨⟨_, Z, Z⟩, trivial⟩ ⟨AEv.tmp Z, AEv.tmp Z, AEv.tmp Z, AEv.tmp Z, AEv.tmp Z, trivial⟩⟩
         ·intro n3161
          have h := h3162
          refine aw_region (ap (.bool false) Z Z Z (pu_assign Z (AEv.bool _)) (ap (.str ([] : List UInt8)) Z Z Z (pu_assign Z (AEv.const Z)) (aops_nil ?_)))
          exact ⟨(s3160, s3033.in_, false, false, ([] : List UInt8), s3033.i), n3161, (some_of h).symm, Weak.mkL [0] (by decide) ⟨⟨_, Z, Z⟩, trivial⟩ ⟨AEv.tmp Z, AEv.tmp Z, AEv.tmp Z, AEv.tmp Z, AEv.tmp Z, AEv.tmp Z, AEv.tmp Z, trivial⟩⟩
        ·replace h := ite_fb hb3237 h
         obtain ⟨s3169, s3169e, h3170⟩ := letO_of h
         refine aw_meet (ν := Unit) (fun v => [(0, .str s_), (4, .sl (.own n3034) 1 (s3033.out.map AV.str)), (5, .int .u8 s3033.in_), (6, .bool s3033.open_), (7, .bool false), (8, .str s3033.now), (9, .int .i64 s3033.i), (10, .int .u8 (bix s_ s3033.i)), (50, .bool s3169)]) (fun v => [(n3034, .spare)]) ?_ ?_
         ·have h := s3169e.symm
          refine aw_region (ap (.int .u8 s3033.in_) Z Z Z (pu_move Z (tm Z)) (ap (.bool (decide (s3033.in_ = 0))) Z Z Z (pu_int (v := .bool (decide (s3033.in_ = 0))) Z Z (tm Z) (AEv.int _ _) Z) (ap (.bool (decide (s3033.in_ = 0))) Z Z Z (pu_move Z (tm Z)) ?_)))
          rcases Bool.eq_false_or_eq_true (decide (s3033.in_ = 0)) with hb3172 | hb3172
          ·replace h := ite_t (dec_t hb3172) h
           refine aops_known 53 Z hb3172 (agp (.int .u8 (bix s_ s3033.i)) Z Z Z Z Z Z Z (pu_move Z (tm Z)) (agp (.bool (decide ((bix s_ s3033.i) = 34))) Z Z Z Z Z Z Z (pu_int (v := .bool (decide ((bix s_ s3033.i) = 34))) Z Z (tm Z) (AEv.int _ _) Z) (agp (.bool (decide ((bix s_ s3033.i) = 34))) Z Z Z Z Z Z Z (pu_move Z (tm Z)) ?_)))
           rcases Bool.eq_false_or_eq_true (decide ((bix s_ s3033.i) = 34)) with hb3173 | hb3173
           ·replace h := ite_t (dec_t hb3173) h
            refine aops_known 56 Z hb3173 (an Z Z Z Z Z Z Z Z (an Z Z Z Z Z Z Z Z (agp (.bool true) Z Z Z Z Z Z Z (pu_pick (b := true) Z (tm Z) (fun _ => (AEv.bool _)) (fun h => nomatch h)) (ap (.bool true) Z Z Z (pu_pick (b := true) Z (tm Z) (fun _ => (tm Z)) (fun h => nomatch h)) (ap (.bool true) Z Z Z (pu_assign Z (tm Z)) (aops_nil ?_))))))
            subst h
            exact ⟨(), Weak.mkL [0] (by decide) ⟨⟨_, Z, Z⟩, trivial⟩ ⟨AEv.tmp Z, AEv.tmp Z, AEv.tmp Z, AEv.tmp Z, AEv.tmp Z, AEv.tmp Z, AEv.tmp Z, AEv.tmp Z, AEv.tmp Z, trivial⟩⟩
           ·replace h := ite_f (dec_f hb3173) h
            refine aops_known 56 Z hb3173 (agp (.int .u8 (bix s_ s3033.i)) Z Z Z Z Z Z Z (pu_move Z (tm Z)) (agp (.bool (decide ((bix s_ s3033.i) = 39))) Z Z Z Z Z Z Z (pu_int (v := .bool (decide ((bix s_ s3033.i) = 39))) Z Z (tm Z) (AEv.int _ _) Z) (agp (.bool (decide ((bix s_ s3033.i) = 39))) Z Z Z Z Z Z Z (pu_pick (b := false) Z (tm Z) (fun h => nomatch h) (fun _ => (tm Z))) (ap (.bool (decide ((bix s_ s3033.i) = 39))) Z Z Z (pu_pick (b := true) Z (tm Z) (fun _ => (tm Z)) (fun h => nomatch h)) (ap (.bool (decide ((bix s_ s3033.i) = 39))) Z Z Z (pu_assign Z (tm Z)) (aops_nil ?_))))))
            subst h
            exact ⟨(), Weak.mkL [0] (by decide) ⟨⟨_, Z, Z⟩, trivial⟩ ⟨AEv.tmp Z, AEv.tmp Z, AEv.tmp Z, AEv.tmp Z, AEv.tmp Z, AEv.tmp Z, AEv.tmp Z, AEv.tmp Z, (AEv.le (tm Z) (AV.Le.refl _)), trivial⟩⟩
          ·replace h := ite_f (dec_f hb3172) h
           refine aops_known 53 Z hb3172 (an Z Z Z Z Z Z Z Z (an Z Z Z Z Z Z Z Z (an Z Z Z Z Z Z Z Z (an2 Z Z Z Z Z Z Z (an2 Z Z Z Z Z Z Z (an Z Z Z Z Z Z Z Z (ap (.bool false) Z Z Z (pu_pick (b := false) Z (tm Z) (fun h => nomatch h) (fun _ => (AEv.bool _))) (ap (.bool false) Z Z Z (pu_assign Z (tm Z)) (aops_nil ?_)))))))))
           subst h
           exact ⟨(), Weak.mkL [0] (by decide) ⟨⟨_, Z, Z⟩, trivial⟩ ⟨AEv.tmp Z, AEv.tmp Z, AEv.tmp Z, AEv.tmp Z, AEv.tmp Z, AEv.tmp Z, AEv.tmp Z, AEv.tmp Z, AEv.tmp Z, trivial⟩⟩
         ·intro _
          have h := h3170
          refine aw_cond (b := s3169) (tm Z) (fun hb3236 => ?_) (fun hb3236 => ?_)
          ·replace h := ite_t hb3236 h
           refine aw_region (ap (.int .u8 (bix s_ s3033.i)) Z Z Z (pu_move Z (tm Z)) (ap (.int .u8 (bix s_ s3033.i)) Z Z Z (pu_assign Z (tm Z)) (ap (.bool true) Z Z Z (pu_assign Z (AEv.bool _)) (aops_nil ?_))))
           exact ⟨(s3033.out, bix s_ s3033.i, true, false, s3033.now, s3033.i), n3034, (some_of h).symm, Weak.mkL [0] (by decide) ⟨⟨_, Z, Z⟩, trivial⟩ ⟨AEv.tmp Z, AEv.tmp Z, (AEv.le (tm Z) (AV.Le.refl _)), AEv.tmp Z, AEv.tmp Z, AEv.tmp Z, AEv.tmp Z, trivial⟩⟩
          ·replace h := ite_fb hb3236 h
           refine aw_seq (aw_region (ap (.int .u8 s3033.in_) Z Z Z (pu_move Z (tm Z)) (ap (.bool (decide (s3033.in_ = 0))) Z Z Z (pu_int (v := .bool (decide (s3033.in_ = 0))) Z Z (tm Z) (AEv.int _ _) Z) (ap (.bool (decide (s3033.in_ = 0))) Z Z Z (pu_assign Z (tm Z)) (aops_nil (aw_cond (b := decide (s3033.in_ = 0)) (tm Z) (fun hb3235 => ?_) (fun hb3235 => ?_)))))))
           ·replace h := ite_t (dec_t hb3235) h
            refine aw_seq (aw_region (ap (.str s3033.now) Z Z Z (pu_move Z (tm Z)) (ap (.str s_) Z Z Z (pu_move Z (tm Z)) (ap (.int .i64 s3033.i) Z Z Z (pu_move Z (tm Z)) (ap (.int .i64 s3033.i) Z Z Z (pu_move Z (tm Z)) (ap (.int .i64 (IntKind.wrap .i64 (s3033.i + 1))) Z Z Z (pu_int (v := .int .i64 (IntKind.wrap .i64 (s3033.i + 1))) Z Z (tm Z) (AEv.int _ _) Z) ?_))))))
            obtain ⟨c3174, h⟩ := need_of h
            refine ap (.str (sub s_ s3033.i (IntKind.wrap .i64 (s3033.i + 1)))) Z Z Z (pu_strSliceM Z underlying9 (tm Z) ⟨_, (tm Z)⟩ ⟨_, (tm Z)⟩ c3174) ?_
            obtain ⟨c3175, h⟩ := need_of h
            refine ap (.str (s3033.now ++ (sub s_ s3033.i (IntKind.wrap .i64 (s3033.i + 1))))) Z Z Z (pu_strAdd Z (tm Z) (tm Z) c3175) (ap (.str (s3033.now ++ (sub s_ s3033.i (IntKind.wrap .i64 (s3033.i + 1))))) Z Z Z (pu_assign Z (tm Z)) (aops_nil (aw_region (ap (.bool true) Z Z Z (pu_assign Z (AEv.bool _)) (aops_nil ?_)))))
            exact ⟨(s3033.out, s3033.in_, true, false, s3033.now ++ (sub s_ s3033.i (IntKind.wrap .i64 (s3033.i + 1))), s3033.i), n3034, (some_of h).symm, Weak.mkL [0] (by decide) ⟨⟨_, Z, Z⟩, trivial⟩ ⟨AEv.tmp Z, AEv.tmp Z, AEv.tmp Z, AEv.tmp Z, AEv.tmp Z, (AEv.le (tm Z) (AV.Le.refl _)), AEv.tmp Z, trivial⟩⟩
           ·replace h := ite_f (dec_f hb3235) h
            refine aw_seq (aw_region (ap (.int .u8 (bix s_ s3033.i)) Z Z Z (pu_move Z (tm Z)) (ap (.int .u8 s3033.in_) Z Z Z (pu_move Z (tm Z)) (ap (.bool (decide ((bix s_ s3033.i) = s3033.in_))) Z Z Z (pu_int (v := .bool (decide ((bix s_ s3033.i) = s3033.in_))) Z Z (tm Z) (tm Z) Z) (ap (.bool (decide ((bix s_ s3033.i) = s3033.in_))) Z Z Z (pu_assign Z (tm Z)) (aops_nil (aw_cond (b := decide ((bix s_ s3033.i) = s3033.in_)) (tm Z) (fun hb3234 => ?_) (fun hb3234 => ?_))))))))
            ·replace h := ite_t (dec_t hb3234) h
             refine aw_region (ap (.int .u8 0) Z Z Z (pu_assign Z (AEv.int _ _)) (ap (.bool true) Z Z Z (pu_assign Z (AEv.bool _)) (aops_nil ?_)))
             exact ⟨(s3033.out, 0, s3033.open_, true, s3033.now, s3033.i), n3034, (some_of h).symm, Weak.mkL [0] (by decide) ⟨⟨_, Z, Z⟩, trivial⟩ ⟨AEv.tmp Z, AEv.tmp Z, AEv.tmp Z, AEv.tmp Z, AEv.tmp Z, AEv.tmp Z, AEv.tmp Z, trivial⟩⟩
            ·replace h := ite_f (dec_f hb3234) h
             obtain ⟨s3186, s3186e, h3187⟩ := bind_some h
             refine aw_meet (ν := Unit) (fun v => [(0, .str s_), (4, .sl (.own n3034) 1 (s3033.out.map AV.str)), (5, .int .u8 s3033.in_), (6, .bool s3033.open_), (7, .bool false), (8, .str s3033.now), (9, .int .i64 s3033.i), (10, .int .u8 (bix s_ s3033.i)), (76, .bool s3186)]) (fun v => [(n3034, .spare)]) ?_ ?_
             ·have h := s3186e
              refine aw_region (ap (.int .u8 (bix s_ s3033.i)) Z Z Z (pu_move Z (tm Z)) (ap (.bool (decide ((bix s_ s3033.i) = 92))) Z Z Z (pu_int (v := .bool (decide ((bix s_ s3033.i) = 92))) Z Z (tm Z) (AEv.int _ _) Z) (ap (.bool (decide ((bix s_ s3033.i) = 92))) Z Z Z (pu_move Z (tm Z)) ?_)))
              rcases Bool.eq_false_or_eq_true (decide ((bix s_ s3033.i) = 92)) with hb3189 | hb3189
              ·replace h := ite_t (dec_t hb3189) h
               refine aops_known 79 Z hb3189 (agp (.int .u8 s3033.in_) Z Z Z Z Z Z Z (pu_move Z (tm Z)) (agp (.bool (decide (s3033.in_ = 34))) Z Z Z Z Z Z Z (pu_int (v := .bool (decide (s3033.in_ = 34))) Z Z (tm Z) (AEv.int _ _) Z) (ap (.bool (decide (s3033.in_ = 34))) Z Z Z (pu_pick (b := true) Z (tm Z) (fun _ => (tm Z)) (fun h => nomatch h)) (ap (.bool (decide (s3033.in_ = 34))) Z Z Z (pu_move Z (tm Z)) ?_))))
               rcases Bool.eq_false_or_eq_true (decide (s3033.in_ = 34)) with hb3190 | hb3190
               ·replace h := ite_t (dec_t hb3190) h
                refine aops_known 83 Z hb3190 (agp (.int .i64 s3033.i) Z Z Z Z Z Z Z (pu_move Z (tm Z)) (agp (.int .i64 (IntKind.wrap .i64 (s3033.i + 3))) Z Z Z Z Z Z Z (pu_int (v := .int .i64 (IntKind.wrap .i64 (s3033.i + 3))) Z Z (tm Z) (AEv.int _ _) Z) (agp (.str s_) Z Z Z Z Z Z Z (pu_move Z (tm Z)) (agp (.int .i64 (s_.length : Int)) Z Z Z Z Z Z Z (pu_strLen Z underlying9 (tm Z)) (agp (.bool (decide ((IntKind.wrap .i64 (s3033.i + 3)) < (s_.length : Int)))) Z Z Z Z Z Z Z (pu_int (v := .bool (decide ((IntKind.wrap .i64 (s3033.i + 3)) < (s_.length : Int)))) Z Z (tm Z) (tm Z) Z) (ap (.bool (decide ((IntKind.wrap .i64 (s3033.i + 3)) < (s_.length : Int)))) Z Z Z (pu_pick (b := true) Z (tm Z) (fun _ => (tm Z)) (fun h => nomatch h)) (ap (.bool (decide ((IntKind.wrap .i64 (s3033.i + 3)) < (s_.length : Int)))) Z Z Z (pu_move Z (tm Z)) ?_)))))))
                rcases Bool.eq_false_or_eq_true (decide ((IntKind.wrap .i64 (s3033.i + 3)) < (s_.length : Int))) with hb3191 | hb3191
                ·replace h := ite_t (dec_t hb3191) h
                 refine aops_known 90 Z hb3191 (agp (.str s_) Z Z Z Z Z Z Z (pu_move Z (tm Z)) (agp (.int .i64 s3033.i) Z Z Z Z Z Z Z (pu_move Z (tm Z)) (agp (.int .i64 (IntKind.wrap .i64 (s3033.i + 1))) Z Z Z Z Z Z Z (pu_int (v := .int .i64 (IntKind.wrap .i64 (s3033.i + 1))) Z Z (tm Z) (AEv.int _ _) Z) ?_)))
                 obtain ⟨c3192, h⟩ := need_of h
                 refine agp (.int .u8 (bix s_ (IntKind.wrap .i64 (s3033.i + 1)))) Z Z Z Z Z Z Z (pu_strIdxM Z underlying9 (tm Z) (tm Z) c3192) (agp (.bool (decide ((bix s_ (IntKind.wrap .i64 (s3033.i + 1))) = 120))) Z Z Z Z Z Z Z (pu_int (v := .bool (decide ((bix s_ (IntKind.wrap .i64 (s3033.i + 1))) = 120))) Z Z (tm Z) (AEv.int _ _) Z) (ap (.bool (decide ((bix s_ (IntKind.wrap .i64 (s3033.i + 1))) = 120))) Z Z Z (pu_pick (b := true) Z (tm Z) (fun _ => (tm Z)) (fun h => nomatch h)) (ap (.bool (decide ((bix s_ (IntKind.wrap .i64 (s3033.i + 1))) = 120))) Z Z Z (pu_move Z (tm Z)) ?_)))
                 rcases Bool.eq_false_or_eq_true (decide ((bix s_ (IntKind.wrap .i64 (s3033.i + 1))) = 120)) with hb3193 | hb3193
                 ·replace h := ite_t (dec_t hb3193) h
                  refine aops_known 97 Z hb3193 (agp (.str s_) Z Z Z Z Z Z Z (pu_move Z (tm Z)) (agp (.int .i64 s3033.i) Z Z Z Z Z Z Z (pu_move Z (tm Z)) (agp (.int .i64 (IntKind.wrap .i64 (s3033.i + 2))) Z Z Z Z Z Z Z (pu_int (v := .int .i64 (IntKind.wrap .i64 (s3033.i + 2))) Z Z (tm Z) (AEv.int _ _) Z) ?_)))
                  obtain ⟨c3194, h⟩ := need_of h
                  refine agp (.int .u8 (bix s_ (IntKind.wrap .i64 (s3033.i + 2)))) Z Z Z Z Z Z Z (pu_strIdxM Z underlying9 (tm Z) (tm Z) c3194) ?_
                  obtain ⟨r3195, r3195e, h⟩ := bind_some h
                  refine ag Z Z Z Z Z Z Z (op_call (vs := [.int .u8 (bix s_ (IntKind.wrap .i64 (s3033.i + 2)))]) (H := []) Z call93 ⟨(tm Z), trivial⟩ (List.Perm.refl _) (mewsref04.digit.ok r3195e) ?_)
                  rintro _ _ ⟨rfl, rfl⟩
                  refine agp (.bool (decide (r3195 < 16))) Z Z Z Z Z Z Z (pu_int (v := .bool (decide (r3195 < 16))) Z Z (tm Z) (AEv.int _ _) Z) (ap (.bool (decide (r3195 < 16))) Z Z Z (pu_pick (b := true) Z (tm Z) (fun _ => (tm Z)) (fun h => nomatch h)) (ap (.bool (decide (r3195 < 16))) Z Z Z (pu_move Z (tm Z)) ?_))
                  rcases Bool.eq_false_or_eq_true (decide (r3195 < 16)) with hb3196 | hb3196
                  ·replace h := ite_t (dec_t hb3196) h
                   refine aops_known 105 Z hb3196 (agp (.str s_) Z Z Z Z Z Z Z (pu_move Z (tm Z)) (agp (.int .i64 s3033.i) Z Z Z Z Z Z Z (pu_move Z (tm Z)) (agp (.int .i64 (IntKind.wrap .i64 (s3033.i + 3))) Z Z Z Z Z Z Z (pu_int (v := .int .i64 (IntKind.wrap .i64 (s3033.i + 3))) Z Z (tm Z) (AEv.int _ _) Z) ?_)))
                   obtain ⟨c3197, h⟩ := need_of h
                   refine agp (.int .u8 (bix s_ (IntKind.wrap .i64 (s3033.i + 3)))) Z Z Z Z Z Z Z (pu_strIdxM Z underlying9 (tm Z) (tm Z) c3197) ?_
                   obtain ⟨r3198, r3198e, h⟩ := bind_some h
                   refine ag Z Z Z Z Z Z Z (op_call (vs := [.int .u8 (bix s_ (IntKind.wrap .i64 (s3033.i + 3)))]) (H := []) Z call93 ⟨(tm Z), trivial⟩ (List.Perm.refl _) (mewsref04.digit.ok r3198e) ?_)
                   rintro _ _ ⟨rfl, rfl⟩
                   refine agp (.bool (decide (r3198 < 16))) Z Z Z Z Z Z Z (pu_int (v := .bool (decide (r3198 < 16))) Z Z (tm Z) (AEv.int _ _) Z) (ap (.bool (decide (r3198 < 16))) Z Z Z (pu_pick (b := true) Z (tm Z) (fun _ => (tm Z)) (fun h => nomatch h)) (ap (.bool (decide (r3198 < 16))) Z Z Z (pu_assign Z (tm Z)) (aops_nil ?_)))
                   obtain rfl := some_of h
                   exact ⟨(), Weak.mkL [0] (by decide) ⟨⟨_, Z, Z⟩, trivial⟩ ⟨AEv.tmp Z, AEv.tmp Z, AEv.tmp Z, AEv.tmp Z, AEv.tmp Z, AEv.tmp Z, AEv.tmp Z, AEv.tmp Z, (AEv.le (tm Z) (AV.Le.refl _)), trivial⟩⟩
                  ·replace h := ite_f (dec_f hb3196) h
                   refine aops_known 105 Z hb3196 (an Z Z Z Z Z Z Z Z (an Z Z Z Z Z Z Z Z (an Z Z Z Z Z Z Z Z (an Z Z Z Z Z Z Z Z (an Z Z Z Z Z Z Z Z (an Z Z Z Z Z Z Z Z (ap (.bool false) Z Z Z (pu_pick (b := false) Z (tm Z) (fun h => nomatch h) (fun _ => (AEv.bool _))) (ap (.bool false) Z Z Z (pu_assign Z (tm Z)) (aops_nil ?_)))))))))
                   obtain rfl := some_of h
                   exact ⟨(), Weak.mkL [0] (by decide) ⟨⟨_, Z, Z⟩, trivial⟩ ⟨AEv.tmp Z, AEv.tmp Z, AEv.tmp Z, AEv.tmp Z, AEv.tmp Z, AEv.tmp Z, AEv.tmp Z, AEv.tmp Z, AEv.tmp Z, trivial⟩⟩
                 ·replace h := ite_f (dec_f hb3193) h
                  refine aops_known 97 Z hb3193 (an Z Z Z Z Z Z Z Z (an Z Z Z Z Z Z Z Z (an Z Z Z Z Z Z Z Z (an Z Z Z Z Z Z Z Z (an Z Z Z Z Z Z Z Z (an Z Z Z Z Z Z Z Z (ap (.bool false) Z Z Z (pu_pick (b := false) Z (tm Z) (fun h => nomatch h) (fun _ => (AEv.bool _))) (ap (.bool false) Z Z Z (pu_move Z (tm Z)) (an Z Z Z Z Z Z Z Z ?_)))))))))
                  refine an Z Z Z Z Z Z Z Z (an Z Z Z Z Z Z Z Z (an Z Z Z Z Z Z Z Z (an Z Z Z Z Z Z Z Z (an Z Z Z Z Z Z Z Z (ap (.bool false) Z Z Z (pu_pick (b := false) Z (tm Z) (fun h => nomatch h) (fun _ => (AEv.bool _))) (ap (.bool false) Z Z Z (pu_assign Z (tm Z)) (aops_nil ?_)))))))
                  obtain rfl := some_of h
                  exact ⟨(), Weak.mkL [0] (by decide) ⟨⟨_, Z, Z⟩, trivial⟩ ⟨AEv.tmp Z, AEv.tmp Z, AEv.tmp Z, AEv.tmp Z, AEv.tmp Z, AEv.tmp Z, AEv.tmp Z, AEv.tmp Z, AEv.tmp Z, trivial⟩⟩
                ·replace h := ite_f (dec_f hb3191) h
                 refine aops_known 90 Z hb3191 (an Z Z Z Z Z Z Z Z (an Z Z Z Z Z Z Z Z (an Z Z Z Z Z Z Z Z (an Z Z Z Z Z Z Z Z (an Z Z Z Z Z Z Z Z (ap (.bool false) Z Z Z (pu_pick (b := false) Z (tm Z) (fun h => nomatch h) (fun _ => (AEv.bool _))) (ap (.bool false) Z Z Z (pu_move Z (tm Z)) (an Z Z Z Z Z Z Z Z (an Z Z Z Z Z Z Z Z ?_)))))))))
                 refine an Z Z Z Z Z Z Z Z (an Z Z Z Z Z Z Z Z (an Z Z Z Z Z Z Z Z (an Z Z Z Z Z Z Z Z (ap (.bool false) Z Z Z (pu_pick (b := false) Z (tm Z) (fun h => nomatch h) (fun _ => (AEv.bool _))) (ap (.bool false) Z Z Z (pu_move Z (tm Z)) (an Z Z Z Z Z Z Z Z (an Z Z Z Z Z Z Z Z (an Z Z Z Z Z Z Z Z (an Z Z Z Z Z Z Z Z ?_)))))))))
                 refine an Z Z Z Z Z Z Z Z (an Z Z Z Z Z Z Z Z (ap (.bool false) Z Z Z (pu_pick (b := false) Z (tm Z) (fun h => nomatch h) (fun _ => (AEv.bool _))) (ap (.bool false) Z Z Z (pu_assign Z (tm Z)) (aops_nil ?_))))
                 obtain rfl := some_of h
                 exact ⟨(), Weak.mkL [0] (by decide) ⟨⟨_, Z, Z⟩, trivial⟩ ⟨AEv.tmp Z, AEv.tmp Z, AEv.tmp Z, AEv.tmp Z, AEv.tmp Z, AEv.tmp Z, AEv.tmp Z, AEv.tmp Z, AEv.tmp Z, trivial⟩⟩
               ·replace h := ite_f (dec_f hb3190) h
                refine aops_known 83 Z hb3190 (an Z Z Z Z Z Z Z Z (an Z Z Z Z Z Z Z Z (an Z Z Z Z Z Z Z Z (an Z Z Z Z Z Z Z Z (an Z Z Z Z Z Z Z Z (ap (.bool false) Z Z Z (pu_pick (b := false) Z (tm Z) (fun h => nomatch h) (fun _ => (AEv.bool _))) (ap (.bool false) Z Z Z (pu_move Z (tm Z)) (an Z Z Z Z Z Z Z Z (an Z Z Z Z Z Z Z Z ?_)))))))))
                refine an Z Z Z Z Z Z Z Z (an Z Z Z Z Z Z Z Z (an Z Z Z Z Z Z Z Z (ap (.bool false) Z Z Z (pu_pick (b := false) Z (tm Z) (fun h => nomatch h) (fun _ => (AEv.bool _))) (ap (.bool false) Z Z Z (pu_move Z (tm Z)) (an Z Z Z Z Z Z Z Z (an Z Z Z Z Z Z Z Z (an Z Z Z Z Z Z Z Z (an Z Z Z Z Z Z Z Z (an Z Z Z Z Z Z Z Z ?_)))))))))
                refine an Z Z Z Z Z Z Z Z (ap (.bool false) Z Z Z (pu_pick (b := false) Z (tm Z) (fun h => nomatch h) (fun _ => (AEv.bool _))) (ap (.bool false) Z Z Z (pu_move Z (tm Z)) (an Z Z Z Z Z Z Z Z (an Z Z Z Z Z Z Z Z (an Z Z Z Z Z Z Z Z (an Z Z Z Z Z Z Z Z (an Z Z Z Z Z Z Z Z (an Z Z Z Z Z Z Z Z (ap (.bool false) Z Z Z (pu_pick (b := false) Z (tm Z) (fun h => nomatch h) (fun _ => (AEv.bool _))) ?_)))))))))
                refine ap (.bool false) Z Z Z (pu_assign Z (tm Z)) (aops_nil ?_)
                obtain rfl := some_of h
                exact ⟨(), Weak.mkL [0] (by decide) ⟨⟨_, Z, Z⟩, trivial⟩ ⟨AEv.tmp Z, AEv.tmp Z, AEv.tmp Z, AEv.tmp Z, AEv.tmp Z, AEv.tmp Z, AEv.tmp Z, AEv.tmp Z, AEv.tmp Z, trivial⟩⟩
              ·replace h := ite_f (dec_f hb3189) h
               refine aops_known 79 Z hb3189 (an Z Z Z Z Z Z Z Z (an Z Z Z Z Z Z Z Z (ap (.bool false) Z Z Z (pu_pick (b := false) Z (tm Z) (fun h => nomatch h) (fun _ => (AEv.bool _))) (ap (.bool false) Z Z Z (pu_move Z (tm Z)) (an Z Z Z Z Z Z Z Z (an Z Z Z Z Z Z Z Z (an Z Z Z Z Z Z Z Z (an Z Z Z Z Z Z Z Z (an Z Z Z Z Z Z Z Z ?_)))))))))
               refine ap (.bool false) Z Z Z (pu_pick (b := false) Z (tm Z) (fun h => nomatch h) (fun _ => (AEv.bool _))) (ap (.bool false) Z Z Z (pu_move Z (tm Z)) (an Z Z Z Z Z Z Z Z (an Z Z Z Z Z Z Z Z (an Z Z Z Z Z Z Z Z (an Z Z Z Z Z Z Z Z (an Z Z Z Z Z Z Z Z (ap (.bool false) Z Z Z (pu_pick (b := false) Z (tm Z) (fun h => nomatch h) (fun _ => (AEv.bool _))) (ap (.bool false) Z Z Z (pu_move Z (tm Z)) (an Z Z Z Z Z Z Z Z ?_)))))))))
               refine an Z Z Z Z Z Z Z Z (an Z Z Z Z Z Z Z Z (an Z Z Z Z Z Z Z Z (an Z Z Z Z Z Z Z Z (an Z Z Z Z Z Z Z Z (ap (.bool false) Z Z Z (pu_pick (b := false) Z (tm Z) (fun h => nomatch h) (fun _ => (AEv.bool _))) (ap (.bool false) Z Z Z (pu_move Z (tm Z)) (an Z Z Z Z Z Z Z Z (an Z Z Z Z Z Z Z Z (an Z Z Z Z Z Z Z Z ?_)))))))))
               refine an Z Z Z Z Z Z Z Z (an Z Z Z Z Z Z Z Z (an Z Z Z Z Z Z Z Z (ap (.bool false) Z Z Z (pu_pick (b := false) Z (tm Z) (fun h => nomatch h) (fun _ => (AEv.bool _))) (ap (.bool false) Z Z Z (pu_assign Z (tm Z)) (aops_nil ?_)))))
               obtain rfl := some_of h
               exact ⟨(), Weak.mkL [0] (by decide) ⟨⟨_, Z, Z⟩, trivial⟩ ⟨AEv.tmp Z, AEv.tmp Z, AEv.tmp Z, AEv.tmp Z, AEv.tmp Z, AEv.tmp Z, AEv.tmp Z, AEv.tmp Z, AEv.tmp Z, trivial⟩⟩
             ·intro _
              have h := h3187
              refine aw_cond (b := s3186) (tm Z) (fun hb3233 => ?_) (fun hb3233 => ?_)
              ·replace h := ite_t hb3233 h
               refine aw_seq ?_
               obtain ⟨c3199, h⟩ := need_of h
               obtain ⟨r3200, r3200e, h⟩ := bind_some h
               obtain ⟨c3201, h⟩ := need_of h
               obtain ⟨r3202, r3202e, h⟩ := bind_some h
               obtain ⟨c3203, h⟩ := need_of h
               obtain ⟨c3204, h⟩ := need_of h
               obtain ⟨x3205, x3205e, h⟩ := letO_of h
               refine aw_plan (by decide +kernel) [([], some 113, [8]), ([], some 114, [0]), ([], some 115, [9]), ([2], some 116, [115]), ([1, 3], some 117, [114, 116]), ([4], some 118, [117]), ([5], some 119, [118]), ([], some 120, [0]), ([], some 121, [9]), ([8], some 122, [121]), ([7, 9], some 123, [120, 122]), ([10, 5], some 124, [123]), ([6, 11], some 125, [119, 124]), ([12], some 126, [125]), ([13], some 127, [126]), ([14], some 128, [127]), ([0, 15], some 129, [113, 128]), ([16, 11, 0, 1, 2, 3, 4, 5, 6, 7, 8, 9, 10, 11, 12, 13, 14, 15, 16], some 8, [129])] Z [[], [], [], [2], [1, 2, 3], [1, 2, 3, 4], [1, 2, 3, 4, 5], [], [], [8], [7, 8, 9], [1, 2, 3, 4, 5, 7, 8, 9, 10], [1, 2, 3, 4, 5, 6, 7, 8, 9, 10, 11], [1, 2, 3, 4, 5, 6, 7, 8, 9, 10, 11, 12], [1, 2, 3, 4, 5, 6, 7, 8, 9, 10, 11, 12, 13], [1, 2, 3, 4, 5, 6, 7, 8, 9, 10, 11, 12, 13, 14], [0, 1, 2, 3, 4, 5, 6, 7, 8, 9, 10, 11, 12, 13, 14, 15], [0, 1, 2, 3, 4, 5, 6, 7, 8, 9, 10, 11, 12, 13, 14, 15, 16]] [[], [], [], [], [], [], [], [], [], [], [], [], [], [], [], [], [], []] [[]] [[[(n3034, .spare)]]] [.str s3033.now, .str s_, .int .i64 s3033.i, .int .i64 (IntKind.wrap .i64 (s3033.i + 2)), .int .u8 (bix s_ (IntKind.wrap .i64 (s3033.i + 2))), .int .i64 r3200, .int .i64 (IntKind.wrap .i64 (16 * r3200)), .str s_, .int .i64 s3033.i, .int .i64 (IntKind.wrap .i64 (s3033.i + 3)), .int .u8 (bix s_ (IntKind.wrap .i64 (s3033.i + 3))), .int .i64 r3202, .int .i64 (IntKind.wrap .i64 ((IntKind.wrap .i64 (16 * r3200)) + r3202)), .int .u8 (IntKind.wrap .u8 (IntKind.wrap .i64 ((IntKind.wrap .i64 (16 * r3200)) + r3202))), .sl .full 1 ([u8 (IntKind.wrap .u8 (IntKind.wrap .i64 ((IntKind.wrap .i64 (16 * r3200)) + r3202)))].map byteAV), .str [u8 (IntKind.wrap .u8 (IntKind.wrap .i64 ((IntKind.wrap .i64 (16 * r3200)) + r3202)))], .str x3205, .str x3205] (by decide +kernel) Z Z ?_ ?_
               ·refine ⟨⟨[8], Z, stepg_pure Z (pu_move Z (tm Z))⟩, ?_⟩
                refine ⟨⟨[0], Z, stepg_pure Z (pu_move Z (tm Z))⟩, ?_⟩
                refine ⟨⟨[9], Z, stepg_pure Z (pu_move Z (tm Z))⟩, ?_⟩
                refine ⟨⟨[115], Z, stepg_pure Z (pu_int (v := .int .i64 (IntKind.wrap .i64 (s3033.i + 2))) Z Z (tm Z) (AEv.int _ _) Z)⟩, ?_⟩
                refine ⟨⟨[114, 116], Z, stepg_pure Z (pu_strIdxM Z underlying9 (tm Z) (tm Z) c3199)⟩, ?_⟩
                refine ⟨⟨[117], Z, stepg_plain Z (op_call (vs := [.int .u8 (bix s_ (IntKind.wrap .i64 (s3033.i + 2)))]) (H := []) Z call93 ⟨(tm Z), trivial⟩ (R := []) (List.Perm.refl _) (mewsref04.digit.ok r3200e) (by rintro _ _ ⟨rfl, rfl⟩; exact ⟨Z, Z⟩))⟩, ?_⟩
                refine ⟨⟨[118], Z, stepg_pure Z (pu_int (v := .int .i64 (IntKind.wrap .i64 (16 * r3200))) Z Z (AEv.int _ _) (tm Z) Z)⟩, ?_⟩
                refine ⟨⟨[0], Z, stepg_pure Z (pu_move Z (tm Z))⟩, ?_⟩
                refine ⟨⟨[9], Z, stepg_pure Z (pu_move Z (tm Z))⟩, ?_⟩
                refine ⟨⟨[121], Z, stepg_pure Z (pu_int (v := .int .i64 (IntKind.wrap .i64 (s3033.i + 3))) Z Z (tm Z) (AEv.int _ _) Z)⟩, ?_⟩
                refine ⟨⟨[120, 122], Z, stepg_pure Z (pu_strIdxM Z underlying9 (tm Z) (tm Z) c3201)⟩, ?_⟩
                refine ⟨⟨[123], Z, stepg_plain Z (op_call (vs := [.int .u8 (bix s_ (IntKind.wrap .i64 (s3033.i + 3)))]) (H := []) Z call93 ⟨(tm Z), trivial⟩ (R := []) (List.Perm.refl _) (mewsref04.digit.ok r3202e) (by rintro _ _ ⟨rfl, rfl⟩; exact ⟨Z, Z⟩))⟩, ?_⟩
                refine ⟨⟨[119, 124], Z, stepg_pure Z (pu_int (v := .int .i64 (IntKind.wrap .i64 ((IntKind.wrap .i64 (16 * r3200)) + r3202))) Z Z (tm Z) (tm Z) Z)⟩, ?_⟩
                refine ⟨⟨[125], Z, stepg_pure Z (pu_conv Z underlying3 underlying5 (tm Z))⟩, ?_⟩
                refine ⟨⟨[126], Z, stepg_plain Z (op_buildSlice (xs := ([u8 (IntKind.wrap .u8 (IntKind.wrap .i64 ((IntKind.wrap .i64 (16 * r3200)) + r3202)))] : List UInt8).map byteAV) (aparts := [(0, byteAV (u8 (IntKind.wrap .u8 (IntKind.wrap .i64 ((IntKind.wrap .i64 (16 * r3200)) + r3202)))))]) Z underlying102 sizeOf5 zeroValue5 (by decide) (by decide) ⟨Z, (AEv.le (tm Z) (AV.Le.of_eq (byteAV_u8 c3203.1 c3203.2).symm)), trivial⟩ Z Z Z ⟨Z, Z⟩)⟩, ?_⟩
                refine ⟨⟨[127], Z, stepg_plain Z (op_bytesStr Z underlying102 underlying5 underlying9 (tm Z) ⟨Z, Z⟩)⟩, ?_⟩
                refine ⟨⟨[113, 128], Z, stepg_pure Z (APure.eq (pu_strAdd Z (tm Z) (tm Z) c3204) (congrArg (AV.str) x3205e.symm))⟩, ?_⟩
                refine ⟨⟨[129], Z, stepg_pure Z (pu_assign Z (tm Z))⟩, ?_⟩
                trivial
               refine aw_region (ap (.int .i64 s3033.i) Z Z Z (pu_move Z (tm Z)) (ap (.int .i64 (IntKind.wrap .i64 (s3033.i + 3))) Z Z Z (pu_int (v := .int .i64 (IntKind.wrap .i64 (s3033.i + 3))) Z Z (tm Z) (AEv.int _ _) Z) (ap (.int .i64 (IntKind.wrap .i64 (s3033.i + 3))) Z Z Z (pu_assign Z (tm Z)) (aops_nil ?_))))
               exact ⟨(s3033.out, s3033.in_, s3033.open_, false, x3205, IntKind.wrap .i64 (s3033.i + 3)), n3034, (some_of h).symm, Weak.mkL [0] (by decide) ⟨⟨_, Z, Z⟩, trivial⟩ ⟨AEv.tmp Z, AEv.tmp Z, AEv.tmp Z, AEv.tmp Z, AEv.tmp Z, AEv.tmp Z, (AEv.le (tm Z) (AV.Le.refl _)), trivial⟩⟩
              ·replace h := ite_fb hb3233 h
               obtain ⟨s3208, s3208e, h3209⟩ := letO_of h
               refine aw_meet (ν := Unit) (fun v => [(0, .str s_), (4, .sl (.own n3034) 1 (s3033.out.map AV.str)), (5, .int .u8 s3033.in_), (6, .bool s3033.open_), (7, .bool false), (8, .str s3033.now), (9, .int .i64 s3033.i), (10, .int .u8 (bix s_ s3033.i)), (132, .bool s3208)]) (fun v => [(n3034, .spare)]) ?_ ?_
               ·have h := s3208e.symm
                refine aw_region (ap (.int .u8 (bix s_ s3033.i)) Z Z Z (pu_move Z (tm Z)) (ap (.bool (decide ((bix s_ s3033.i) = 92))) Z Z Z (pu_int (v := .bool (decide ((bix s_ s3033.i) = 92))) Z Z (tm Z) (AEv.int _ _) Z) (ap (.bool (decide ((bix s_ s3033.i) = 92))) Z Z Z (pu_move Z (tm Z)) ?_)))
                rcases Bool.eq_false_or_eq_true (decide ((bix s_ s3033.i) = 92)) with hb3211 | hb3211
                ·replace h := ite_t (dec_t hb3211) h
                 refine aops_known 135 Z hb3211 (agp (.int .u8 s3033.in_) Z Z Z Z Z Z Z (pu_move Z (tm Z)) (agp (.bool (decide (s3033.in_ = 34))) Z Z Z Z Z Z Z (pu_int (v := .bool (decide (s3033.in_ = 34))) Z Z (tm Z) (AEv.int _ _) Z) (ap (.bool (decide (s3033.in_ = 34))) Z Z Z (pu_pick (b := true) Z (tm Z) (fun _ => (tm Z)) (fun h => nomatch h)) (ap (.bool (decide (s3033.in_ = 34))) Z Z Z (pu_move Z (tm Z)) ?_))))
                 rcases Bool.eq_false_or_eq_true (decide (s3033.in_ = 34)) with hb3212 | hb3212
                 ·replace h := ite_t (dec_t hb3212) h
                  refine aops_known 139 Z hb3212 (agp (.int .i64 s3033.i) Z Z Z Z Z Z Z (pu_move Z (tm Z)) (agp (.int .i64 (IntKind.wrap .i64 (s3033.i + 1))) Z Z Z Z Z Z Z (pu_int (v := .int .i64 (IntKind.wrap .i64 (s3033.i + 1))) Z Z (tm Z) (AEv.int _ _) Z) (agp (.str s_) Z Z Z Z Z Z Z (pu_move Z (tm Z)) (agp (.int .i64 (s_.length : Int)) Z Z Z Z Z Z Z (pu_strLen Z underlying9 (tm Z)) (agp (.bool (decide ((IntKind.wrap .i64 (s3033.i + 1)) < (s_.length : Int)))) Z Z Z Z Z Z Z (pu_int (v := .bool (decide ((IntKind.wrap .i64 (s3033.i + 1)) < (s_.length : Int)))) Z Z (tm Z) (tm Z) Z) (ap (.bool (decide ((IntKind.wrap .i64 (s3033.i + 1)) < (s_.length : Int)))) Z Z Z (pu_pick (b := true) Z (tm Z) (fun _ => (tm Z)) (fun h => nomatch h)) (ap (.bool (decide ((IntKind.wrap .i64 (s3033.i + 1)) < (s_.length : Int)))) Z Z Z (pu_assign Z (tm Z)) (aops_nil ?_))))))))
                  subst h
                  exact ⟨(), Weak.mkL [0] (by decide) ⟨⟨_, Z, Z⟩, trivial⟩ ⟨AEv.tmp Z, AEv.tmp Z, AEv.tmp Z, AEv.tmp Z, AEv.tmp Z, AEv.tmp Z, AEv.tmp Z, AEv.tmp Z, (AEv.le (tm Z) (AV.Le.refl _)), trivial⟩⟩
                 ·replace h := ite_f (dec_f hb3212) h
                  refine aops_known 139 Z hb3212 (an Z Z Z Z Z Z Z Z (an Z Z Z Z Z Z Z Z (an Z Z Z Z Z Z Z Z (an Z Z Z Z Z Z Z Z (an Z Z Z Z Z Z Z Z (ap (.bool false) Z Z Z (pu_pick (b := false) Z (tm Z) (fun h => nomatch h) (fun _ => (AEv.bool _))) (ap (.bool false) Z Z Z (pu_assign Z (tm Z)) (aops_nil ?_))))))))
                  subst h
                  exact ⟨(), Weak.mkL [0] (by decide) ⟨⟨_, Z, Z⟩, trivial⟩ ⟨AEv.tmp Z, AEv.tmp Z, AEv.tmp Z, AEv.tmp Z, AEv.tmp Z, AEv.tmp Z, AEv.tmp Z, AEv.tmp Z, AEv.tmp Z, trivial⟩⟩
                ·replace h := ite_f (dec_f hb3211) h
                 refine aops_known 135 Z hb3211 (an Z Z Z Z Z Z Z Z (an Z Z Z Z Z Z Z Z (ap (.bool false) Z Z Z (pu_pick (b := false) Z (tm Z) (fun h => nomatch h) (fun _ => (AEv.bool _))) (ap (.bool false) Z Z Z (pu_move Z (tm Z)) (an Z Z Z Z Z Z Z Z (an Z Z Z Z Z Z Z Z (an Z Z Z Z Z Z Z Z (an Z Z Z Z Z Z Z Z (an Z Z Z Z Z Z Z Z ?_)))))))))
                 refine ap (.bool false) Z Z Z (pu_pick (b := false) Z (tm Z) (fun h => nomatch h) (fun _ => (AEv.bool _))) (ap (.bool false) Z Z Z (pu_assign Z (tm Z)) (aops_nil ?_))
                 subst h
                 exact ⟨(), Weak.mkL [0] (by decide) ⟨⟨_, Z, Z⟩, trivial⟩ ⟨AEv.tmp Z, AEv.tmp Z, AEv.tmp Z, AEv.tmp Z, AEv.tmp Z, AEv.tmp Z, AEv.tmp Z, AEv.tmp Z, AEv.tmp Z, trivial⟩⟩
               ·intro _
                have h := h3209
                refine aw_cond (b := s3208) (tm Z) (fun hb3232 => ?_) (fun hb3232 => ?_)
                ·replace h := ite_t hb3232 h
                 refine aw_seq (aw_region (ap (.str s3033.now) Z Z Z (pu_move Z (tm Z)) (ap (.str s_) Z Z Z (pu_move Z (tm Z)) (ap (.int .i64 s3033.i) Z Z Z (pu_move Z (tm Z)) (ap (.int .i64 (IntKind.wrap .i64 (s3033.i + 1))) Z Z Z (pu_int (v := .int .i64 (IntKind.wrap .i64 (s3033.i + 1))) Z Z (tm Z) (AEv.int _ _) Z) ?_)))))
                 obtain ⟨c3213, h⟩ := need_of h
                 refine ap (.int .u8 (bix s_ (IntKind.wrap .i64 (s3033.i + 1)))) Z Z Z (pu_strIdxM Z underlying9 (tm Z) (tm Z) c3213) ?_
                 obtain ⟨r3214, r3214e, h⟩ := bind_some h
                 refine ac Z Z Z (op_call (vs := [.int .u8 (bix s_ (IntKind.wrap .i64 (s3033.i + 1)))]) (H := []) Z call94 ⟨(tm Z), trivial⟩ (List.Perm.refl _) (mewsref04.turned.ok r3214e) ?_)
                 rintro _ _ ⟨rfl, rfl⟩
                 obtain ⟨c3215, h⟩ := need_of h
                 refine ac Z Z Z (op_buildSlice (xs := ([u8 r3214] : List UInt8).map byteAV) (aparts := [(0, byteAV (u8 r3214))]) Z underlying102 sizeOf5 zeroValue5 (by decide) (by decide) ⟨Z, (AEv.le (tm Z) (AV.Le.of_eq (byteAV_u8 c3215.1 c3215.2).symm)), trivial⟩ Z Z Z (ac Z Z Z (op_bytesStr Z underlying102 underlying5 underlying9 (tm Z) ?_)))
                 obtain ⟨c3216, h⟩ := need_of h
                 refine ap (.str (s3033.now ++ [u8 r3214])) Z Z Z (pu_strAdd Z (tm Z) (tm Z) c3216) (ap (.str (s3033.now ++ [u8 r3214])) Z Z Z (pu_assign Z (tm Z)) (aops_nil (aw_region (ap (.int .i64 s3033.i) Z Z Z (pu_move Z (tm Z)) (ap (.int .i64 (IntKind.wrap .i64 (s3033.i + 1))) Z Z Z (pu_int (v := .int .i64 (IntKind.wrap .i64 (s3033.i + 1))) Z Z (tm Z) (AEv.int _ _) Z) (ap (.int .i64 (IntKind.wrap .i64 (s3033.i + 1))) Z Z Z (pu_assign Z (tm Z)) (aops_nil ?_)))))))
                 exact ⟨(s3033.out, s3033.in_, s3033.open_, false, s3033.now ++ [u8 r3214], IntKind.wrap .i64 (s3033.i + 1)), n3034, (some_of h).symm, Weak.mkL [0] (by decide) ⟨⟨_, Z, Z⟩, trivial⟩ ⟨AEv.tmp Z, AEv.tmp Z, AEv.tmp Z, AEv.tmp Z, AEv.tmp Z, (AEv.le (tm Z) (AV.Le.refl _)), (AEv.le (tm Z) (AV.Le.refl _)), trivial⟩⟩
                ·replace h := ite_fb hb3232 h
                 obtain ⟨s3221, s3221e, h3222⟩ := bind_some h
                 refine aw_meet (ν := Unit) (fun v => [(0, .str s_), (4, .sl (.own n3034) 1 (s3033.out.map AV.str)), (5, .int .u8 s3033.in_), (6, .bool s3033.open_), (7, .bool false), (8, .str s3033.now), (9, .int .i64 s3033.i), (157, .bool s3221)]) (fun v => [(n3034, .spare)]) ?_ ?_
                 ·have h := s3221e
                  refine aw_region (ap (.int .u8 (bix s_ s3033.i)) Z Z Z (pu_move Z (tm Z)) (ap (.bool (decide ((bix s_ s3033.i) = 92))) Z Z Z (pu_int (v := .bool (decide ((bix s_ s3033.i) = 92))) Z Z (tm Z) (AEv.int _ _) Z) (ap (.bool (decide ((bix s_ s3033.i) = 92))) Z Z Z (pu_move Z (tm Z)) ?_)))
                  rcases Bool.eq_false_or_eq_true (decide ((bix s_ s3033.i) = 92)) with hb3224 | hb3224
                  ·replace h := ite_t (dec_t hb3224) h
                   refine aops_known 160 Z hb3224 (agp (.int .u8 s3033.in_) Z Z Z Z Z Z Z (pu_move Z (tm Z)) (agp (.bool (decide (s3033.in_ = 39))) Z Z Z Z Z Z Z (pu_int (v := .bool (decide (s3033.in_ = 39))) Z Z (tm Z) (AEv.int _ _) Z) (ap (.bool (decide (s3033.in_ = 39))) Z Z Z (pu_pick (b := true) Z (tm Z) (fun _ => (tm Z)) (fun h => nomatch h)) (ap (.bool (decide (s3033.in_ = 39))) Z Z Z (pu_move Z (tm Z)) ?_))))
                   rcases Bool.eq_false_or_eq_true (decide (s3033.in_ = 39)) with hb3225 | hb3225
                   ·replace h := ite_t (dec_t hb3225) h
                    refine aops_known 164 Z hb3225 (agp (.int .i64 s3033.i) Z Z Z Z Z Z Z (pu_move Z (tm Z)) (agp (.int .i64 (IntKind.wrap .i64 (s3033.i + 1))) Z Z Z Z Z Z Z (pu_int (v := .int .i64 (IntKind.wrap .i64 (s3033.i + 1))) Z Z (tm Z) (AEv.int _ _) Z) (agp (.str s_) Z Z Z Z Z Z Z (pu_move Z (tm Z)) (agp (.int .i64 (s_.length : Int)) Z Z Z Z Z Z Z (pu_strLen Z underlying9 (tm Z)) (agp (.bool (decide ((IntKind.wrap .i64 (s3033.i + 1)) < (s_.length : Int)))) Z Z Z Z Z Z Z (pu_int (v := .bool (decide ((IntKind.wrap .i64 (s3033.i + 1)) < (s_.length : Int)))) Z Z (tm Z) (tm Z) Z) (ap (.bool (decide ((IntKind.wrap .i64 (s3033.i + 1)) < (s_.length : Int)))) Z Z Z (pu_pick (b := true) Z (tm Z) (fun _ => (tm Z)) (fun h => nomatch h)) (ap (.bool (decide ((IntKind.wrap .i64 (s3033.i + 1)) < (s_.length : Int)))) Z Z Z (pu_move Z (tm Z)) ?_)))))))
                    rcases Bool.eq_false_or_eq_true (decide ((IntKind.wrap .i64 (s3033.i + 1)) < (s_.length : Int))) with hb3226 | hb3226
                    ·replace h := ite_t (dec_t hb3226) h
                     refine aops_known 171 Z hb3226 (agp (.str s_) Z Z Z Z Z Z Z (pu_move Z (tm Z)) (agp (.int .i64 s3033.i) Z Z Z Z Z Z Z (pu_move Z (tm Z)) (agp (.int .i64 (IntKind.wrap .i64 (s3033.i + 1))) Z Z Z Z Z Z Z (pu_int (v := .int .i64 (IntKind.wrap .i64 (s3033.i + 1))) Z Z (tm Z) (AEv.int _ _) Z) ?_)))
                     obtain ⟨c3227, h⟩ := need_of h
                     refine agp (.int .u8 (bix s_ (IntKind.wrap .i64 (s3033.i + 1)))) Z Z Z Z Z Z Z (pu_strIdxM Z underlying9 (tm Z) (tm Z) c3227) (agp (.bool (decide ((bix s_ (IntKind.wrap .i64 (s3033.i + 1))) = 39))) Z Z Z Z Z Z Z (pu_int (v := .bool (decide ((bix s_ (IntKind.wrap .i64 (s3033.i + 1))) = 39))) Z Z (tm Z) (AEv.int _ _) Z) (ap (.bool (decide ((bix s_ (IntKind.wrap .i64 (s3033.i + 1))) = 39))) Z Z Z (pu_pick (b := true) Z (tm Z) (fun _ => (tm Z)) (fun h => nomatch h)) (ap (.bool (decide ((bix s_ (IntKind.wrap .i64 (s3033.i + 1))) = 39))) Z Z Z (pu_assign Z (tm Z)) (aops_nil ?_))))
                     obtain rfl := some_of h
                     exact ⟨(), Weak.mkL [0] (by decide) ⟨⟨_, Z, Z⟩, trivial⟩ ⟨AEv.tmp Z, AEv.tmp Z, AEv.tmp Z, AEv.tmp Z, AEv.tmp Z, AEv.tmp Z, AEv.tmp Z, (AEv.le (tm Z) (AV.Le.refl _)), trivial⟩⟩
                    ·replace h := ite_f (dec_f hb3226) h
                     refine aops_known 171 Z hb3226 (an Z Z Z Z Z Z Z Z (an Z Z Z Z Z Z Z Z (an Z Z Z Z Z Z Z Z (an Z Z Z Z Z Z Z Z (an Z Z Z Z Z Z Z Z (ap (.bool false) Z Z Z (pu_pick (b := false) Z (tm Z) (fun h => nomatch h) (fun _ => (AEv.bool _))) (ap (.bool false) Z Z Z (pu_assign Z (tm Z)) (aops_nil ?_))))))))
                     obtain rfl := some_of h
                     exact ⟨(), Weak.mkL [0] (by decide) ⟨⟨_, Z, Z⟩, trivial⟩ ⟨AEv.tmp Z, AEv.tmp Z, AEv.tmp Z, AEv.tmp Z, AEv.tmp Z, AEv.tmp Z, AEv.tmp Z, AEv.tmp Z, trivial⟩⟩
                   ·replace h := ite_f (dec_f hb3225) h
                    refine aops_known 164 Z hb3225 (an Z Z Z Z Z Z Z Z (an Z Z Z Z Z Z Z Z (an Z Z Z Z Z Z Z Z (an Z Z Z Z Z Z Z Z (an Z Z Z Z Z Z Z Z (ap (.bool false) Z Z Z (pu_pick (b := false) Z (tm Z) (fun h => nomatch h) (fun _ => (AEv.bool _))) (ap (.bool false) Z Z Z (pu_move Z (tm Z)) (an Z Z Z Z Z Z Z Z (an Z Z Z Z Z Z Z Z ?_)))))))))
                    refine an Z Z Z Z Z Z Z Z (an Z Z Z Z Z Z Z Z (an Z Z Z Z Z Z Z Z (ap (.bool false) Z Z Z (pu_pick (b := false) Z (tm Z) (fun h => nomatch h) (fun _ => (AEv.bool _))) (ap (.bool false) Z Z Z (pu_assign Z (tm Z)) (aops_nil ?_)))))
                    obtain rfl := some_of h
                    exact ⟨(), Weak.mkL [0] (by decide) ⟨⟨_, Z, Z⟩, trivial⟩ ⟨AEv.tmp Z, AEv.tmp Z, AEv.tmp Z, AEv.tmp Z, AEv.tmp Z, AEv.tmp Z, AEv.tmp Z, AEv.tmp Z, trivial⟩⟩
                  ·replace h := ite_f (dec_f hb3224) h
                   refine aops_known 160 Z hb3224 (an Z Z Z Z Z Z Z Z (an Z Z Z Z Z Z Z Z (ap (.bool false) Z Z Z (pu_pick (b := false) Z (tm Z) (fun h => nomatch h) (fun _ => (AEv.bool _))) (ap (.bool false) Z Z Z (pu_move Z (tm Z)) (an Z Z Z Z Z Z Z Z (an Z Z Z Z Z Z Z Z (an Z Z Z Z Z Z Z Z (an Z Z Z Z Z Z Z Z (an Z Z Z Z Z Z Z Z ?_)))))))))
                   refine ap (.bool false) Z Z Z (pu_pick (b := false) Z (tm Z) (fun h => nomatch h) (fun _ => (AEv.bool _))) (ap (.bool false) Z Z Z (pu_move Z (tm Z)) (an Z Z Z Z Z Z Z Z (an Z Z Z Z Z Z Z Z (an Z Z Z Z Z Z Z Z (an Z Z Z Z Z Z Z Z (an Z Z Z Z Z Z Z Z (ap (.bool false) Z Z Z (pu_pick (b := false) Z (tm Z) (fun h => nomatch h) (fun _ => (AEv.bool _))) (ap (.bool false) Z Z Z (pu_assign Z (tm Z)) (aops_nil ?_)))))))))
                   obtain rfl := some_of h
                   exact ⟨(), Weak.mkL [0] (by decide) ⟨⟨_, Z, Z⟩, trivial⟩ ⟨AEv.tmp Z, AEv.tmp Z, AEv.tmp Z, AEv.tmp Z, AEv.tmp Z, AEv.tmp Z, AEv.tmp Z, AEv.tmp Z, trivial⟩⟩
                 ·intro _
                  have h := h3222
                  refine aw_cond (b := s3221) (tm Z) (fun hb3231 => ?_) (fun hb3231 => ?_)
                  ·replace h := ite_t hb3231 h
                   refine aw_seq (aw_region (ap (.str s3033.now) Z Z Z (pu_move Z (tm Z)) ?_))
                   obtain ⟨c3228, h⟩ := need_of h
                   refine ap (.str (s3033.now ++ [39])) Z Z Z (pu_strAdd Z (tm Z) (AEv.const Z) c3228) (ap (.str (s3033.now ++ [39])) Z Z Z (pu_assign Z (tm Z)) (aops_nil (aw_region (ap (.int .i64 s3033.i) Z Z Z (pu_move Z (tm Z)) (ap (.int .i64 (IntKind.wrap .i64 (s3033.i + 1))) Z Z Z (pu_int (v := .int .i64 (IntKind.wrap .i64 (s3033.i + 1))) Z Z (tm Z) (AEv.int _ _) Z) (ap (.int .i64 (IntKind.wrap .i64 (s3033.i + 1))) Z Z Z (pu_assign Z (tm Z)) (aops_nil ?_)))))))
                   exact ⟨(s3033.out, s3033.in_, s3033.open_, false, s3033.now ++ [39], IntKind.wrap .i64 (s3033.i + 1)), n3034, (some_of h).symm, Weak.mkL [0] (by decide) ⟨⟨_, Z, Z⟩, trivial⟩ ⟨AEv.tmp Z, AEv.tmp Z, AEv.tmp Z, AEv.tmp Z, AEv.tmp Z, (AEv.le (tm Z) (AV.Le.refl _)), (AEv.le (tm Z) (AV.Le.refl _)), trivial⟩⟩
                  ·replace h := ite_fb hb3231 h
                   refine aw_region (ap (.str s3033.now) Z Z Z (pu_move Z (tm Z)) (ap (.str s_) Z Z Z (pu_move Z (tm Z)) (ap (.int .i64 s3033.i) Z Z Z (pu_move Z (tm Z)) (ap (.int .i64 s3033.i) Z Z Z (pu_move Z (tm Z)) (ap (.int .i64 (IntKind.wrap .i64 (s3033.i + 1))) Z Z Z (pu_int (v := .int .i64 (IntKind.wrap .i64 (s3033.i + 1))) Z Z (tm Z) (AEv.int _ _) Z) ?_)))))
                   obtain ⟨c3229, h⟩ := need_of h
                   refine ap (.str (sub s_ s3033.i (IntKind.wrap .i64 (s3033.i + 1)))) Z Z Z (pu_strSliceM Z underlying9 (tm Z) ⟨_, (tm Z)⟩ ⟨_, (tm Z)⟩ c3229) ?_
                   obtain ⟨c3230, h⟩ := need_of h
                   refine ap (.str (s3033.now ++ (sub s_ s3033.i (IntKind.wrap .i64 (s3033.i + 1))))) Z Z Z (pu_strAdd Z (tm Z) (tm Z) c3230) (ap (.str (s3033.now ++ (sub s_ s3033.i (IntKind.wrap .i64 (s3033.i + 1))))) Z Z Z (pu_assign Z (tm Z)) (aops_nil ?_))
                   exact ⟨(s3033.out, s3033.in_, s3033.open_, false, s3033.now ++ (sub s_ s3033.i (IntKind.wrap .i64 (s3033.i + 1))), s3033.i), n3034, (some_of h).symm, Weak.mkL [0] (by decide) ⟨⟨_, Z, Z⟩, trivial⟩ ⟨AEv.tmp Z, AEv.tmp Z, AEv.tmp Z, AEv.tmp Z, AEv.tmp Z, (AEv.le (tm Z) (AV.Le.refl _)), AEv.tmp Z, trivial⟩⟩
  ·replace h := ite_f (dec_f hb3240) h
   refine aw_exit ?_
   obtain rfl := some_of h
   have h := congrArg some (hx3035 _ rfl)
   exact ⟨(s3033.out, s3033.in_, s3033.open_, s3033.now), n3034, (some_of h).symm, Weak.mkL [0] (by decide) ⟨⟨_, Z, Z⟩, trivial⟩ ⟨AEv.tmp Z, AEv.tmp Z, AEv.tmp Z, AEv.tmp Z, trivial⟩⟩

theorem mewsref05.one.ok {s_ : List UInt8} {l : api.Limits} {r : api.Input × Int} (h : mewsref05.one s_ l = some r) : Go.Lift.Spec prog 54 [.str s_, .agg [.int .i64 l.Args, .int .i64 l.Bulk, .int .i64 l.Line]] [] (fun v H => v = .tup [.agg [.str r.1.Rest, .sl .no 1 (r.1.Args.map AV.str), .int .i64 r.1.Left, .int .i64 r.1.Size, .bool r.1.Body, .int .i64 r.1.Need, .int .i64 r.1.Dead], .int .i64 r.2] ∧ H = []) := by
 unfold mewsref05.one at h
 refine Go.Lift.Spec.of_body (rs := [.cell 4 29, .tmp 5]) func54 Z Z (Nat.le_of_ble_eq_true Z) Z (aw_seq (aw_region (ac Z Z Z (op_box (cs := [.int .i64 l.Args, .int .i64 l.Bulk, .int .i64 l.Line]) (v := .agg [.int .i64 l.Args, .int .i64 l.Bulk, .int .i64 l.Line]) Z (tm Z) Z Z ?_))))
 intro p848
 refine ac Z Z Z (op_alloc (cs := [.str ([] : List UInt8), .sl .full 1 (([] : List (List UInt8)).map AV.str), .int .i64 0, .int .i64 0, .bool false, .int .i64 0, .int .i64 0]) (v := .agg [.str ([] : List UInt8), .sl .full 1 (([] : List (List UInt8)).map AV.str), .int .i64 0, .int .i64 0, .bool false, .int .i64 0, .int .i64 0]) Z zeroValue29 Z Z Z ?_)
 intro p849
 refine ap (.int .i64 0) Z Z Z (pu_assign Z (AEv.int _ _)) (aops_nil ?_)
 obtain ⟨s1694, s1694e, h1271⟩ := bind_some h
 refine aw_join (σ := Unit) (ν := Unit) (fun u v => [(0, .str s_), (3, .ptr p848 0), (4, .ptr p849 0)]) (fun u v => [(p848, .cells [.int .i64 l.Args, .int .i64 l.Bulk, .int .i64 l.Line]), (p849, .cells [.str ([] : List UInt8), .sl .full 1 (([] : List (List UInt8)).map AV.str), .int .i64 0, .int .i64 0, .bool false, .int .i64 0, .int .i64 0])]) (fun u => s1694 = .inl u) ?_ ?_
 ·intro s1270
  intro _
  rintro rfl
  have h := onSum_inl h1271
  refine aw_seq (aw_seq (aw_region (ap (.str s_) Z Z Z (pu_move Z (tm Z)) (ap (.int .i64 (s_.length : Int)) Z Z Z (pu_strLen Z underlying9 (tm Z)) (ap (.ptr p848 2) Z Z Z (pu_fieldAddr Z underlying23 Z sizeOf3 (by decide) (tm Z) Z) (ac Z Z Z (op_load1 (i := 0) Z isAgg3 (tm Z) Z Z (ap (.bool (decide (l.Line < (s_.length : Int)))) Z Z Z (pu_int (v := .bool (decide (l.Line < (s_.length : Int)))) Z Z (tm Z) (tm Z) Z) (aops_nil (aw_cond (b := decide (l.Line < (s_.length : Int))) (tm Z) (fun hb1693 => ?_) (fun hb1693 => ?_)))))))))))
  ·replace h := ite_t (dec_t hb1693) h
   refine aw_seq (aw_region (ap (.agg [.str ([] : List UInt8), .sl .full 1 (([] : List (List UInt8)).map AV.str), .int .i64 0, .int .i64 0, .bool false, .int .i64 0, .int .i64 0]) Z Z Z (pu_build (zs := [.str ([] : List UInt8), .sl .full 1 (([] : List (List UInt8)).map AV.str), .int .i64 0, .int .i64 0, .bool false, .int .i64 0, .int .i64 0]) (szs := [1, 1, 1, 1, 1, 1, 1]) (aparts := []) (cs := [.str ([] : List UInt8), .sl .full 1 (([] : List (List UInt8)).map AV.str), .int .i64 0, .int .i64 0, .bool false, .int .i64 0, .int .i64 0]) Z underlying29 zeroValue29 Z ⟨sizeOf9, sizeOf26, sizeOf3, sizeOf3, sizeOf4, sizeOf3, sizeOf27, trivial⟩ trivial Z) (ac0 Z Z (op_store (i := 1) (cs' := [.str ([] : List UInt8), .sl .full 1 (([] : List (List UInt8)).map AV.str), .int .i64 0, .int .i64 0, .bool false, .int .i64 0, .int .i64 0]) Z sizeOf29 (tm Z) (v := .agg [.str ([] : List UInt8), .sl .full 1 (([] : List (List UInt8)).map AV.str), .int .i64 0, .int .i64 0, .bool false, .int .i64 0, .int .i64 0]) (tm Z) Z Z Z (Nat.le_of_ble_eq_true Z) Z (ap (.int .i64 6) Z Z Z (pu_assign Z (AEv.int _ _)) (aops_nil (aw_ret ?_)))))))
   obtain rfl := some_of h
   exact ⟨[.agg [.str ([] : List UInt8), .sl .full 1 (([] : List (List UInt8)).map AV.str), .int .i64 0, .int .i64 0, .bool false, .int .i64 0, .int .i64 0], .int .i64 6], .tup [.agg [.str ([] : List UInt8), .sl .no 1 (([] : List (List UInt8)).map AV.str), .int .i64 0, .int .i64 0, .bool false, .int .i64 0, .int .i64 0], .int .i64 6], [], ⟨(CellOk.agg 1 (tm Z) Z isAgg29 sizeOf29 (Nat.le_of_ble_eq_true Z) Z), (tm Z), trivial⟩, (AV.Le.tup ⟨(AV.Le.agg ⟨(AV.Le.refl _), (AV.Le.forget _ _ _), (AV.Le.refl _), (AV.Le.refl _), (AV.Le.refl _), (AV.Le.refl _), (AV.Le.refl _), trivial⟩), (AV.Le.refl _), trivial⟩), Weak.mkL [] (by decide) trivial trivial, ⟨Z, Z⟩⟩
  ·replace h := ite_f (dec_f hb1693) h
   refine aw_skip (aw_seq (aw_region (ap (.str s_) Z Z Z (pu_move Z (tm Z)) (ap (.agg [.str s_, .sl .full 1 (([] : List (List UInt8)).map AV.str), .int .i64 0, .int .i64 0, .bool false, .int .i64 0, .int .i64 0]) Z Z Z (pu_build (zs := [.str ([] : List UInt8), .sl .full 1 (([] : List (List UInt8)).map AV.str), .int .i64 0, .int .i64 0, .bool false, .int .i64 0, .int .i64 0]) (szs := [1, 1, 1, 1, 1, 1, 1]) (aparts := [(0, .str s_)]) (cs := [.str s_, .sl .full 1 (([] : List (List UInt8)).map AV.str), .int .i64 0, .int .i64 0, .bool false, .int .i64 0, .int .i64 0]) Z underlying29 zeroValue29 Z ⟨sizeOf9, sizeOf26, sizeOf3, sizeOf3, sizeOf4, sizeOf3, sizeOf27, trivial⟩ ⟨Z, (tm Z), trivial⟩ Z) (ac0 Z Z (op_store (i := 1) (cs' := [.str s_, .sl .full 1 (([] : List (List UInt8)).map AV.str), .int .i64 0, .int .i64 0, .bool false, .int .i64 0, .int .i64 0]) Z sizeOf29 (tm Z) (v := .agg [.str s_, .sl .full 1 (([] : List (List UInt8)).map AV.str), .int .i64 0, .int .i64 0, .bool false, .int .i64 0, .int .i64 0]) (tm Z) Z Z Z (Nat.le_of_ble_eq_true Z) Z (ap (.int .i64 (-1)) Z Z Z (pu_assign Z (AEv.int _ _)) (aops_nil (aw_ret ?_)))))))))
   obtain rfl := some_of h
   exact ⟨[.agg [.str s_, .sl .full 1 (([] : List (List UInt8)).map AV.str), .int .i64 0, .int .i64 0, .bool false, .int .i64 0, .int .i64 0], .int .i64 (-1)], .tup [.agg [.str s_, .sl .no 1 (([] : List (List UInt8)).map AV.str), .int .i64 0, .int .i64 0, .bool false, .int .i64 0, .int .i64 0], .int .i64 (-1)], [], ⟨(CellOk.agg 1 (tm Z) Z isAgg29 sizeOf29 (Nat.le_of_ble_eq_true Z) Z), (tm Z), trivial⟩, (AV.Le.tup ⟨(AV.Le.agg ⟨(AV.Le.refl _), (AV.Le.forget _ _ _), (AV.Le.refl _), (AV.Le.refl _), (AV.Le.refl _), (AV.Le.refl _), (AV.Le.refl _), trivial⟩), (AV.Le.refl _), trivial⟩), Weak.mkL [] (by decide) trivial trivial, ⟨Z, Z⟩⟩
 ·have h := s1694e
  refine aw_seq (aw_region (ap (.int .i64 0) Z Z Z (pu_assign Z (AEv.int _ _)) (aops_nil (aw_block (aw_while (σ := mewsref05.one.S0) (ν := Unit) (mewsref05.one.body0 s_ l) (fun s1551 v => [(0, .str s_), (3, .ptr p848 0), (4, .ptr p849 0), (6, .int .i64 s1551.i)]) (fun s1551 v => [(p848, .cells [.int .i64 l.Args, .int .i64 l.Bulk, .int .i64 l.Line]), (p849, .cells [.str ([] : List UInt8), .sl .full 1 (([] : List (List UInt8)).map AV.str), .int .i64 0, .int .i64 0, .bool false, .int .i64 0, .int .i64 0])]) ⟨0⟩ () _ h (Weak.mkL [1, 0] (by decide) ⟨⟨_, Z, (CellsLe.refl _), Z⟩, ⟨_, Z, (CellsLe.refl _), Z⟩, trivial⟩ ⟨AEv.tmp Z, AEv.tmp Z, AEv.tmp Z, AEv.tmp Z, trivial⟩) ?_)))))
  rintro s1551 _ x1553 h hx1552
  unfold mewsref05.one.body0 at h
  refine aw_seq ?_
  obtain ⟨s1556, s1556e, h1557⟩ := letO_of h
  refine aw_meet (ν := Unit) (fun v => [(0, .str s_), (3, .ptr p848 0), (4, .ptr p849 0), (6, .int .i64 s1551.i), (20, .bool s1556)]) (fun v => [(p848, .cells [.int .i64 l.Args, .int .i64 l.Bulk, .int .i64 l.Line]), (p849, .cells [.str ([] : List UInt8), .sl .full 1 (([] : List (List UInt8)).map AV.str), .int .i64 0, .int .i64 0, .bool false, .int .i64 0, .int .i64 0])]) ?_ ?_
  ·have h := s1556e.symm
   refine aw_region (ap (.int .i64 s1551.i) Z Z Z (pu_move Z (tm Z)) (ap (.str s_) Z Z Z (pu_move Z (tm Z)) (ap (.int .i64 (s_.length : Int)) Z Z Z (pu_strLen Z underlying9 (tm Z)) (ap (.bool (decide (s1551.i < (s_.length : Int)))) Z Z Z (pu_int (v := .bool (decide (s1551.i < (s_.length : Int)))) Z Z (tm Z) (tm Z) Z) (ap (.bool (decide (s1551.i < (s_.length : Int)))) Z Z Z (pu_move Z (tm Z)) ?_)))))
   rcases Bool.eq_false_or_eq_true (decide (s1551.i < (s_.length : Int))) with hb1559 | hb1559
   ·replace h := ite_t (dec_t hb1559) h
    refine aops_known 15 Z hb1559 (agp (.int .i64 s1551.i) Z Z Z Z Z Z Z (pu_move Z (tm Z)) (agp (.ptr p848 2) Z Z Z Z Z Z Z (pu_fieldAddr Z underlying23 Z sizeOf3 (by decide) (tm Z) Z) (ag Z Z Z Z Z Z Z (op_load1 (i := 0) Z isAgg3 (tm Z) Z Z (agp (.bool (decide (s1551.i ≤ l.Line))) Z Z Z Z Z Z Z (pu_int (v := .bool (decide (s1551.i ≤ l.Line))) Z Z (tm Z) (tm Z) Z) (ap (.bool (decide (s1551.i ≤ l.Line))) Z Z Z (pu_pick (b := true) Z (tm Z) (fun _ => (tm Z)) (fun h => nomatch h)) (aops_nil ?_)))))))
    subst h
    exact ⟨(), Weak.mkL [0, 1] (by decide) ⟨⟨_, Z, (CellsLe.refl _), Z⟩, ⟨_, Z, (CellsLe.refl _), Z⟩, trivial⟩ ⟨AEv.tmp Z, AEv.tmp Z, AEv.tmp Z, AEv.tmp Z, (AEv.le (tm Z) (AV.Le.refl _)), trivial⟩⟩
   ·replace h := ite_f (dec_f hb1559) h
    refine aops_known 15 Z hb1559 (an Z Z Z Z Z Z Z Z (an Z Z Z Z Z Z Z Z (an Z Z Z Z Z Z Z Z (an Z Z Z Z Z Z Z Z (ap (.bool false) Z Z Z (pu_pick (b := false) Z (tm Z) (fun h => nomatch h) (fun _ => (AEv.bool _))) (aops_nil ?_))))))
    subst h
    exact ⟨(), Weak.mkL [0, 1] (by decide) ⟨⟨_, Z, (CellsLe.refl _), Z⟩, ⟨_, Z, (CellsLe.refl _), Z⟩, trivial⟩ ⟨AEv.tmp Z, AEv.tmp Z, AEv.tmp Z, AEv.tmp Z, AEv.tmp Z, trivial⟩⟩
  ·intro _
   have h := h1557
   refine aw_cond (b := s1556) (tm Z) (fun hb1692 => ?_) (fun hb1692 => ?_)
   ·replace h := ite_t hb1692 h
    refine aw_skip ?_
    obtain ⟨s1691, s1691e, h1625⟩ := bind_some h
    refine aw_join (σ := Unit) (ν := Unit) (fun u v => [(0, .str s_), (3, .ptr p848 0), (4, .ptr p849 0), (6, .int .i64 s1551.i)]) (fun u v => [(p848, .cells [.int .i64 l.Args, .int .i64 l.Bulk, .int .i64 l.Line]), (p849, .cells [.str ([] : List UInt8), .sl .full 1 (([] : List (List UInt8)).map AV.str), .int .i64 0, .int .i64 0, .bool false, .int .i64 0, .int .i64 0])]) (fun u => s1691 = .inl u) ?_ ?_
    ·intro s1624
     intro _
     rintro rfl
     have h := onSum_inl h1625
     refine aw_region (ap (.int .i64 s1551.i) Z Z Z (pu_move Z (tm Z)) (ap (.int .i64 (IntKind.wrap .i64 (s1551.i + 1))) Z Z Z (pu_int (v := .int .i64 (IntKind.wrap .i64 (s1551.i + 1))) Z Z (tm Z) (AEv.int _ _) Z) (ap (.int .i64 (IntKind.wrap .i64 (s1551.i + 1))) Z Z Z (pu_assign Z (tm Z)) (aops_nil ?_))))
     obtain rfl := some_of h
     exact ⟨_, (), Z, Weak.mkL [0, 1] (by decide) ⟨⟨_, Z, (CellsLe.refl _), Z⟩, ⟨_, Z, (CellsLe.refl _), Z⟩, trivial⟩ ⟨AEv.tmp Z, AEv.tmp Z, AEv.tmp Z, (AEv.le (tm Z) (AV.Le.refl _)), trivial⟩⟩
    ·have h := s1691e
     refine aw_block (aw_seq (aw_seq (aw_region (ap (.str s_) Z Z Z (pu_move Z (tm Z)) (ap (.int .i64 s1551.i) Z Z Z (pu_move Z (tm Z)) ?_)))))
     obtain ⟨c1627, h⟩ := need_of h
     refine ap (.int .u8 (bix s_ s1551.i)) Z Z Z (pu_strIdxM Z underlying9 (tm Z) (tm Z) c1627) (ap (.bool (!decide ((bix s_ s1551.i) = 10))) Z Z Z (pu_int (v := .bool (!decide ((bix s_ s1551.i) = 10))) Z Z (tm Z) (AEv.int _ _) Z) (aops_nil (aw_cond (b := (!decide ((bix s_ s1551.i) = 10))) (tm Z) (fun hb1690 => ?_) (fun hb1690 => ?_))))
     ·replace h := ite_f (ndec_t hb1690) h
      refine aw_exit ?_
      exact ⟨(), (), (some_of h).symm, Weak.mkL [0, 1] (by decide) ⟨⟨_, Z, (CellsLe.refl _), Z⟩, ⟨_, Z, (CellsLe.refl _), Z⟩, trivial⟩ ⟨AEv.tmp Z, AEv.tmp Z, AEv.tmp Z, AEv.tmp Z, trivial⟩⟩
     ·replace h := ite_t (ndec_f hb1690) h
      refine aw_skip (aw_seq (aw_region (ap (.str s_) Z Z Z (pu_move Z (tm Z)) (ap (.int .i64 s1551.i) Z Z Z (pu_move Z (tm Z)) ?_))))
      obtain ⟨c1628, h⟩ := need_of h
      refine ap (.str (sub s_ 0 s1551.i)) Z Z Z (pu_strSliceM Z underlying9 (tm Z) Z ⟨_, (tm Z)⟩ c1628) (ap (.str (sub s_ 0 s1551.i)) Z Z Z (pu_assign Z (tm Z)) (aops_nil ?_))
      obtain ⟨s1639, s1639e, h1640⟩ := bind_some h
      refine aw_meet (ν := Unit) (fun v => [(3, .ptr p848 0), (4, .ptr p849 0), (6, .int .i64 s1551.i), (7, .str s1639)]) (fun v => [(p848, .cells [.int .i64 l.Args, .int .i64 l.Bulk, .int .i64 l.Line]), (p849, .cells [.str ([] : List UInt8), .sl .full 1 (([] : List (List UInt8)).map AV.str), .int .i64 0, .int .i64 0, .bool false, .int .i64 0, .int .i64 0])]) ?_ ?_
      ·have h := s1639e
       obtain ⟨s1644, s1644e, h1645⟩ := bind_some h
       refine aw_meet (ν := Unit) (fun v => [(3, .ptr p848 0), (4, .ptr p849 0), (6, .int .i64 s1551.i), (7, .str (sub s_ 0 s1551.i)), (38, .bool s1644)]) (fun v => [(p848, .cells [.int .i64 l.Args, .int .i64 l.Bulk, .int .i64 l.Line]), (p849, .cells [.str ([] : List UInt8), .sl .full 1 (([] : List (List UInt8)).map AV.str), .int .i64 0, .int .i64 0, .bool false, .int .i64 0, .int .i64 0])]) ?_ ?_
       ·have h := s1644e
        refine aw_region (ap (.int .i64 s1551.i) Z Z Z (pu_move Z (tm Z)) (ap (.bool (decide (0 < s1551.i))) Z Z Z (pu_int (v := .bool (decide (0 < s1551.i))) Z Z (tm Z) (AEv.int _ _) Z) (ap (.bool (decide (0 < s1551.i))) Z Z Z (pu_move Z (tm Z)) ?_)))
        rcases Bool.eq_false_or_eq_true (decide (0 < s1551.i)) with hb1647 | hb1647
        ·replace h := ite_t (dec_t hb1647) h
         refine aops_known 32 Z hb1647 (agp (.str (sub s_ 0 s1551.i)) Z Z Z Z Z Z Z (pu_move Z (tm Z)) (agp (.int .i64 s1551.i) Z Z Z Z Z Z Z (pu_move Z (tm Z)) (agp (.int .i64 (IntKind.wrap .i64 (s1551.i - 1))) Z Z Z Z Z Z Z (pu_int (v := .int .i64 (IntKind.wrap .i64 (s1551.i - 1))) Z Z (tm Z) (AEv.int _ _) Z) ?_)))
         obtain ⟨c1648, h⟩ := need_of h
         refine agp (.int .u8 (bix (sub s_ 0 s1551.i) (IntKind.wrap .i64 (s1551.i - 1)))) Z Z Z Z Z Z Z (pu_strIdxM Z underlying9 (tm Z) (tm Z) c1648) (agp (.bool (decide ((bix (sub s_ 0 s1551.i) (IntKind.wrap .i64 (s1551.i - 1))) = 13))) Z Z Z Z Z Z Z (pu_int (v := .bool (decide ((bix (sub s_ 0 s1551.i) (IntKind.wrap .i64 (s1551.i - 1))) = 13))) Z Z (tm Z) (AEv.int _ _) Z) (ap (.bool (decide ((bix (sub s_ 0 s1551.i) (IntKind.wrap .i64 (s1551.i - 1))) = 13))) Z Z Z (pu_pick (b := true) Z (tm Z) (fun _ => (tm Z)) (fun h => nomatch h)) (aops_nil ?_)))
         obtain rfl := some_of h
         exact ⟨(), Weak.mkL [0, 1] (by decide) ⟨⟨_, Z, (CellsLe.refl _), Z⟩, ⟨_, Z, (CellsLe.refl _), Z⟩, trivial⟩ ⟨AEv.tmp Z, AEv.tmp Z, AEv.tmp Z, AEv.tmp Z, (AEv.le (tm Z) (AV.Le.refl _)), trivial⟩⟩
        ·replace h := ite_f (dec_f hb1647) h
         refine aops_known 32 Z hb1647 (an Z Z Z Z Z Z Z Z (an Z Z Z Z Z Z Z Z (an Z Z Z Z Z Z Z Z (an Z Z Z Z Z Z Z Z (an Z Z Z Z Z Z Z Z (ap (.bool false) Z Z Z (pu_pick (b := false) Z (tm Z) (fun h => nomatch h) (fun _ => (AEv.bool _))) (aops_nil ?_)))))))
         obtain rfl := some_of h
         exact ⟨(), Weak.mkL [0, 1] (by decide) ⟨⟨_, Z, (CellsLe.refl _), Z⟩, ⟨_, Z, (CellsLe.refl _), Z⟩, trivial⟩ ⟨AEv.tmp Z, AEv.tmp Z, AEv.tmp Z, AEv.tmp Z, AEv.tmp Z, trivial⟩⟩
       ·intro _
        have h := h1645
        refine aw_cond (b := s1644) (tm Z) (fun hb1651 => ?_) (fun hb1651 => ?_)
        ·replace h := ite_t hb1651 h
         refine aw_region (ap (.str (sub s_ 0 s1551.i)) Z Z Z (pu_move Z (tm Z)) (ap (.int .i64 s1551.i) Z Z Z (pu_move Z (tm Z)) (ap (.int .i64 (IntKind.wrap .i64 (s1551.i - 1))) Z Z Z (pu_int (v := .int .i64 (IntKind.wrap .i64 (s1551.i - 1))) Z Z (tm Z) (AEv.int _ _) Z) ?_)))
         obtain ⟨c1649, h⟩ := need_of h
         obtain ⟨x1650, x1650e, h⟩ := letO_of h
         refine ap (.str x1650) Z Z Z (APure.eq (pu_strSliceM Z underlying9 (tm Z) Z ⟨_, (tm Z)⟩ c1649) (congrArg (AV.str) x1650e.symm)) (ap (.str x1650) Z Z Z (pu_assign Z (tm Z)) (aops_nil ?_))
         obtain rfl := some_of h
         exact ⟨(), Weak.mkL [0, 1] (by decide) ⟨⟨_, Z, (CellsLe.refl _), Z⟩, ⟨_, Z, (CellsLe.refl _), Z⟩, trivial⟩ ⟨AEv.tmp Z, AEv.tmp Z, AEv.tmp Z, AEv.tmp Z, trivial⟩⟩
        ·replace h := ite_fb hb1651 h
         refine aw_skip ?_
         obtain rfl := some_of h
         exact ⟨(), Weak.mkL [0, 1] (by decide) ⟨⟨_, Z, (CellsLe.refl _), Z⟩, ⟨_, Z, (CellsLe.refl _), Z⟩, trivial⟩ ⟨AEv.tmp Z, AEv.tmp Z, AEv.tmp Z, (AEv.le (tm Z) (AV.Le.refl _)), trivial⟩⟩
      ·intro _
       have h := h1640
       refine aw_seq (aw_region (ap (.str s1639) Z Z Z (pu_move Z (tm Z)) ?_))
       obtain ⟨r1652, r1652e, h⟩ := bind_some h
       refine ac Z Z Z (op_call (vs := [.str s1639]) (H := []) Z call80 ⟨(tm Z), trivial⟩ (List.Perm.refl _) (mewsref04.Split.ok r1652e) ?_)
       rintro _ _ ⟨t1653, rfl, rfl⟩
       refine ap (.tup [.sl (.own t1653) 1 (r1652.1.map AV.str), .bool r1652.2]) Z Z Z (pu_move Z (tm Z)) (ap (.sl (.own t1653) 1 (r1652.1.map AV.str)) Z Z Z (pu_extract Z (tm Z) (Nat.le_of_ble_eq_true Z) Z) (ap (.bool r1652.2) Z Z Z (pu_extract Z (tm Z) (Nat.le_of_ble_eq_true Z) Z) (ap (.sl (.own t1653) 1 (r1652.1.map AV.str)) Z Z Z (pu_assign Z (tm Z)) (ap (.bool r1652.2) Z Z Z (pu_assign Z (tm Z)) (aops_nil (aw_seq (aw_seq (aw_region (ap (.bool r1652.2) Z Z Z (pu_move Z (tm Z)) ?_)))))))))
       refine ap (.bool (!r1652.2)) Z Z Z (pu_not Z (tm Z)) (aops_nil (aw_cond (b := (!r1652.2)) (tm Z) (fun hb1689 => ?_) (fun hb1689 => ?_)))
       ·replace h := ite_t hb1689 h
        refine aw_seq (aw_region (ap (.agg [.str ([] : List UInt8), .sl .full 1 (([] : List (List UInt8)).map AV.str), .int .i64 0, .int .i64 0, .bool false, .int .i64 0, .int .i64 0]) Z Z Z (pu_build (zs := [.str ([] : List UInt8), .sl .full 1 (([] : List (List UInt8)).map AV.str), .int .i64 0, .int .i64 0, .bool false, .int .i64 0, .int .i64 0]) (szs := [1, 1, 1, 1, 1, 1, 1]) (aparts := []) (cs := [.str ([] : List UInt8), .sl .full 1 (([] : List (List UInt8)).map AV.str), .int .i64 0, .int .i64 0, .bool false, .int .i64 0, .int .i64 0]) Z underlying29 zeroValue29 Z ⟨sizeOf9, sizeOf26, sizeOf3, sizeOf3, sizeOf4, sizeOf3, sizeOf27, trivial⟩ trivial Z) (ac0 Z Z (op_store (i := 2) (cs' := [.str ([] : List UInt8), .sl .full 1 (([] : List (List UInt8)).map AV.str), .int .i64 0, .int .i64 0, .bool false, .int .i64 0, .int .i64 0]) Z sizeOf29 (tm Z) (v := .agg [.str ([] : List UInt8), .sl .full 1 (([] : List (List UInt8)).map AV.str), .int .i64 0, .int .i64 0, .bool false, .int .i64 0, .int .i64 0]) (tm Z) Z Z Z (Nat.le_of_ble_eq_true Z) Z (ap (.int .i64 16) Z Z Z (pu_assign Z (AEv.int _ _)) (aops_nil (aw_ret ?_)))))))
        obtain rfl := some_of h
        have h := onSum_inr h1625
        obtain rfl := some_of h
        have h := congrArg some (hx1552 _ rfl)
        obtain rfl := some_of h
        have h := onSum_inr h1271
        obtain rfl := some_of h
        exact ⟨[.agg [.str ([] : List UInt8), .sl .full 1 (([] : List (List UInt8)).map AV.str), .int .i64 0, .int .i64 0, .bool false, .int .i64 0, .int .i64 0], .int .i64 16], .tup [.agg [.str ([] : List UInt8), .sl .no 1 (([] : List (List UInt8)).map AV.str), .int .i64 0, .int .i64 0, .bool false, .int .i64 0, .int .i64 0], .int .i64 16], [], ⟨(CellOk.agg 2 (tm Z) Z isAgg29 sizeOf29 (Nat.le_of_ble_eq_true Z) Z), (tm Z), trivial⟩, (AV.Le.tup ⟨(AV.Le.agg ⟨(AV.Le.refl _), (AV.Le.forget _ _ _), (AV.Le.refl _), (AV.Le.refl _), (AV.Le.refl _), (AV.Le.refl _), (AV.Le.refl _), trivial⟩), (AV.Le.refl _), trivial⟩), Weak.mkL [] (by decide) trivial trivial, ⟨Z, Z⟩⟩
       ·replace h := ite_fb hb1689 h
        refine aw_skip (aw_seq (aw_seq (aw_region (ap (.sl (.own t1653) 1 (r1652.1.map AV.str)) Z Z Z (pu_move Z (tm Z)) (ap (.int .i64 (r1652.1.length : Int)) Z Z Z (pu_lenM Z underlying26 (tm Z)) (ap (.ptr p848 0) Z Z Z (pu_fieldAddr Z underlying23 Z sizeOf3 (by decide) (tm Z) Z) (ac Z Z Z (op_load1 (i := 1) Z isAgg3 (tm Z) Z Z (ap (.bool (decide (l.Args < (r1652.1.length : Int)))) Z Z Z (pu_int (v := .bool (decide (l.Args < (r1652.1.length : Int)))) Z Z (tm Z) (tm Z) Z) (aops_nil ?_))))))))))
        refine aw_cond (b := decide (l.Args < (r1652.1.length : Int))) (tm Z) (fun hb1688 => ?_) (fun hb1688 => ?_)
        ·replace h := ite_t (dec_t hb1688) h
         refine aw_seq (aw_region (ap (.agg [.str ([] : List UInt8), .sl .full 1 (([] : List (List UInt8)).map AV.str), .int .i64 0, .int .i64 0, .bool false, .int .i64 0, .int .i64 0]) Z Z Z (pu_build (zs := [.str ([] : List UInt8), .sl .full 1 (([] : List (List UInt8)).map AV.str), .int .i64 0, .int .i64 0, .bool false, .int .i64 0, .int .i64 0]) (szs := [1, 1, 1, 1, 1, 1, 1]) (aparts := []) (cs := [.str ([] : List UInt8), .sl .full 1 (([] : List (List UInt8)).map AV.str), .int .i64 0, .int .i64 0, .bool false, .int .i64 0, .int .i64 0]) Z underlying29 zeroValue29 Z ⟨sizeOf9, sizeOf26, sizeOf3, sizeOf3, sizeOf4, sizeOf3, sizeOf27, trivial⟩ trivial Z) (ac0 Z Z (op_store (i := 2) (cs' := [.str ([] : List UInt8), .sl .full 1 (([] : List (List UInt8)).map AV.str), .int .i64 0, .int .i64 0, .bool false, .int .i64 0, .int .i64 0]) Z sizeOf29 (tm Z) (v := .agg [.str ([] : List UInt8), .sl .full 1 (([] : List (List UInt8)).map AV.str), .int .i64 0, .int .i64 0, .bool false, .int .i64 0, .int .i64 0]) (tm Z) Z Z Z (Nat.le_of_ble_eq_true Z) Z (ap (.int .i64 7) Z Z Z (pu_assign Z (AEv.int _ _)) (aops_nil (aw_ret ?_)))))))
         obtain rfl := some_of h
         have h := onSum_inr h1625
         obtain rfl := some_of h
         have h := congrArg some (hx1552 _ rfl)
         obtain rfl := some_of h
         have h := onSum_inr h1271
         obtain rfl := some_of h
         exact ⟨[.agg [.str ([] : List UInt8), .sl .full 1 (([] : List (List UInt8)).map AV.str), .int .i64 0, .int .i64 0, .bool false, .int .i64 0, .int .i64 0], .int .i64 7], .tup [.agg [.str ([] : List UInt8), .sl .no 1 (([] : List (List UInt8)).map AV.str), .int .i64 0, .int .i64 0, .bool false, .int .i64 0, .int .i64 0], .int .i64 7], [], ⟨(CellOk.agg 2 (tm Z) Z isAgg29 sizeOf29 (Nat.le_of_ble_eq_true Z) Z), (tm Z), trivial⟩, (AV.Le.tup ⟨(AV.Le.agg ⟨(AV.Le.refl _), (AV.Le.forget _ _ _), (AV.Le.refl _), (AV.Le.refl _), (AV.Le.refl _), (AV.Le.refl _), (AV.Le.refl _), trivial⟩), (AV.Le.refl _), trivial⟩), Weak.mkL [] (by decide) trivial trivial, ⟨Z, Z⟩⟩
        ·replace h := ite_f (dec_f hb1688) h
         refine aw_skip ?_
         obtain ⟨s1687, s1687e, h1670⟩ := bind_some h
         refine aw_join (σ := Unit) (ν := Unit) (fun u v => [(4, .ptr p849 0), (6, .int .i64 s1551.i), (8, .sl (.own t1653) 1 (r1652.1.map AV.str))]) (fun u v => [(p849, .cells [.str ([] : List UInt8), .sl .full 1 (([] : List (List UInt8)).map AV.str), .int .i64 0, .int .i64 0, .bool false, .int .i64 0, .int .i64 0]), (t1653, .spare)]) (fun u => s1687 = .inl u) ?_ ?_
         ·intro s1669
          intro _
          rintro rfl
          have h := onSum_inl h1670
          refine aw_seq (aw_region (ap (.sl (.own t1653) 1 (r1652.1.map AV.str)) Z Z Z (pu_move Z (tm Z)) (ap (.int .i64 s1551.i) Z Z Z (pu_move Z (tm Z)) (ap (.int .i64 (IntKind.wrap .i64 (s1551.i + 1))) Z Z Z (pu_int (v := .int .i64 (IntKind.wrap .i64 (s1551.i + 1))) Z Z (tm Z) (AEv.int _ _) Z) (ap (.agg [.str ([] : List UInt8), .sl (.own t1653) 1 (r1652.1.map AV.str), .int .i64 0, .int .i64 (IntKind.wrap .i64 (s1551.i + 1)), .bool false, .int .i64 0, .int .i64 0]) Z Z Z (pu_build (zs := [.str ([] : List UInt8), .sl .full 1 (([] : List (List UInt8)).map AV.str), .int .i64 0, .int .i64 0, .bool false, .int .i64 0, .int .i64 0]) (szs := [1, 1, 1, 1, 1, 1, 1]) (aparts := [(1, .sl (.own t1653) 1 (r1652.1.map AV.str)), (3, .int .i64 (IntKind.wrap .i64 (s1551.i + 1)))]) (cs := [.str ([] : List UInt8), .sl (.own t1653) 1 (r1652.1.map AV.str), .int .i64 0, .int .i64 (IntKind.wrap .i64 (s1551.i + 1)), .bool false, .int .i64 0, .int .i64 0]) Z underlying29 zeroValue29 Z ⟨sizeOf9, sizeOf26, sizeOf3, sizeOf3, sizeOf4, sizeOf3, sizeOf27, trivial⟩ ⟨Z, (tm Z), ⟨Z, (tm Z), trivial⟩⟩ Z) (ac0 Z Z (op_store (i := 0) (cs' := [.str ([] : List UInt8), .sl (.own t1653) 1 (r1652.1.map AV.str), .int .i64 0, .int .i64 (IntKind.wrap .i64 (s1551.i + 1)), .bool false, .int .i64 0, .int .i64 0]) Z sizeOf29 (tm Z) (v := .agg [.str ([] : List UInt8), .sl (.own t1653) 1 (r1652.1.map AV.str), .int .i64 0, .int .i64 (IntKind.wrap .i64 (s1551.i + 1)), .bool false, .int .i64 0, .int .i64 0]) (tm Z) Z Z Z (Nat.le_of_ble_eq_true Z) Z (ap (.int .i64 0) Z Z Z (pu_assign Z (AEv.int _ _)) (aops_nil (aw_ret ?_))))))))))
          obtain rfl := some_of h
          have h := onSum_inr h1625
          obtain rfl := some_of h
          have h := congrArg some (hx1552 _ rfl)
          obtain rfl := some_of h
          have h := onSum_inr h1271
          obtain rfl := some_of h
          exact ⟨[.agg [.str ([] : List UInt8), .sl (.own t1653) 1 (r1652.1.map AV.str), .int .i64 0, .int .i64 (IntKind.wrap .i64 (s1551.i + 1)), .bool false, .int .i64 0, .int .i64 0], .int .i64 0], .tup [.agg [.str ([] : List UInt8), .sl .no 1 (r1652.1.map AV.str), .int .i64 0, .int .i64 (IntKind.wrap .i64 (s1551.i + 1)), .bool false, .int .i64 0, .int .i64 0], .int .i64 0], [], ⟨(CellOk.agg 0 (tm Z) Z isAgg29 sizeOf29 (Nat.le_of_ble_eq_true Z) Z), (tm Z), trivial⟩, (AV.Le.tup ⟨(AV.Le.agg ⟨(AV.Le.refl _), (AV.Le.forget _ _ _), (AV.Le.refl _), (AV.Le.refl _), (AV.Le.refl _), (AV.Le.refl _), (AV.Le.refl _), trivial⟩), (AV.Le.refl _), trivial⟩), Weak.mkL [] (by decide) trivial trivial, ⟨Z, Z⟩⟩
         ·have h := s1687e
          refine aw_seq (aw_region (ap (.int .i64 0) Z Z Z (pu_assign Z (AEv.int _ _)) (aops_nil (aw_block (aw_while (σ := mewsref05.one.S2) (ν := Unit) (mewsref05.one.body2 r1652 l) (fun s1680 v => [(3, .ptr p848 0), (4, .ptr p849 0), (6, .int .i64 s1551.i), (8, .sl (.own t1653) 1 (r1652.1.map AV.str)), (10, .int .i64 s1680.k)]) (fun s1680 v => [(p848, .cells [.int .i64 l.Args, .int .i64 l.Bulk, .int .i64 l.Line]), (p849, .cells [.str ([] : List UInt8), .sl .full 1 (([] : List (List UInt8)).map AV.str), .int .i64 0, .int .i64 0, .bool false, .int .i64 0, .int .i64 0]), (t1653, .spare)]) ⟨0⟩ () _ h (Weak.mkL [1, 2, 0] (by decide) ⟨⟨_, Z, (CellsLe.refl _), Z⟩, ⟨_, Z, (CellsLe.refl _), Z⟩, ⟨_, Z, Z⟩, trivial⟩ ⟨AEv.tmp Z, AEv.tmp Z, AEv.tmp Z, AEv.tmp Z, AEv.tmp Z, trivial⟩) ?_)))))
          rintro s1680 _ x1682 h hx1681
          unfold mewsref05.one.body2 at h
          refine aw_seq (aw_seq (aw_region (ap (.int .i64 s1680.k) Z Z Z (pu_move Z (tm Z)) (ap (.sl (.own t1653) 1 (r1652.1.map AV.str)) Z Z Z (pu_move Z (tm Z)) (ap (.int .i64 (r1652.1.length : Int)) Z Z Z (pu_lenM Z underlying26 (tm Z)) (ap (.bool (decide (s1680.k < (r1652.1.length : Int)))) Z Z Z (pu_int (v := .bool (decide (s1680.k < (r1652.1.length : Int)))) Z Z (tm Z) (tm Z) Z) (aops_nil (aw_cond (b := decide (s1680.k < (r1652.1.length : Int))) (tm Z) (fun hb1686 => ?_) (fun hb1686 => ?_)))))))))
          ·replace h := ite_t (dec_t hb1686) h
           refine aw_skip (aw_seq (aw_block (aw_seq ?_)))
           obtain ⟨c1684, h⟩ := need_of h
           refine aw_plan (by decide +kernel) [([], some 63, [8]), ([], some 64, [10]), ([0, 1], some 65, [63, 64]), ([2], some 66, [65]), ([3], some 67, [66]), ([], some 68, [3]), ([5], some 69, [68]), ([4, 6], some 70, [67, 69])] Z [[], [], [0, 1], [0, 1, 2], [0, 1, 2, 3], [], [5], [0, 1, 2, 3, 4, 5, 6]] [[], [], [], [], [], [], [(0, 0, false)], []] [[], [], []] [[[(p848, .cells [.int .i64 l.Args, .int .i64 l.Bulk, .int .i64 l.Line])]], [[(p849, .cells [.str ([] : List UInt8), .sl .full 1 (([] : List (List UInt8)).map AV.str), .int .i64 0, .int .i64 0, .bool false, .int .i64 0, .int .i64 0])]], [[(t1653, .spare)]]] [.sl (.own t1653) 1 (r1652.1.map AV.str), .int .i64 s1680.k, .vptr [.str (ix r1652.1 s1680.k)], .str (ix r1652.1 s1680.k), .int .i64 ((ix r1652.1 s1680.k).length : Int), .ptr p848 1, .int .i64 l.Bulk, .bool (decide (l.Bulk < ((ix r1652.1 s1680.k).length : Int)))] (by decide +kernel) Z Z ?_ ?_
           ·refine ⟨⟨[8], Z, stepg_pure Z (pu_move Z (tm Z))⟩, ?_⟩
            refine ⟨⟨[10], Z, stepg_pure Z (pu_move Z (tm Z))⟩, ?_⟩
            refine ⟨⟨[63, 64], Z, stepg_pure Z (pu_indexAddrM Z underlying26 sizeOf9 (tm Z) (tm Z) c1684 Z)⟩, ?_⟩
            refine ⟨⟨[65], Z, stepg_plain Z (op_loadV1 Z isAgg9 (tm Z) Z ⟨Z, Z⟩)⟩, ?_⟩
            refine ⟨⟨[66], Z, stepg_pure Z (pu_strLen Z underlying9 (tm Z))⟩, ?_⟩
            refine ⟨⟨[3], Z, stepg_pure Z (pu_fieldAddr Z underlying23 Z sizeOf3 (by decide) (tm Z) Z)⟩, ?_⟩
            refine ⟨⟨[68], Z, stepg_plain Z (op_load1 (i := 0) Z isAgg3 (tm Z) Z Z ⟨Z, Z⟩)⟩, ?_⟩
            refine ⟨⟨[67, 69], Z, stepg_pure Z (pu_int (v := .bool (decide (l.Bulk < ((ix r1652.1 s1680.k).length : Int)))) Z Z (tm Z) (tm Z) Z)⟩, ?_⟩
            trivial
           refine aw_cond (b := decide (l.Bulk < ((ix r1652.1 s1680.k).length : Int))) (tm Z) (fun hb1685 => ?_) (fun hb1685 => ?_)
           ·replace h := ite_t (dec_t hb1685) h
            refine aw_seq (aw_region (ap (.agg [.str ([] : List UInt8), .sl .full 1 (([] : List (List UInt8)).map AV.str), .int .i64 0, .int .i64 0, .bool false, .int .i64 0, .int .i64 0]) Z Z Z (pu_build (zs := [.str ([] : List UInt8), .sl .full 1 (([] : List (List UInt8)).map AV.str), .int .i64 0, .int .i64 0, .bool false, .int .i64 0, .int .i64 0]) (szs := [1, 1, 1, 1, 1, 1, 1]) (aparts := []) (cs := [.str ([] : List UInt8), .sl .full 1 (([] : List (List UInt8)).map AV.str), .int .i64 0, .int .i64 0, .bool false, .int .i64 0, .int .i64 0]) Z underlying29 zeroValue29 Z ⟨sizeOf9, sizeOf26, sizeOf3, sizeOf3, sizeOf4, sizeOf3, sizeOf27, trivial⟩ trivial Z) (ac0 Z Z (op_store (i := 1) (cs' := [.str ([] : List UInt8), .sl .full 1 (([] : List (List UInt8)).map AV.str), .int .i64 0, .int .i64 0, .bool false, .int .i64 0, .int .i64 0]) Z sizeOf29 (tm Z) (v := .agg [.str ([] : List UInt8), .sl .full 1 (([] : List (List UInt8)).map AV.str), .int .i64 0, .int .i64 0, .bool false, .int .i64 0, .int .i64 0]) (tm Z) Z Z Z (Nat.le_of_ble_eq_true Z) Z (ap (.int .i64 6) Z Z Z (pu_assign Z (AEv.int _ _)) (aops_nil (aw_ret ?_)))))))
            obtain rfl := some_of h
            have h := congrArg some (hx1681 _ rfl)
            obtain rfl := some_of h
            have h := onSum_inr h1670
            obtain rfl := some_of h
            have h := onSum_inr h1625
            obtain rfl := some_of h
            have h := congrArg some (hx1552 _ rfl)
            obtain rfl := some_of h
            have h := onSum_inr h1271
            obtain rfl := some_of h
            exact ⟨[.agg [.str ([] : List UInt8), .sl .full 1 (([] : List (List UInt8)).map AV.str), .int .i64 0, .int .i64 0, .bool false, .int .i64 0, .int .i64 0], .int .i64 6], .tup [.agg [.str ([] : List UInt8), .sl .no 1 (([] : List (List UInt8)).map AV.str), .int .i64 0, .int .i64 0, .bool false, .int .i64 0, .int .i64 0], .int .i64 6], [], ⟨(CellOk.agg 1 (tm Z) Z isAgg29 sizeOf29 (Nat.le_of_ble_eq_true Z) Z), (tm Z), trivial⟩, (AV.Le.tup ⟨(AV.Le.agg ⟨(AV.Le.refl _), (AV.Le.forget _ _ _), (AV.Le.refl _), (AV.Le.refl _), (AV.Le.refl _), (AV.Le.refl _), (AV.Le.refl _), trivial⟩), (AV.Le.refl _), trivial⟩), Weak.mkL [] (by decide) trivial trivial, ⟨Z, Z⟩⟩
           ·replace h := ite_f (dec_f hb1685) h
            refine aw_skip (aw_region (ap (.int .i64 s1680.k) Z Z Z (pu_move Z (tm Z)) (ap (.int .i64 (IntKind.wrap .i64 (s1680.k + 1))) Z Z Z (pu_int (v := .int .i64 (IntKind.wrap .i64 (s1680.k + 1))) Z Z (tm Z) (AEv.int _ _) Z) (ap (.int .i64 (IntKind.wrap .i64 (s1680.k + 1))) Z Z Z (pu_assign Z (tm Z)) (aops_nil ?_)))))
            obtain rfl := some_of h
            exact ⟨_, (), Z, Weak.mkL [0, 1, 2] (by decide) ⟨⟨_, Z, (CellsLe.refl _), Z⟩, ⟨_, Z, (CellsLe.refl _), Z⟩, ⟨_, Z, Z⟩, trivial⟩ ⟨AEv.tmp Z, AEv.tmp Z, AEv.tmp Z, AEv.tmp Z, (AEv.le (tm Z) (AV.Le.refl _)), trivial⟩⟩
          ·replace h := ite_f (dec_f hb1686) h
           refine aw_exit ?_
           obtain rfl := some_of h
           have h := congrArg some (hx1681 _ rfl)
           exact ⟨(), (), (some_of h).symm, Weak.mkL [1, 2] (by decide) ⟨⟨_, Z, (CellsLe.refl _), Z⟩, ⟨_, Z, Z⟩, trivial⟩ ⟨AEv.tmp Z, AEv.tmp Z, AEv.tmp Z, trivial⟩⟩
   ·replace h := ite_fb hb1692 h
    refine aw_exit ?_
    obtain rfl := some_of h
    have h := congrArg some (hx1552 _ rfl)
    exact ⟨(), (), (some_of h).symm, Weak.mkL [0, 1] (by decide) ⟨⟨_, Z, (CellsLe.refl _), Z⟩, ⟨_, Z, (CellsLe.refl _), Z⟩, trivial⟩ ⟨AEv.tmp Z, AEv.tmp Z, AEv.tmp Z, trivial⟩⟩

theorem mewsref05.All.ok {s_ : List UInt8} {l : api.Limits} {r : api.Input × (List api.Request)} (h : mewsref05.All s_ l = some r) : Go.Lift.Spec prog 16 [.str s_, .agg [.int .i64 l.Args, .int .i64 l.Bulk, .int .i64 l.Line]] [] (fun v H => ∃ n0, v = .tup [.agg [.str r.1.Rest, .sl .no 1 (r.1.Args.map AV.str), .int .i64 r.1.Left, .int .i64 r.1.Size, .bool r.1.Body, .int .i64 r.1.Need, .int .i64 r.1.Dead], .sl (.own n0) 2 (r.2.map api.Request.av)] ∧ H = [(n0, .spare)]) := by
 unfold mewsref05.All at h
 refine Go.Lift.Spec.of_body (rs := [.cell 4 29, .tmp 5]) func16 Z Z (Nat.le_of_ble_eq_true Z) Z (aw_seq (aw_region (ac Z Z Z (op_box (cs := [.int .i64 l.Args, .int .i64 l.Bulk, .int .i64 l.Line]) (v := .agg [.int .i64 l.Args, .int .i64 l.Bulk, .int .i64 l.Line]) Z (tm Z) Z Z ?_))))
 intro p185
 refine ac Z Z Z (op_alloc (cs := [.str ([] : List UInt8), .sl .full 1 (([] : List (List UInt8)).map AV.str), .int .i64 0, .int .i64 0, .bool false, .int .i64 0, .int .i64 0]) (v := .agg [.str ([] : List UInt8), .sl .full 1 (([] : List (List UInt8)).map AV.str), .int .i64 0, .int .i64 0, .bool false, .int .i64 0, .int .i64 0]) Z zeroValue29 Z Z Z ?_)
 intro p186
 refine ap (.sl .full 2 (([] : List api.Request).map api.Request.av)) Z Z Z (pu_assign Z (AEv.nil 2 (by decide))) (aops_nil (aw_seq (aw_region (ac Z Z Z (op_loadN (i := 1) Z isAgg23 sizeOf23 (tm Z) Z (Nat.le_of_ble_eq_true Z) Z ?_)))))
 obtain ⟨r187, r187e, h⟩ := bind_some h
 refine ac Z Z Z (op_call (vs := [.agg [.int .i64 l.Args, .int .i64 l.Bulk, .int .i64 l.Line]]) (H := []) Z call20 ⟨(tm Z), trivial⟩ (List.Perm.refl _) (mewsref05.Limits.ok r187e) ?_)
 rintro _ _ ⟨rfl, rfl⟩
 refine ac0 Z Z (op_store (i := 1) (cs' := [.int .i64 r187.Args, .int .i64 r187.Bulk, .int .i64 r187.Line]) Z sizeOf23 (tm Z) (v := .agg [.int .i64 r187.Args, .int .i64 r187.Bulk, .int .i64 r187.Line]) (tm Z) Z Z Z (Nat.le_of_ble_eq_true Z) Z (aops_nil (aw_seq (aw_region (ap (.sl .full 2 (([] : List api.Request).map api.Request.av)) Z Z Z (pu_assign Z (AEv.nil 2 (by decide))) (aops_nil ?_))))))
 obtain ⟨s368, s368e, h278⟩ := bind_some h
 refine aw_join (σ := List api.Request) (ν := Nat) (fun u v => [(4, .ptr p186 0), (6, .sl (.own v) 2 (u.map api.Request.av))]) (fun u v => [(p186, .cells [.str ([] : List UInt8), .sl .full 1 (([] : List (List UInt8)).map AV.str), .int .i64 0, .int .i64 0, .bool false, .int .i64 0, .int .i64 0]), (v, .spare)]) (fun u => s368 = .inl u) ?_ ?_
 ·intro s276
  intro n277
  rintro rfl
  have h := onSum_inl h278
  refine aw_seq (aw_region (ap (.agg [.str ([] : List UInt8), .sl .full 1 (([] : List (List UInt8)).map AV.str), .int .i64 0, .int .i64 0, .bool false, .int .i64 0, .int .i64 0]) Z Z Z (pu_build (zs := [.str ([] : List UInt8), .sl .full 1 (([] : List (List UInt8)).map AV.str), .int .i64 0, .int .i64 0, .bool false, .int .i64 0, .int .i64 0]) (szs := [1, 1, 1, 1, 1, 1, 1]) (aparts := []) (cs := [.str ([] : List UInt8), .sl .full 1 (([] : List (List UInt8)).map AV.str), .int .i64 0, .int .i64 0, .bool false, .int .i64 0, .int .i64 0]) Z underlying29 zeroValue29 Z ⟨sizeOf9, sizeOf26, sizeOf3, sizeOf3, sizeOf4, sizeOf3, sizeOf27, trivial⟩ trivial Z) (ap (.sl (.own n277) 2 (s276.map api.Request.av)) Z Z Z (pu_move Z (tm Z)) (ac0 Z Z (op_store (i := 0) (cs' := [.str ([] : List UInt8), .sl .full 1 (([] : List (List UInt8)).map AV.str), .int .i64 0, .int .i64 0, .bool false, .int .i64 0, .int .i64 0]) Z sizeOf29 (tm Z) (v := .agg [.str ([] : List UInt8), .sl .full 1 (([] : List (List UInt8)).map AV.str), .int .i64 0, .int .i64 0, .bool false, .int .i64 0, .int .i64 0]) (tm Z) Z Z Z (Nat.le_of_ble_eq_true Z) Z (ap (.sl (.own n277) 2 (s276.map api.Request.av)) Z Z Z (pu_assign Z (tm Z)) (aops_nil (aw_ret ?_))))))))
  obtain rfl := some_of h
  exact ⟨[.agg [.str ([] : List UInt8), .sl .full 1 (([] : List (List UInt8)).map AV.str), .int .i64 0, .int .i64 0, .bool false, .int .i64 0, .int .i64 0], .sl (.own n277) 2 (s276.map api.Request.av)], .tup [.agg [.str ([] : List UInt8), .sl .no 1 (([] : List (List UInt8)).map AV.str), .int .i64 0, .int .i64 0, .bool false, .int .i64 0, .int .i64 0], .sl (.own n277) 2 (s276.map api.Request.av)], [(n277, .spare)], ⟨(CellOk.agg 0 (tm Z) Z isAgg29 sizeOf29 (Nat.le_of_ble_eq_true Z) Z), (tm Z), trivial⟩, (AV.Le.tup ⟨(AV.Le.agg ⟨(AV.Le.refl _), (AV.Le.forget _ _ _), (AV.Le.refl _), (AV.Le.refl _), (AV.Le.refl _), (AV.Le.refl _), (AV.Le.refl _), trivial⟩), (AV.Le.refl _), trivial⟩), Weak.mkL [1] (by decide) ⟨⟨_, Z, Z⟩, trivial⟩ trivial, ⟨n277, Z, Z⟩⟩
 ·have h := s368e
  refine aw_block (aw_claim 6 (tm Z) fun t367 => (aw_while (σ := mewsref05.All.S0) (ν := Nat) (mewsref05.All.body0 r187) (fun s336 v => [(0, .str s336.s), (3, .ptr p185 0), (4, .ptr p186 0), (6, .sl (.own v) 2 (s336.out.map api.Request.av))]) (fun s336 v => [(p185, .cells [.int .i64 r187.Args, .int .i64 r187.Bulk, .int .i64 r187.Line]), (p186, .cells [.str ([] : List UInt8), .sl .full 1 (([] : List (List UInt8)).map AV.str), .int .i64 0, .int .i64 0, .bool false, .int .i64 0, .int .i64 0]), (v, .spare)]) ⟨s_, ([] : List api.Request)⟩ t367 _ h (Weak.mkL [2, 1, 0] (by decide) ⟨⟨_, Z, (CellsLe.refl _), Z⟩, ⟨_, Z, (CellsLe.refl _), Z⟩, ⟨_, Z, Z⟩, trivial⟩ ⟨AEv.tmp Z, AEv.tmp Z, AEv.tmp Z, AEv.tmp Z, trivial⟩) ?_))
  rintro s336 n337 x339 h hx338
  unfold mewsref05.All.body0 at h
  refine aw_seq (aw_seq (aw_region (ap (.str s336.s) Z Z Z (pu_move Z (tm Z)) (ap (.bool (!decide (s336.s = ([] : List UInt8)))) Z Z Z (pu_str (v := .bool (!decide (s336.s = ([] : List UInt8)))) Z Z (tm Z) (AEv.const Z) Z) (aops_nil (aw_cond (b := (!decide (s336.s = ([] : List UInt8)))) (tm Z) (fun hb366 => ?_) (fun hb366 => ?_)))))))
  ·replace h := ite_f (ndec_t hb366) h
   refine aw_skip (aw_block (aw_seq (aw_region (ap (.agg [.str ([] : List UInt8), .sl .full 1 (([] : List (List UInt8)).map AV.str), .int .i64 0, .int .i64 0, .bool false, .int .i64 0, .int .i64 0]) Z Z Z (pu_build (zs := [.str ([] : List UInt8), .sl .full 1 (([] : List (List UInt8)).map AV.str), .int .i64 0, .int .i64 0, .bool false, .int .i64 0, .int .i64 0]) (szs := [1, 1, 1, 1, 1, 1, 1]) (aparts := []) (cs := [.str ([] : List UInt8), .sl .full 1 (([] : List (List UInt8)).map AV.str), .int .i64 0, .int .i64 0, .bool false, .int .i64 0, .int .i64 0]) Z underlying29 zeroValue29 Z ⟨sizeOf9, sizeOf26, sizeOf3, sizeOf3, sizeOf4, sizeOf3, sizeOf27, trivial⟩ trivial Z) (ac Z Z Z (op_alloc (cs := [.str ([] : List UInt8), .sl .full 1 (([] : List (List UInt8)).map AV.str), .int .i64 0, .int .i64 0, .bool false, .int .i64 0, .int .i64 0]) (v := .agg [.str ([] : List UInt8), .sl .full 1 (([] : List (List UInt8)).map AV.str), .int .i64 0, .int .i64 0, .bool false, .int .i64 0, .int .i64 0]) Z zeroValue29 Z Z Z ?_))))))
   intro p341
   refine ac0 Z Z (op_store (i := 0) (cs' := [.str ([] : List UInt8), .sl .full 1 (([] : List (List UInt8)).map AV.str), .int .i64 0, .int .i64 0, .bool false, .int .i64 0, .int .i64 0]) Z sizeOf29 (tm Z) (v := .agg [.str ([] : List UInt8), .sl .full 1 (([] : List (List UInt8)).map AV.str), .int .i64 0, .int .i64 0, .bool false, .int .i64 0, .int .i64 0]) (tm Z) Z Z Z (Nat.le_of_ble_eq_true Z) Z (ap (.int .i64 0) Z Z Z (pu_assign Z (AEv.int _ _)) (aops_nil ?_)))
   obtain ⟨s346, s346e, h347⟩ := bind_some h
   refine aw_meet (ν := Unit) (fun v => [(0, .str s336.s), (3, .ptr p185 0), (4, .ptr p186 0), (6, .sl (.own n337) 2 (s336.out.map api.Request.av)), (7, .ptr p341 0), (8, .int .i64 s346.1)]) (fun v => [(p185, .cells [.int .i64 r187.Args, .int .i64 r187.Bulk, .int .i64 r187.Line]), (p186, .cells [.str ([] : List UInt8), .sl .full 1 (([] : List (List UInt8)).map AV.str), .int .i64 0, .int .i64 0, .bool false, .int .i64 0, .int .i64 0]), (n337, .spare), (p341, .cells [.str s346.2.1, .sl .no 1 (s346.2.2.1.map AV.str), .int .i64 s346.2.2.2.1, .int .i64 s346.2.2.2.2.1, .bool s346.2.2.2.2.2.1, .int .i64 s346.2.2.2.2.2.2.1, .int .i64 s346.2.2.2.2.2.2.2])]) ?_ ?_
   ·have h := s346e
    refine aw_seq (aw_region (ap (.str s336.s) Z Z Z (pu_move Z (tm Z)) ?_))
    obtain ⟨c349, h⟩ := need_of h
    refine ap (.int .u8 (bix s336.s 0)) Z Z Z (pu_strIdxM Z underlying9 (tm Z) (AEv.int _ _) c349) (ap (.bool (decide ((bix s336.s 0) = 42))) Z Z Z (pu_int (v := .bool (decide ((bix s336.s 0) = 42))) Z Z (tm Z) (AEv.int _ _) Z) (aops_nil (aw_cond (b := decide ((bix s336.s 0) = 42)) (tm Z) (fun hb352 => ?_) (fun hb352 => ?_))))
    ·replace h := ite_t (dec_t hb352) h
     refine aw_region (ap (.str s336.s) Z Z Z (pu_move Z (tm Z)) (ac Z Z Z (op_loadN (i := 1) Z isAgg23 sizeOf23 (tm Z) Z (Nat.le_of_ble_eq_true Z) Z ?_)))
     obtain ⟨r350, r350e, h⟩ := bind_some h
     refine ac Z Z Z (op_call (vs := [.str s336.s, .agg [.int .i64 r187.Args, .int .i64 r187.Bulk, .int .i64 r187.Line]]) (H := []) Z call53 ⟨(tm Z), (tm Z), trivial⟩ (List.Perm.refl _) (mewsref05.many.ok r350e) ?_)
     rintro _ _ ⟨rfl, rfl⟩
     refine ap (.tup [.agg (api.Input.ct .no r350.1), .int .i64 r350.2]) Z Z Z (pu_move Z (tm Z)) (ap (.agg (api.Input.ct .no r350.1)) Z Z Z (pu_extract Z (tm Z) (Nat.le_of_ble_eq_true Z) Z) (ap (.int .i64 r350.2) Z Z Z (pu_extract Z (tm Z) (Nat.le_of_ble_eq_true Z) Z) (ac0 Z Z (op_store (i := 0) (cs' := (api.Input.ct .no r350.1)) Z sizeOf29 (tm Z) (v := .agg (api.Input.ct .no r350.1)) (tm Z) Z Z Z (Nat.le_of_ble_eq_true Z) Z (ap (.int .i64 r350.2) Z Z Z (pu_assign Z (tm Z)) (aops_nil ?_))))))
     obtain rfl := some_of h
     exact ⟨(), Weak.mkL [1, 2, 3, 0] (by decide) ⟨⟨_, Z, (CellsLe.refl _), Z⟩, ⟨_, Z, (CellsLe.refl _), Z⟩, ⟨_, Z, Z⟩, ⟨_, Z, (CellsLe.refl _), Z⟩, trivial⟩ ⟨AEv.tmp Z, AEv.tmp Z, AEv.tmp Z, AEv.tmp Z, AEv.tmp Z, AEv.tmp Z, trivial⟩⟩
    ·replace h := ite_f (dec_f hb352) h
     refine aw_region (ap (.str s336.s) Z Z Z (pu_move Z (tm Z)) (ac Z Z Z (op_loadN (i := 1) Z isAgg23 sizeOf23 (tm Z) Z (Nat.le_of_ble_eq_true Z) Z ?_)))
     obtain ⟨r351, r351e, h⟩ := bind_some h
     refine ac Z Z Z (op_call (vs := [.str s336.s, .agg [.int .i64 r187.Args, .int .i64 r187.Bulk, .int .i64 r187.Line]]) (H := []) Z call54 ⟨(tm Z), (tm Z), trivial⟩ (List.Perm.refl _) (mewsref05.one.ok r351e) ?_)
     rintro _ _ ⟨rfl, rfl⟩
     refine ap (.tup [.agg (api.Input.ct .no r351.1), .int .i64 r351.2]) Z Z Z (pu_move Z (tm Z)) (ap (.agg (api.Input.ct .no r351.1)) Z Z Z (pu_extract Z (tm Z) (Nat.le_of_ble_eq_true Z) Z) (ap (.int .i64 r351.2) Z Z Z (pu_extract Z (tm Z) (Nat.le_of_ble_eq_true Z) Z) (ac0 Z Z (op_store (i := 0) (cs' := (api.Input.ct .no r351.1)) Z sizeOf29 (tm Z) (v := .agg (api.Input.ct .no r351.1)) (tm Z) Z Z Z (Nat.le_of_ble_eq_true Z) Z (ap (.int .i64 r351.2) Z Z Z (pu_assign Z (tm Z)) (aops_nil ?_))))))
     obtain rfl := some_of h
     exact ⟨(), Weak.mkL [1, 2, 3, 0] (by decide) ⟨⟨_, Z, (CellsLe.refl _), Z⟩, ⟨_, Z, (CellsLe.refl _), Z⟩, ⟨_, Z, Z⟩, ⟨_, Z, (CellsLe.refl _), Z⟩, trivial⟩ ⟨AEv.tmp Z, AEv.tmp Z, AEv.tmp Z, AEv.tmp Z, AEv.tmp Z, AEv.tmp Z, trivial⟩⟩
   ·intro _
    have h := h347
    refine aw_seq (aw_seq (aw_region (ap (.int .i64 s346.1) Z Z Z (pu_move Z (tm Z)) (ap (.bool (decide (s346.1 = (-1)))) Z Z Z (pu_int (v := .bool (decide (s346.1 = (-1)))) Z Z (tm Z) (AEv.int _ _) Z) (aops_nil (aw_cond (b := decide (s346.1 = (-1))) (tm Z) (fun hb365 => ?_) (fun hb365 => ?_)))))))
    ·replace h := ite_t (dec_t hb365) h
     refine aw_seq (aw_region (ac Z Z Z (op_loadN (i := 3) Z isAgg29 sizeOf29 (tm Z) Z (Nat.le_of_ble_eq_true Z) Z (ap (.sl (.own n337) 2 (s336.out.map api.Request.av)) Z Z Z (pu_move Z (tm Z)) (ac0 Z Z (op_store (i := 1) (cs' := [.str s346.2.1, .sl .no 1 (s346.2.2.1.map AV.str), .int .i64 s346.2.2.2.1, .int .i64 s346.2.2.2.2.1, .bool s346.2.2.2.2.2.1, .int .i64 s346.2.2.2.2.2.2.1, .int .i64 s346.2.2.2.2.2.2.2]) Z sizeOf29 (tm Z) (v := .agg [.str s346.2.1, .sl .no 1 (s346.2.2.1.map AV.str), .int .i64 s346.2.2.2.1, .int .i64 s346.2.2.2.2.1, .bool s346.2.2.2.2.2.1, .int .i64 s346.2.2.2.2.2.2.1, .int .i64 s346.2.2.2.2.2.2.2]) (tm Z) Z Z Z (Nat.le_of_ble_eq_true Z) Z (ap (.sl (.own n337) 2 (s336.out.map api.Request.av)) Z Z Z (pu_assign Z (tm Z)) (aops_nil (aw_ret ?_)))))))))
     obtain rfl := some_of h
     have h := congrArg some (hx338 _ rfl)
     obtain rfl := some_of h
     have h := onSum_inr h278
     obtain rfl := some_of h
     exact ⟨[.agg [.str s346.2.1, .sl .no 1 (s346.2.2.1.map AV.str), .int .i64 s346.2.2.2.1, .int .i64 s346.2.2.2.2.1, .bool s346.2.2.2.2.2.1, .int .i64 s346.2.2.2.2.2.2.1, .int .i64 s346.2.2.2.2.2.2.2], .sl (.own n337) 2 (s336.out.map api.Request.av)], .tup [.agg [.str s346.2.1, .sl .no 1 (s346.2.2.1.map AV.str), .int .i64 s346.2.2.2.1, .int .i64 s346.2.2.2.2.1, .bool s346.2.2.2.2.2.1, .int .i64 s346.2.2.2.2.2.2.1, .int .i64 s346.2.2.2.2.2.2.2], .sl (.own n337) 2 (s336.out.map api.Request.av)], [(n337, .spare)], ⟨(CellOk.agg 1 (tm Z) Z isAgg29 sizeOf29 (Nat.le_of_ble_eq_true Z) Z), (tm Z), trivial⟩, (AV.Le.tup (CellsLe.refl _)), Weak.mkL [2] (by decide) ⟨⟨_, Z, Z⟩, trivial⟩ trivial, ⟨n337, Z, Z⟩⟩
    ·replace h := ite_f (dec_f hb365) h
     refine aw_skip (aw_seq (aw_seq (aw_region (ap (.int .i64 s346.1) Z Z Z (pu_move Z (tm Z)) (ap (.bool (!decide (s346.1 = 0))) Z Z Z (pu_int (v := .bool (!decide (s346.1 = 0))) Z Z (tm Z) (AEv.int _ _) Z) (aops_nil (aw_cond (b := (!decide (s346.1 = 0))) (tm Z) (fun hb364 => ?_) (fun hb364 => ?_))))))))
     ·replace h := ite_f (ndec_t hb364) h
      refine aw_seq (aw_region (ap (.int .i64 s346.1) Z Z Z (pu_move Z (tm Z)) (ap (.agg [.str ([] : List UInt8), .sl .full 1 (([] : List (List UInt8)).map AV.str), .int .i64 0, .int .i64 0, .bool false, .int .i64 0, .int .i64 s346.1]) Z Z Z (pu_build (zs := [.str ([] : List UInt8), .sl .full 1 (([] : List (List UInt8)).map AV.str), .int .i64 0, .int .i64 0, .bool false, .int .i64 0, .int .i64 0]) (szs := [1, 1, 1, 1, 1, 1, 1]) (aparts := [(6, .int .i64 s346.1)]) (cs := [.str ([] : List UInt8), .sl .full 1 (([] : List (List UInt8)).map AV.str), .int .i64 0, .int .i64 0, .bool false, .int .i64 0, .int .i64 s346.1]) Z underlying29 zeroValue29 Z ⟨sizeOf9, sizeOf26, sizeOf3, sizeOf3, sizeOf4, sizeOf3, sizeOf27, trivial⟩ ⟨Z, (tm Z), trivial⟩ Z) (ap (.sl (.own n337) 2 (s336.out.map api.Request.av)) Z Z Z (pu_move Z (tm Z)) (ac0 Z Z (op_store (i := 1) (cs' := [.str ([] : List UInt8), .sl .full 1 (([] : List (List UInt8)).map AV.str), .int .i64 0, .int .i64 0, .bool false, .int .i64 0, .int .i64 s346.1]) Z sizeOf29 (tm Z) (v := .agg [.str ([] : List UInt8), .sl .full 1 (([] : List (List UInt8)).map AV.str), .int .i64 0, .int .i64 0, .bool false, .int .i64 0, .int .i64 s346.1]) (tm Z) Z Z Z (Nat.le_of_ble_eq_true Z) Z (ap (.sl (.own n337) 2 (s336.out.map api.Request.av)) Z Z Z (pu_assign Z (tm Z)) (aops_nil (aw_ret ?_)))))))))
      obtain rfl := some_of h
      have h := congrArg some (hx338 _ rfl)
      obtain rfl := some_of h
      have h := onSum_inr h278
      obtain rfl := some_of h
      exact ⟨[.agg [.str ([] : List UInt8), .sl .full 1 (([] : List (List UInt8)).map AV.str), .int .i64 0, .int .i64 0, .bool false, .int .i64 0, .int .i64 s346.1], .sl (.own n337) 2 (s336.out.map api.Request.av)], .tup [.agg [.str ([] : List UInt8), .sl .no 1 (([] : List (List UInt8)).map AV.str), .int .i64 0, .int .i64 0, .bool false, .int .i64 0, .int .i64 s346.1], .sl (.own n337) 2 (s336.out.map api.Request.av)], [(n337, .spare)], ⟨(CellOk.agg 1 (tm Z) Z isAgg29 sizeOf29 (Nat.le_of_ble_eq_true Z) Z), (tm Z), trivial⟩, (AV.Le.tup ⟨(AV.Le.agg ⟨(AV.Le.refl _), (AV.Le.forget _ _ _), (AV.Le.refl _), (AV.Le.refl _), (AV.Le.refl _), (AV.Le.refl _), (AV.Le.refl _), trivial⟩), (AV.Le.refl _), trivial⟩), Weak.mkL [2] (by decide) ⟨⟨_, Z, Z⟩, trivial⟩ trivial, ⟨n337, Z, Z⟩⟩
     ·replace h := ite_t (ndec_f hb364) h
      refine aw_skip ?_
      obtain ⟨s356, s356e, h358⟩ := bind_some h
      refine aw_meet (ν := Nat) (fun v => [(0, .str s336.s), (3, .ptr p185 0), (4, .ptr p186 0), (6, .sl (.own v) 2 (s356.map api.Request.av)), (7, .ptr p341 0)]) (fun v => [(p185, .cells [.int .i64 r187.Args, .int .i64 r187.Bulk, .int .i64 r187.Line]), (p186, .cells [.str ([] : List UInt8), .sl .full 1 (([] : List (List UInt8)).map AV.str), .int .i64 0, .int .i64 0, .bool false, .int .i64 0, .int .i64 0]), (v, .spare), (p341, .cells [.str s346.2.1, .sl .no 1 (s346.2.2.1.map AV.str), .int .i64 s346.2.2.2.1, .int .i64 s346.2.2.2.2.1, .bool s346.2.2.2.2.2.1, .int .i64 s346.2.2.2.2.2.2.1, .int .i64 s346.2.2.2.2.2.2.2])]) ?_ ?_
      ·have h := s356e
       refine aw_seq (aw_region (ap (.ptr p341 1) Z Z Z (pu_fieldAddr Z underlying29 Z sizeOf26 (by decide) (tm Z) Z) (ac Z Z Z (op_load1 (i := 3) Z isAgg26 (tm Z) Z Z (ap (.int .i64 (s346.2.2.1.length : Int)) Z Z Z (pu_lenM Z underlying26 (tm Z)) (ap (.bool (decide (0 < (s346.2.2.1.length : Int)))) Z Z Z (pu_int (v := .bool (decide (0 < (s346.2.2.1.length : Int)))) Z Z (tm Z) (AEv.int _ _) Z) (aops_nil (aw_cond (b := decide (0 < (s346.2.2.1.length : Int))) (tm Z) (fun hb362 => ?_) (fun hb362 => ?_)))))))))
       ·replace h := ite_t (dec_t hb362) h
        refine aw_region (ap (.sl (.own n337) 2 (s336.out.map api.Request.av)) Z Z Z (pu_move Z (tm Z)) (ap (.ptr p341 1) Z Z Z (pu_fieldAddr Z underlying29 Z sizeOf26 (by decide) (tm Z) Z) (ac Z Z Z (op_load1 (i := 3) Z isAgg26 (tm Z) Z Z (ap (.ptr p341 3) Z Z Z (pu_fieldAddr Z underlying29 Z sizeOf3 (by decide) (tm Z) Z) (ac Z Z Z (op_load1 (i := 3) Z isAgg3 (tm Z) Z Z (ap (.agg [.sl .no 1 (s346.2.2.1.map AV.str), .int .i64 s346.2.2.2.2.1]) Z Z Z (pu_build (zs := [.sl .full 1 (([] : List (List UInt8)).map AV.str), .int .i64 0]) (szs := [1, 1]) (aparts := [(0, .sl .no 1 (s346.2.2.1.map AV.str)), (1, .int .i64 s346.2.2.2.2.1)]) (cs := [.sl .no 1 (s346.2.2.1.map AV.str), .int .i64 s346.2.2.2.2.1]) Z underlying44 zeroValue44 Z ⟨sizeOf26, sizeOf3, trivial⟩ ⟨Z, (tm Z), ⟨Z, (tm Z), trivial⟩⟩ Z) (ac Z Z Z (op_buildSlice (xs := ([({ Args := s346.2.2.1, Size := s346.2.2.2.2.1 } : api.Request)] : List api.Request).map api.Request.av) (aparts := [(0, .agg [.sl .no 1 (s346.2.2.1.map AV.str), .int .i64 s346.2.2.2.2.1])]) Z underlying30 sizeOf44 zeroValue44 (by decide) (by decide) ⟨Z, (tm Z), trivial⟩ Z Z Z ?_))))))))))
        obtain ⟨c360, h⟩ := need_of h
        refine ac Z Z Z (op_appendOM (q := 2) Z underlying30 underlying30 (.inl Z) typeInfo44 Z Z Z (by decide) (tm Z) Z (given_sl (tm Z)) c360 ?_)
        intro t361
        refine ap (.sl (.own t361) 2 ((s336.out ++ [({ Args := s346.2.2.1, Size := s346.2.2.2.2.1 } : api.Request)]).map api.Request.av)) Z Z Z (pu_assign Z (tm Z)) (aops_nil ?_)
        obtain rfl := some_of h
        exact ⟨t361, Weak.mkL [0, 1, 2, 3] (by decide) ⟨⟨_, Z, (CellsLe.refl _), Z⟩, ⟨_, Z, (CellsLe.refl _), Z⟩, ⟨_, Z, Z⟩, ⟨_, Z, (CellsLe.refl _), Z⟩, trivial⟩ ⟨AEv.tmp Z, AEv.tmp Z, AEv.tmp Z, (AEv.le (tm Z) (AV.Le.refl _)), AEv.tmp Z, trivial⟩⟩
       ·replace h := ite_f (dec_f hb362) h
        refine aw_skip ?_
        obtain rfl := some_of h
        exact ⟨n337, Weak.mkL [0, 1, 2, 3] (by decide) ⟨⟨_, Z, (CellsLe.refl _), Z⟩, ⟨_, Z, (CellsLe.refl _), Z⟩, ⟨_, Z, Z⟩, ⟨_, Z, (CellsLe.refl _), Z⟩, trivial⟩ ⟨AEv.tmp Z, AEv.tmp Z, AEv.tmp Z, AEv.tmp Z, AEv.tmp Z, trivial⟩⟩
      ·intro n357
       have h := h358
       refine aw_region (ap (.str s336.s) Z Z Z (pu_move Z (tm Z)) (ap (.ptr p341 3) Z Z Z (pu_fieldAddr Z underlying29 Z sizeOf3 (by decide) (tm Z) Z) (ac Z Z Z (op_load1 (i := 3) Z isAgg3 (tm Z) Z Z ?_))))
       obtain ⟨c363, h⟩ := need_of h
       refine ap (.str (sub s336.s s346.2.2.2.2.1 (s336.s.length : Int))) Z Z Z (pu_strSliceM Z underlying9 (tm Z) ⟨_, (tm Z)⟩ Z c363) (ap (.str (sub s336.s s346.2.2.2.2.1 (s336.s.length : Int))) Z Z Z (pu_assign Z (tm Z)) (aops_nil ?_))
       obtain rfl := some_of h
       exact ⟨_, n357, Z, Weak.mkL [0, 1, 2] (by decide) ⟨⟨_, Z, (CellsLe.refl _), Z⟩, ⟨_, Z, (CellsLe.refl _), Z⟩, ⟨_, Z, Z⟩, trivial⟩ ⟨(AEv.le (tm Z) (AV.Le.refl _)), AEv.tmp Z, AEv.tmp Z, AEv.tmp Z, trivial⟩⟩
  ·replace h := ite_t (ndec_f hb366) h
   refine aw_exit ?_
   obtain rfl := some_of h
   have h := congrArg some (hx338 _ rfl)
   exact ⟨s336.out, n337, (some_of h).symm, Weak.mkL [1, 2] (by decide) ⟨⟨_, Z, (CellsLe.refl _), Z⟩, ⟨_, Z, Z⟩, trivial⟩ ⟨AEv.tmp Z, AEv.tmp Z, trivial⟩⟩

theorem mewsref05.SameInput.ok {a : api.Input} {b : api.Input} {r : Bool} (h : mewsref05.SameInput a b = some r) : Go.Lift.Spec prog 17 [.agg (api.Input.ct .no a), .agg (api.Input.ct .no b)] [] (fun v H => v = .bool r ∧ H = []) := by
 unfold mewsref05.SameInput at h
 refine Go.Lift.Spec.of_body (rs := [.tmp 4]) func17 Z Z (Nat.le_of_ble_eq_true Z) Z (aw_seq (aw_region (ac Z Z Z (op_box (cs := (api.Input.ct .no a)) (v := .agg (api.Input.ct .no a)) Z (tm Z) Z Z ?_))))
 intro p20
 refine ac Z Z Z (op_box (cs := (api.Input.ct .no b)) (v := .agg (api.Input.ct .no b)) Z (tm Z) Z Z ?_)
 intro p21
 refine ap (.bool false) Z Z Z (pu_assign Z (AEv.bool _)) (aops_nil ?_)
 obtain ⟨s29, s29e, h30⟩ := bind_some h
 refine aw_meet (ν := Unit) (fun v => [(4, .bool s29)]) (fun v => []) ?_ ?_
 ·have h := s29e
  refine aw_region (ap (.ptr p20 0) Z Z Z (pu_fieldAddr Z underlying29 Z sizeOf9 (by decide) (tm Z) Z) (ac Z Z Z (op_load1 (i := 1) Z isAgg9 (tm Z) Z Z (ap (.ptr p21 0) Z Z Z (pu_fieldAddr Z underlying29 Z sizeOf9 (by decide) (tm Z) Z) (ac Z Z Z (op_load1 (i := 0) Z isAgg9 (tm Z) Z Z (ap (.bool (decide (a.Rest = b.Rest))) Z Z Z (pu_str (v := .bool (decide (a.Rest = b.Rest))) Z Z (tm Z) (tm Z) Z) (ap (.bool (decide (a.Rest = b.Rest))) Z Z Z (pu_move Z (tm Z)) ?_))))))))
  rcases Bool.eq_false_or_eq_true (decide (a.Rest = b.Rest)) with hb32 | hb32
  ·replace h := ite_t (dec_t hb32) h
   refine aops_known 10 Z hb32 (agp (.ptr p20 1) Z Z Z Z Z Z Z (pu_fieldAddr Z underlying29 Z sizeOf26 (by decide) (tm Z) Z) (ag Z Z Z Z Z Z Z (op_load1 (i := 1) Z isAgg26 (tm Z) Z Z (agp (.ptr p21 1) Z Z Z Z Z Z Z (pu_fieldAddr Z underlying29 Z sizeOf26 (by decide) (tm Z) Z) (ag Z Z Z Z Z Z Z (op_load1 (i := 0) Z isAgg26 (tm Z) Z Z ?_))))))
   obtain ⟨r33, r33e, h⟩ := bind_some h
   refine ag Z Z Z Z Z Z Z (op_call (vs := [.sl .no 1 (a.Args.map AV.str), .sl .no 1 (b.Args.map AV.str)]) (H := []) Z call55 ⟨(tm Z), (tm Z), trivial⟩ (List.Perm.refl _) (mewsref05.texts.ok r33e) ?_)
   rintro _ _ ⟨rfl, rfl⟩
   refine ap (.bool r33) Z Z Z (pu_pick (b := true) Z (tm Z) (fun _ => (tm Z)) (fun h => nomatch h)) (ap (.bool r33) Z Z Z (pu_move Z (tm Z)) ?_)
   rcases Bool.eq_false_or_eq_true r33 with hb34 | hb34
   ·replace h := ite_t hb34 h
    refine aops_known 17 Z hb34 (agp (.ptr p20 2) Z Z Z Z Z Z Z (pu_fieldAddr Z underlying29 Z sizeOf3 (by decide) (tm Z) Z) (ag Z Z Z Z Z Z Z (op_load1 (i := 1) Z isAgg3 (tm Z) Z Z (agp (.ptr p21 2) Z Z Z Z Z Z Z (pu_fieldAddr Z underlying29 Z sizeOf3 (by decide) (tm Z) Z) (ag Z Z Z Z Z Z Z (op_load1 (i := 0) Z isAgg3 (tm Z) Z Z (agp (.bool (decide (a.Left = b.Left))) Z Z Z Z Z Z Z (pu_int (v := .bool (decide (a.Left = b.Left))) Z Z (tm Z) (tm Z) Z) (ap (.bool (decide (a.Left = b.Left))) Z Z Z (pu_pick (b := true) Z (tm Z) (fun _ => (tm Z)) (fun h => nomatch h)) (ap (.bool (decide (a.Left = b.Left))) Z Z Z (pu_move Z (tm Z)) ?_)))))))))
    rcases Bool.eq_false_or_eq_true (decide (a.Left = b.Left)) with hb35 | hb35
    ·replace h := ite_t (dec_t hb35) h
     refine aops_known 24 Z hb35 (agp (.ptr p20 3) Z Z Z Z Z Z Z (pu_fieldAddr Z underlying29 Z sizeOf3 (by decide) (tm Z) Z) (ag Z Z Z Z Z Z Z (op_load1 (i := 1) Z isAgg3 (tm Z) Z Z (agp (.ptr p21 3) Z Z Z Z Z Z Z (pu_fieldAddr Z underlying29 Z sizeOf3 (by decide) (tm Z) Z) (ag Z Z Z Z Z Z Z (op_load1 (i := 0) Z isAgg3 (tm Z) Z Z (agp (.bool (decide (a.Size = b.Size))) Z Z Z Z Z Z Z (pu_int (v := .bool (decide (a.Size = b.Size))) Z Z (tm Z) (tm Z) Z) (ap (.bool (decide (a.Size = b.Size))) Z Z Z (pu_pick (b := true) Z (tm Z) (fun _ => (tm Z)) (fun h => nomatch h)) (ap (.bool (decide (a.Size = b.Size))) Z Z Z (pu_move Z (tm Z)) ?_)))))))))
     rcases Bool.eq_false_or_eq_true (decide (a.Size = b.Size)) with hb36 | hb36
     ·replace h := ite_t (dec_t hb36) h
      refine aops_known 31 Z hb36 (agp (.ptr p20 4) Z Z Z Z Z Z Z (pu_fieldAddr Z underlying29 Z sizeOf4 (by decide) (tm Z) Z) (ag Z Z Z Z Z Z Z (op_load1 (i := 1) Z isAgg4 (tm Z) Z Z (agp (.ptr p21 4) Z Z Z Z Z Z Z (pu_fieldAddr Z underlying29 Z sizeOf4 (by decide) (tm Z) Z) (ag Z Z Z Z Z Z Z (op_load1 (i := 0) Z isAgg4 (tm Z) Z Z (agp (.bool (a.Body == b.Body)) Z Z Z Z Z Z Z (pu_boolEq Z underlying4 (tm Z) (tm Z)) (ap (.bool (a.Body == b.Body)) Z Z Z (pu_pick (b := true) Z (tm Z) (fun _ => (tm Z)) (fun h => nomatch h)) (ap (.bool (a.Body == b.Body)) Z Z Z (pu_move Z (tm Z)) ?_)))))))))
      rcases Bool.eq_false_or_eq_true (a.Body == b.Body) with hb37 | hb37
      ·replace h := ite_t hb37 h
       refine aops_known 38 Z hb37 (agp (.ptr p20 5) Z Z Z Z Z Z Z (pu_fieldAddr Z underlying29 Z sizeOf3 (by decide) (tm Z) Z) (ag Z Z Z Z Z Z Z (op_load1 (i := 1) Z isAgg3 (tm Z) Z Z (agp (.ptr p21 5) Z Z Z Z Z Z Z (pu_fieldAddr Z underlying29 Z sizeOf3 (by decide) (tm Z) Z) (ag Z Z Z Z Z Z Z (op_load1 (i := 0) Z isAgg3 (tm Z) Z Z (agp (.bool (decide (a.Need = b.Need))) Z Z Z Z Z Z Z (pu_int (v := .bool (decide (a.Need = b.Need))) Z Z (tm Z) (tm Z) Z) (ap (.bool (decide (a.Need = b.Need))) Z Z Z (pu_pick (b := true) Z (tm Z) (fun _ => (tm Z)) (fun h => nomatch h)) (ap (.bool (decide (a.Need = b.Need))) Z Z Z (pu_move Z (tm Z)) ?_)))))))))
       rcases Bool.eq_false_or_eq_true (decide (a.Need = b.Need)) with hb38 | hb38
       ·replace h := ite_t (dec_t hb38) h
        refine aops_known 45 Z hb38 (agp (.ptr p20 6) Z Z Z Z Z Z Z (pu_fieldAddr Z underlying29 Z sizeOf27 (by decide) (tm Z) Z) (ag Z Z Z Z Z Z Z (op_load1 (i := 1) Z isAgg27 (tm Z) Z Z (agp (.ptr p21 6) Z Z Z Z Z Z Z (pu_fieldAddr Z underlying29 Z sizeOf27 (by decide) (tm Z) Z) (ag Z Z Z Z Z Z Z (op_load1 (i := 0) Z isAgg27 (tm Z) Z Z (agp (.bool (decide (a.Dead = b.Dead))) Z Z Z Z Z Z Z (pu_int (v := .bool (decide (a.Dead = b.Dead))) Z Z (tm Z) (tm Z) Z) (ap (.bool (decide (a.Dead = b.Dead))) Z Z Z (pu_pick (b := true) Z (tm Z) (fun _ => (tm Z)) (fun h => nomatch h)) (ap (.bool (decide (a.Dead = b.Dead))) Z Z Z (pu_assign Z (tm Z)) (aops_nil ?_))))))))))
        obtain rfl := some_of h
        exact ⟨(), Weak.mkL [] (by decide) trivial ⟨(AEv.le (tm Z) (AV.Le.refl _)), trivial⟩⟩
       ·replace h := ite_f (dec_f hb38) h
        refine aops_known 45 Z hb38 (an Z Z Z Z Z Z Z Z (an Z Z Z Z Z Z Z Z (an Z Z Z Z Z Z Z Z (an Z Z Z Z Z Z Z Z (an Z Z Z Z Z Z Z Z (ap (.bool false) Z Z Z (pu_pick (b := false) Z (tm Z) (fun h => nomatch h) (fun _ => (AEv.bool _))) (ap (.bool false) Z Z Z (pu_assign Z (tm Z)) (aops_nil ?_))))))))
        obtain rfl := some_of h
        exact ⟨(), Weak.mkL [] (by decide) trivial ⟨AEv.tmp Z, trivial⟩⟩
      ·replace h := ite_fb hb37 h
       refine aops_known 38 Z hb37 (an Z Z Z Z Z Z Z Z (an Z Z Z Z Z Z Z Z (an Z Z Z Z Z Z Z Z (an Z Z Z Z Z Z Z Z (an Z Z Z Z Z Z Z Z (ap (.bool false) Z Z Z (pu_pick (b := false) Z (tm Z) (fun h => nomatch h) (fun _ => (AEv.bool _))) (ap (.bool false) Z Z Z (pu_move Z (tm Z)) (an Z Z Z Z Z Z Z Z (an Z Z Z Z Z Z Z Z ?_)))))))))
       refine an Z Z Z Z Z Z Z Z (an Z Z Z Z Z Z Z Z (an Z Z Z Z Z Z Z Z (ap (.bool false) Z Z Z (pu_pick (b := false) Z (tm Z) (fun h => nomatch h) (fun _ => (AEv.bool _))) (ap (.bool false) Z Z Z (pu_assign Z (tm Z)) (aops_nil ?_)))))
       obtain rfl := some_of h
       exact ⟨(), Weak.mkL [] (by decide) trivial ⟨AEv.tmp Z, trivial⟩⟩
     ·replace h := ite_f (dec_f hb36) h
      refine aops_known 31 Z hb36 (an Z Z Z Z Z Z Z Z (an Z Z Z Z Z Z Z Z (an Z Z Z Z Z Z Z Z (an Z Z Z Z Z Z Z Z (an Z Z Z Z Z Z Z Z (ap (.bool false) Z Z Z (pu_pick (b := false) Z (tm Z) (fun h => nomatch h) (fun _ => (AEv.bool _))) (ap (.bool false) Z Z Z (pu_move Z (tm Z)) (an Z Z Z Z Z Z Z Z (an Z Z Z Z Z Z Z Z ?_)))))))))
      refine an Z Z Z Z Z Z Z Z (an Z Z Z Z Z Z Z Z (an Z Z Z Z Z Z Z Z (ap (.bool false) Z Z Z (pu_pick (b := false) Z (tm Z) (fun h => nomatch h) (fun _ => (AEv.bool _))) (ap (.bool false) Z Z Z (pu_move Z (tm Z)) (an Z Z Z Z Z Z Z Z (an Z Z Z Z Z Z Z Z (an Z Z Z Z Z Z Z Z (an Z Z Z Z Z Z Z Z (an Z Z Z Z Z Z Z Z ?_)))))))))
      refine ap (.bool false) Z Z Z (pu_pick (b := false) Z (tm Z) (fun h => nomatch h) (fun _ => (AEv.bool _))) (ap (.bool false) Z Z Z (pu_assign Z (tm Z)) (aops_nil ?_))
      obtain rfl := some_of h
      exact ⟨(), Weak.mkL [] (by decide) trivial ⟨AEv.tmp Z, trivial⟩⟩
    ·replace h := ite_f (dec_f hb35) h
     refine aops_known 24 Z hb35 (an Z Z Z Z Z Z Z Z (an Z Z Z Z Z Z Z Z (an Z Z Z Z Z Z Z Z (an Z Z Z Z Z Z Z Z (an Z Z Z Z Z Z Z Z (ap (.bool false) Z Z Z (pu_pick (b := false) Z (tm Z) (fun h => nomatch h) (fun _ => (AEv.bool _))) (ap (.bool false) Z Z Z (pu_move Z (tm Z)) (an Z Z Z Z Z Z Z Z (an Z Z Z Z Z Z Z Z ?_)))))))))
     refine an Z Z Z Z Z Z Z Z (an Z Z Z Z Z Z Z Z (an Z Z Z Z Z Z Z Z (ap (.bool false) Z Z Z (pu_pick (b := false) Z (tm Z) (fun h => nomatch h) (fun _ => (AEv.bool _))) (ap (.bool false) Z Z Z (pu_move Z (tm Z)) (an Z Z Z Z Z Z Z Z (an Z Z Z Z Z Z Z Z (an Z Z Z Z Z Z Z Z (an Z Z Z Z Z Z Z Z (an Z Z Z Z Z Z Z Z ?_)))))))))
     refine ap (.bool false) Z Z Z (pu_pick (b := false) Z (tm Z) (fun h => nomatch h) (fun _ => (AEv.bool _))) (ap (.bool false) Z Z Z (pu_move Z (tm Z)) (an Z Z Z Z Z Z Z Z (an Z Z Z Z Z Z Z Z (an Z Z Z Z Z Z Z Z (an Z Z Z Z Z Z Z Z (an Z Z Z Z Z Z Z Z (ap (.bool false) Z Z Z (pu_pick (b := false) Z (tm Z) (fun h => nomatch h) (fun _ => (AEv.bool _))) (ap (.bool false) Z Z Z (pu_assign Z (tm Z)) (aops_nil ?_)))))))))
     obtain rfl := some_of h
     exact ⟨(), Weak.mkL [] (by decide) trivial ⟨AEv.tmp Z, trivial⟩⟩
   ·replace h := ite_fb hb34 h
    refine aops_known 17 Z hb34 (an Z Z Z Z Z Z Z Z (an Z Z Z Z Z Z Z Z (an Z Z Z Z Z Z Z Z (an Z Z Z Z Z Z Z Z (an Z Z Z Z Z Z Z Z (ap (.bool false) Z Z Z (pu_pick (b := false) Z (tm Z) (fun h => nomatch h) (fun _ => (AEv.bool _))) (ap (.bool false) Z Z Z (pu_move Z (tm Z)) (an Z Z Z Z Z Z Z Z (an Z Z Z Z Z Z Z Z ?_)))))))))
    refine an Z Z Z Z Z Z Z Z (an Z Z Z Z Z Z Z Z (an Z Z Z Z Z Z Z Z (ap (.bool false) Z Z Z (pu_pick (b := false) Z (tm Z) (fun h => nomatch h) (fun _ => (AEv.bool _))) (ap (.bool false) Z Z Z (pu_move Z (tm Z)) (an Z Z Z Z Z Z Z Z (an Z Z Z Z Z Z Z Z (an Z Z Z Z Z Z Z Z (an Z Z Z Z Z Z Z Z (an Z Z Z Z Z Z Z Z ?_)))))))))
    refine ap (.bool false) Z Z Z (pu_pick (b := false) Z (tm Z) (fun h => nomatch h) (fun _ => (AEv.bool _))) (ap (.bool false) Z Z Z (pu_move Z (tm Z)) (an Z Z Z Z Z Z Z Z (an Z Z Z Z Z Z Z Z (an Z Z Z Z Z Z Z Z (an Z Z Z Z Z Z Z Z (an Z Z Z Z Z Z Z Z (ap (.bool false) Z Z Z (pu_pick (b := false) Z (tm Z) (fun h => nomatch h) (fun _ => (AEv.bool _))) (ap (.bool false) Z Z Z (pu_move Z (tm Z)) (an Z Z Z Z Z Z Z Z ?_)))))))))
    refine an Z Z Z Z Z Z Z Z (an Z Z Z Z Z Z Z Z (an Z Z Z Z Z Z Z Z (an Z Z Z Z Z Z Z Z (ap (.bool false) Z Z Z (pu_pick (b := false) Z (tm Z) (fun h => nomatch h) (fun _ => (AEv.bool _))) (ap (.bool false) Z Z Z (pu_assign Z (tm Z)) (aops_nil ?_))))))
    obtain rfl := some_of h
    exact ⟨(), Weak.mkL [] (by decide) trivial ⟨AEv.tmp Z, trivial⟩⟩
  ·replace h := ite_f (dec_f hb32) h
   refine aops_known 10 Z hb32 (an Z Z Z Z Z Z Z Z (an Z Z Z Z Z Z Z Z (an Z Z Z Z Z Z Z Z (an Z Z Z Z Z Z Z Z (an Z Z Z Z Z Z Z Z (ap (.bool false) Z Z Z (pu_pick (b := false) Z (tm Z) (fun h => nomatch h) (fun _ => (AEv.bool _))) (ap (.bool false) Z Z Z (pu_move Z (tm Z)) (an Z Z Z Z Z Z Z Z (an Z Z Z Z Z Z Z Z ?_)))))))))
   refine an Z Z Z Z Z Z Z Z (an Z Z Z Z Z Z Z Z (an Z Z Z Z Z Z Z Z (ap (.bool false) Z Z Z (pu_pick (b := false) Z (tm Z) (fun h => nomatch h) (fun _ => (AEv.bool _))) (ap (.bool false) Z Z Z (pu_move Z (tm Z)) (an Z Z Z Z Z Z Z Z (an Z Z Z Z Z Z Z Z (an Z Z Z Z Z Z Z Z (an Z Z Z Z Z Z Z Z (an Z Z Z Z Z Z Z Z ?_)))))))))
   refine ap (.bool false) Z Z Z (pu_pick (b := false) Z (tm Z) (fun h => nomatch h) (fun _ => (AEv.bool _))) (ap (.bool false) Z Z Z (pu_move Z (tm Z)) (an Z Z Z Z Z Z Z Z (an Z Z Z Z Z Z Z Z (an Z Z Z Z Z Z Z Z (an Z Z Z Z Z Z Z Z (an Z Z Z Z Z Z Z Z (ap (.bool false) Z Z Z (pu_pick (b := false) Z (tm Z) (fun h => nomatch h) (fun _ => (AEv.bool _))) (ap (.bool false) Z Z Z (pu_move Z (tm Z)) (an Z Z Z Z Z Z Z Z ?_)))))))))
   refine an Z Z Z Z Z Z Z Z (an Z Z Z Z Z Z Z Z (an Z Z Z Z Z Z Z Z (an Z Z Z Z Z Z Z Z (ap (.bool false) Z Z Z (pu_pick (b := false) Z (tm Z) (fun h => nomatch h) (fun _ => (AEv.bool _))) (ap (.bool false) Z Z Z (pu_move Z (tm Z)) (an Z Z Z Z Z Z Z Z (an Z Z Z Z Z Z Z Z (an Z Z Z Z Z Z Z Z (an Z Z Z Z Z Z Z Z ?_)))))))))
   refine an Z Z Z Z Z Z Z Z (ap (.bool false) Z Z Z (pu_pick (b := false) Z (tm Z) (fun h => nomatch h) (fun _ => (AEv.bool _))) (ap (.bool false) Z Z Z (pu_assign Z (tm Z)) (aops_nil ?_)))
   obtain rfl := some_of h
   exact ⟨(), Weak.mkL [] (by decide) trivial ⟨AEv.tmp Z, trivial⟩⟩
 ·intro _
  have h := h30
  refine aw_ret ?_
  obtain rfl := some_of h
  exact ⟨[.bool s29], _, [], ⟨(tm Z), trivial⟩, (AV.Le.refl _), Weak.mkL [] (by decide) trivial trivial, ⟨Z, Z⟩⟩

theorem mewslaw42.far.ok {c_ : api.Config} {l : List (List UInt8)} {r : Bool} (h : mewslaw42.far c_ l = some r) : Go.Lift.Spec prog 41 [.agg [.sl .no 14 (c_.Tenants.map api.Tenant.av), .int .i64 c_.Quantum, .int .i64 c_.Deadline], .sl .no 1 (l.map AV.str)] [] (fun v H => v = .bool r ∧ H = []) := by
 unfold mewslaw42.far at h
 refine Go.Lift.Spec.of_body (rs := [.tmp 4]) func41 Z Z (Nat.le_of_ble_eq_true Z) Z (aw_seq (aw_region (ac Z Z Z (op_box (cs := [.sl .no 14 (c_.Tenants.map api.Tenant.av), .int .i64 c_.Quantum, .int .i64 c_.Deadline]) (v := .agg [.sl .no 14 (c_.Tenants.map api.Tenant.av), .int .i64 c_.Quantum, .int .i64 c_.Deadline]) Z (tm Z) Z Z ?_))))
 intro p81
 refine ap (.bool false) Z Z Z (pu_assign Z (AEv.bool _)) (aops_nil (aw_seq (aw_region (ap (.int .i64 0) Z Z Z (pu_assign Z (AEv.int _ _)) (aops_nil ?_)))))
 obtain ⟨s160, s160e, h101⟩ := bind_some h
 refine aw_join (σ := Unit) (ν := Unit) (fun u v => [(1, .sl .no 1 (l.map AV.str)), (2, .ptr p81 0)]) (fun u v => [(p81, .cells [.sl .no 14 (c_.Tenants.map api.Tenant.av), .int .i64 c_.Quantum, .int .i64 c_.Deadline])]) (fun u => s160 = .inl u) ?_ ?_
 ·intro s100
  intro _
  rintro rfl
  have h := onSum_inl h101
  refine aw_seq (aw_region (ap (.int .i64 0) Z Z Z (pu_assign Z (AEv.int _ _)) (aops_nil ?_)))
  obtain ⟨s159, s159e, h137⟩ := bind_some h
  refine aw_join (σ := Unit) (ν := Unit) (fun u v => [(1, .sl .no 1 (l.map AV.str)), (2, .ptr p81 0)]) (fun u v => [(p81, .cells [.sl .no 14 (c_.Tenants.map api.Tenant.av), .int .i64 c_.Quantum, .int .i64 c_.Deadline])]) (fun u => s159 = .inl u) ?_ ?_
  ·intro s136
   intro _
   rintro rfl
   have h := onSum_inl h137
   obtain ⟨s155, s155e, h156⟩ := letO_of h
   refine aw_meet (ν := Unit) (fun v => [(4, .bool s155)]) (fun v => []) ?_ ?_
   ·have h := s155e.symm
    refine aw_region (ap (.ptr p81 0) Z Z Z (pu_fieldAddr Z underlying78 Z sizeOf76 (by decide) (tm Z) Z) (ac Z Z Z (op_load1 (i := 0) Z isAgg76 (tm Z) Z Z (ap (.int .i64 (c_.Tenants.length : Int)) Z Z Z (pu_lenM Z underlying76 (tm Z)) (ap (.bool (decide (100 < (c_.Tenants.length : Int)))) Z Z Z (pu_int (v := .bool (decide (100 < (c_.Tenants.length : Int)))) Z Z (tm Z) (AEv.int _ _) Z) (ap (.bool (decide (100 < (c_.Tenants.length : Int)))) Z Z Z (pu_move Z (tm Z)) ?_))))))
    rcases Bool.eq_false_or_eq_true (decide (100 < (c_.Tenants.length : Int))) with hb158 | hb158
    ·replace h := ite_t (dec_t hb158) h
     refine aops_known 48 Z hb158 (an Z Z Z Z Z Z Z Z (an Z Z Z Z Z Z Z Z (an Z Z Z Z Z Z Z Z (ap (.bool true) Z Z Z (pu_pick (b := true) Z (tm Z) (fun _ => (AEv.bool _)) (fun h => nomatch h)) (ap (.bool true) Z Z Z (pu_assign Z (tm Z)) (aops_nil ?_))))))
     subst h
     exact ⟨(), Weak.mkL [] (by decide) trivial ⟨AEv.tmp Z, trivial⟩⟩
    ·replace h := ite_f (dec_f hb158) h
     refine aops_known 48 Z hb158 (agp (.sl .no 1 (l.map AV.str)) Z Z Z Z Z Z Z (pu_move Z (tm Z)) (agp (.int .i64 (l.length : Int)) Z Z Z Z Z Z Z (pu_lenM Z underlying26 (tm Z)) (agp (.bool (decide (100 < (l.length : Int)))) Z Z Z Z Z Z Z (pu_int (v := .bool (decide (100 < (l.length : Int)))) Z Z (tm Z) (AEv.int _ _) Z) (ap (.bool (decide (100 < (l.length : Int)))) Z Z Z (pu_pick (b := false) Z (tm Z) (fun h => nomatch h) (fun _ => (tm Z))) (ap (.bool (decide (100 < (l.length : Int)))) Z Z Z (pu_assign Z (tm Z)) (aops_nil ?_))))))
     subst h
     exact ⟨(), Weak.mkL [] (by decide) trivial ⟨(AEv.le (tm Z) (AV.Le.refl _)), trivial⟩⟩
   ·intro _
    have h := h156
    refine aw_ret ?_
    obtain rfl := some_of h
    exact ⟨[.bool s155], _, [], ⟨(tm Z), trivial⟩, (AV.Le.refl _), Weak.mkL [] (by decide) trivial trivial, ⟨Z, Z⟩⟩
  ·have h := s159e
   refine aw_seq (aw_region (ap (.sl .no 1 (l.map AV.str)) Z Z Z (pu_move Z (tm Z)) (ap (.int .i64 (l.length : Int)) Z Z Z (pu_lenM Z underlying26 (tm Z)) (ap (.int .i64 0) Z Z Z (pu_move Z (AEv.int _ _)) (aops_nil (aw_block (aw_while (σ := mewslaw42.far.S2) (ν := Unit) (mewslaw42.far.body2 l) (fun s147 v => [(1, .sl .no 1 (l.map AV.str)), (2, .ptr p81 0), (5, .int .i64 s147.n), (30, .sl .no 1 (l.map AV.str)), (31, .int .i64 (l.length : Int)), (32, .int .i64 s147.t32)]) (fun s147 v => [(p81, .cells [.sl .no 14 (c_.Tenants.map api.Tenant.av), .int .i64 c_.Quantum, .int .i64 c_.Deadline])]) ⟨0, 0⟩ () _ h (Weak.mkL [0] (by decide) ⟨⟨_, Z, (CellsLe.refl _), Z⟩, trivial⟩ ⟨AEv.tmp Z, AEv.tmp Z, AEv.tmp Z, AEv.tmp Z, AEv.tmp Z, AEv.tmp Z, trivial⟩) ?_)))))))
   rintro s147 _ x149 h hx148
   unfold mewslaw42.far.body2 at h
   refine aw_seq (aw_region (ap (.bool (decide (s147.t32 < (l.length : Int)))) Z Z Z (pu_int (v := .bool (decide (s147.t32 < (l.length : Int)))) Z Z (tm Z) (tm Z) Z) (aops_nil (aw_seq (aw_cond (b := decide (s147.t32 < (l.length : Int))) (tm Z) (fun hb153 => ?_) (fun hb153 => ?_))))))
   ·replace h := ite_t (dec_t hb153) h
    refine aw_skip (aw_seq (aw_block (aw_seq (aw_region ?_))))
    obtain ⟨c151, h⟩ := need_of h
    refine ap (.vptr [.str (ix l s147.t32)]) Z Z Z (pu_indexAddrM Z underlying26 sizeOf9 (tm Z) (tm Z) c151 Z) (ac Z Z Z (op_loadV1 Z isAgg9 (tm Z) Z (ap (.str (ix l s147.t32)) Z Z Z (pu_assign Z (tm Z)) (aops_nil (aw_seq (aw_region (ap (.int .i64 s147.n) Z Z Z (pu_move Z (tm Z)) (ap (.str (ix l s147.t32)) Z Z Z (pu_move Z (tm Z)) (ap (.int .i64 ((ix l s147.t32).length : Int)) Z Z Z (pu_strLen Z underlying9 (tm Z)) (ap (.int .i64 (if 10000 < ((ix l s147.t32).length : Int) then 10000 else ((ix l s147.t32).length : Int))) Z Z Z (pu_min2 Z (tm Z) (AEv.int _ _)) ?_))))))))))
    refine ap (.int .i64 (IntKind.wrap .i64 (s147.n + (if 10000 < ((ix l s147.t32).length : Int) then 10000 else ((ix l s147.t32).length : Int))))) Z Z Z (pu_int (v := .int .i64 (IntKind.wrap .i64 (s147.n + (if 10000 < ((ix l s147.t32).length : Int) then 10000 else ((ix l s147.t32).length : Int))))) Z Z (tm Z) (tm Z) Z) (ap (.int .i64 (IntKind.wrap .i64 (s147.n + (if 10000 < ((ix l s147.t32).length : Int) then 10000 else ((ix l s147.t32).length : Int))))) Z Z Z (pu_assign Z (tm Z)) (aops_nil (aw_seq (aw_region (ap (.int .i64 (IntKind.wrap .i64 (s147.n + (if 10000 < ((ix l s147.t32).length : Int) then 10000 else ((ix l s147.t32).length : Int))))) Z Z Z (pu_move Z (tm Z)) (ap (.bool (decide (300 < (IntKind.wrap .i64 (s147.n + (if 10000 < ((ix l s147.t32).length : Int) then 10000 else ((ix l s147.t32).length : Int))))))) Z Z Z (pu_int (v := .bool (decide (300 < (IntKind.wrap .i64 (s147.n + (if 10000 < ((ix l s147.t32).length : Int) then 10000 else ((ix l s147.t32).length : Int))))))) Z Z (tm Z) (AEv.int _ _) Z) (aops_nil (aw_cond (b := decide (300 < (IntKind.wrap .i64 (s147.n + (if 10000 < ((ix l s147.t32).length : Int) then 10000 else ((ix l s147.t32).length : Int)))))) (tm Z) (fun hb152 => ?_) (fun hb152 => ?_)))))))))
    ·replace h := ite_t (dec_t hb152) h
     refine aw_seq (aw_region (ap (.bool true) Z Z Z (pu_assign Z (AEv.bool _)) (aops_nil (aw_ret ?_))))
     obtain rfl := some_of h
     have h := congrArg some (hx148 _ rfl)
     obtain rfl := some_of h
     have h := onSum_inr h137
     obtain rfl := some_of h
     exact ⟨[.bool true], _, [], ⟨(tm Z), trivial⟩, (AV.Le.refl _), Weak.mkL [] (by decide) trivial trivial, ⟨Z, Z⟩⟩
    ·replace h := ite_f (dec_f hb152) h
     refine aw_skip (aw_region (ap (.int .i64 (IntKind.wrap .i64 (s147.t32 + 1))) Z Z Z (pu_int (v := .int .i64 (IntKind.wrap .i64 (s147.t32 + 1))) Z Z (tm Z) (AEv.int _ _) Z) (ap (.int .i64 (IntKind.wrap .i64 (s147.t32 + 1))) Z Z Z (pu_move Z (tm Z)) (aops_nil ?_))))
     obtain rfl := some_of h
     exact ⟨_, (), Z, Weak.mkL [0] (by decide) ⟨⟨_, Z, (CellsLe.refl _), Z⟩, trivial⟩ ⟨AEv.tmp Z, AEv.tmp Z, (AEv.le (tm Z) (AV.Le.refl _)), AEv.tmp Z, AEv.tmp Z, (AEv.le (tm Z) (AV.Le.refl _)), trivial⟩⟩
   ·replace h := ite_f (dec_f hb153) h
    refine aw_exit ?_
    obtain rfl := some_of h
    have h := congrArg some (hx148 _ rfl)
    exact ⟨(), (), (some_of h).symm, Weak.mkL [0] (by decide) ⟨⟨_, Z, (CellsLe.refl _), Z⟩, trivial⟩ ⟨AEv.tmp Z, AEv.tmp Z, trivial⟩⟩
 ·have h := s160e
  refine aw_seq (aw_region (ap (.ptr p81 0) Z Z Z (pu_fieldAddr Z underlying78 Z sizeOf76 (by decide) (tm Z) Z) (ac Z Z Z (op_load1 (i := 0) Z isAgg76 (tm Z) Z Z (ap (.int .i64 (c_.Tenants.length : Int)) Z Z Z (pu_lenM Z underlying76 (tm Z)) (ap (.int .i64 0) Z Z Z (pu_move Z (AEv.int _ _)) (aops_nil (aw_block (aw_while (σ := mewslaw42.far.S0) (ν := Unit) (mewslaw42.far.body0 c_) (fun s113 v => [(1, .sl .no 1 (l.map AV.str)), (2, .ptr p81 0), (5, .int .i64 s113.n), (11, .sl .no 14 (c_.Tenants.map api.Tenant.av)), (12, .int .i64 (c_.Tenants.length : Int)), (13, .int .i64 s113.t13)]) (fun s113 v => [(p81, .cells [.sl .no 14 (c_.Tenants.map api.Tenant.av), .int .i64 c_.Quantum, .int .i64 c_.Deadline])]) ⟨0, 0⟩ () _ h (Weak.mkL [0] (by decide) ⟨⟨_, Z, (CellsLe.refl _), Z⟩, trivial⟩ ⟨AEv.tmp Z, AEv.tmp Z, AEv.tmp Z, AEv.tmp Z, AEv.tmp Z, AEv.tmp Z, trivial⟩) ?_)))))))))
  rintro s113 _ x115 h hx114
  unfold mewslaw42.far.body0 at h
  refine aw_seq (aw_region (ap (.bool (decide (s113.t13 < (c_.Tenants.length : Int)))) Z Z Z (pu_int (v := .bool (decide (s113.t13 < (c_.Tenants.length : Int)))) Z Z (tm Z) (tm Z) Z) (aops_nil (aw_seq (aw_cond (b := decide (s113.t13 < (c_.Tenants.length : Int))) (tm Z) (fun hb120 => ?_) (fun hb120 => ?_))))))
  ·replace h := ite_t (dec_t hb120) h
   refine aw_skip (aw_seq (aw_block (aw_seq (aw_region ?_))))
   obtain ⟨c117, h⟩ := need_of h
   refine ap (.vptr [.str (ix c_.Tenants s113.t13).Name, .str (ix c_.Tenants s113.t13).Token, .int .i64 (ix c_.Tenants s113.t13).Memory, .int .i64 (ix c_.Tenants s113.t13).Policy, .int .i64 (ix c_.Tenants s113.t13).Conns, .int .i64 (ix c_.Tenants s113.t13).In, .int .i64 (ix c_.Tenants s113.t13).Out, .int .i64 (ix c_.Tenants s113.t13).Burst, .int .i64 (ix c_.Tenants s113.t13).Rate, .int .i64 (ix c_.Tenants s113.t13).Disk, .int .i64 (ix c_.Tenants s113.t13).Sync, .int .i64 (ix c_.Tenants s113.t13).Limits.Args, .int .i64 (ix c_.Tenants s113.t13).Limits.Bulk, .int .i64 (ix c_.Tenants s113.t13).Limits.Line]) Z Z Z (pu_indexAddrM Z underlying76 sizeOf53 (tm Z) (tm Z) c117 Z) (ac Z Z Z (op_loadVN Z isAgg53 sizeOf53 (tm Z) (Nat.le_of_ble_eq_true Z) Z (ac Z Z Z (op_alloc (cs := [.str ([] : List UInt8), .str ([] : List UInt8), .int .i64 0, .int .i64 0, .int .i64 0, .int .i64 0, .int .i64 0, .int .i64 0, .int .i64 0, .int .i64 0, .int .i64 0, .int .i64 0, .int .i64 0, .int .i64 0]) (v := .agg [.str ([] : List UInt8), .str ([] : List UInt8), .int .i64 0, .int .i64 0, .int .i64 0, .int .i64 0, .int .i64 0, .int .i64 0, .int .i64 0, .int .i64 0, .int .i64 0, .int .i64 0, .int .i64 0, .int .i64 0]) Z zeroValue53 Z Z Z ?_))))
   intro p118
   refine ac0 Z Z (op_store (i := 0) (cs' := (api.Tenant.ct (ix c_.Tenants s113.t13))) Z sizeOf53 (tm Z) (v := .agg (api.Tenant.ct (ix c_.Tenants s113.t13))) (tm Z) Z Z Z (Nat.le_of_ble_eq_true Z) Z (aops_nil (aw_seq (aw_region (ap (.int .i64 s113.n) Z Z Z (pu_move Z (tm Z)) (ap (.ptr p118 0) Z Z Z (pu_fieldAddr Z underlying53 Z sizeOf9 (by decide) (tm Z) Z) (ac Z Z Z (op_load1 (i := 0) Z isAgg9 (tm Z) Z Z (ap (.int .i64 ((ix c_.Tenants s113.t13).Name.length : Int)) Z Z Z (pu_strLen Z underlying9 (tm Z)) (ap (.ptr p118 1) Z Z Z (pu_fieldAddr Z underlying53 Z sizeOf9 (by decide) (tm Z) Z) (ac Z Z Z (op_load1 (i := 0) Z isAgg9 (tm Z) Z Z ?_))))))))))))
   refine ap (.int .i64 ((ix c_.Tenants s113.t13).Token.length : Int)) Z Z Z (pu_strLen Z underlying9 (tm Z)) (ap (.int .i64 (IntKind.wrap .i64 (((ix c_.Tenants s113.t13).Name.length : Int) + ((ix c_.Tenants s113.t13).Token.length : Int)))) Z Z Z (pu_int (v := .int .i64 (IntKind.wrap .i64 (((ix c_.Tenants s113.t13).Name.length : Int) + ((ix c_.Tenants s113.t13).Token.length : Int)))) Z Z (tm Z) (tm Z) Z) (ap (.int .i64 (if 10000 < (IntKind.wrap .i64 (((ix c_.Tenants s113.t13).Name.length : Int) + ((ix c_.Tenants s113.t13).Token.length : Int))) then 10000 else (IntKind.wrap .i64 (((ix c_.Tenants s113.t13).Name.length : Int) + ((ix c_.Tenants s113.t13).Token.length : Int))))) Z Z Z (pu_min2 Z (tm Z) (AEv.int _ _)) (ap (.int .i64 (IntKind.wrap .i64 (s113.n + (if 10000 < (IntKind.wrap .i64 (((ix c_.Tenants s113.t13).Name.length : Int) + ((ix c_.Tenants s113.t13).Token.length : Int))) then 10000 else (IntKind.wrap .i64 (((ix c_.Tenants s113.t13).Name.length : Int) + ((ix c_.Tenants s113.t13).Token.length : Int))))))) Z Z Z (pu_int (v := .int .i64 (IntKind.wrap .i64 (s113.n + (if 10000 < (IntKind.wrap .i64 (((ix c_.Tenants s113.t13).Name.length : Int) + ((ix c_.Tenants s113.t13).Token.length : Int))) then 10000 else (IntKind.wrap .i64 (((ix c_.Tenants s113.t13).Name.length : Int) + ((ix c_.Tenants s113.t13).Token.length : Int))))))) Z Z (tm Z) (tm Z) Z) (ap (.int .i64 (IntKind.wrap .i64 (s113.n + (if 10000 < (IntKind.wrap .i64 (((ix c_.Tenants s113.t13).Name.length : Int) + ((ix c_.Tenants s113.t13).Token.length : Int))) then 10000 else (IntKind.wrap .i64 (((ix c_.Tenants s113.t13).Name.length : Int) + ((ix c_.Tenants s113.t13).Token.length : Int))))))) Z Z Z (pu_assign Z (tm Z)) (aops_nil (aw_seq (aw_region (ap (.int .i64 (IntKind.wrap .i64 (s113.n + (if 10000 < (IntKind.wrap .i64 (((ix c_.Tenants s113.t13).Name.length : Int) + ((ix c_.Tenants s113.t13).Token.length : Int))) then 10000 else (IntKind.wrap .i64 (((ix c_.Tenants s113.t13).Name.length : Int) + ((ix c_.Tenants s113.t13).Token.length : Int))))))) Z Z Z (pu_move Z (tm Z)) (ap (.bool (decide (5000 < (IntKind.wrap .i64 (s113.n + (if 10000 < (IntKind.wrap .i64 (((ix c_.Tenants s113.t13).Name.length : Int) + ((ix c_.Tenants s113.t13).Token.length : Int))) then 10000 else (IntKind.wrap .i64 (((ix c_.Tenants s113.t13).Name.length : Int) + ((ix c_.Tenants s113.t13).Token.length : Int))))))))) Z Z Z (pu_int (v := .bool (decide (5000 < (IntKind.wrap .i64 (s113.n + (if 10000 < (IntKind.wrap .i64 (((ix c_.Tenants s113.t13).Name.length : Int) + ((ix c_.Tenants s113.t13).Token.length : Int))) then 10000 else (IntKind.wrap .i64 (((ix c_.Tenants s113.t13).Name.length : Int) + ((ix c_.Tenants s113.t13).Token.length : Int))))))))) Z Z (tm Z) (AEv.int _ _) Z) ?_)))))))))
   refine aops_nil (aw_cond (b := decide (5000 < (IntKind.wrap .i64 (s113.n + (if 10000 < (IntKind.wrap .i64 (((ix c_.Tenants s113.t13).Name.length : Int) + ((ix c_.Tenants s113.t13).Token.length : Int))) then 10000 else (IntKind.wrap .i64 (((ix c_.Tenants s113.t13).Name.length : Int) + ((ix c_.Tenants s113.t13).Token.length : Int)))))))) (tm Z) (fun hb119 => ?_) (fun hb119 => ?_))
   ·replace h := ite_t (dec_t hb119) h
    refine aw_seq (aw_region (ap (.bool true) Z Z Z (pu_assign Z (AEv.bool _)) (aops_nil (aw_ret ?_))))
    obtain rfl := some_of h
    have h := congrArg some (hx114 _ rfl)
    obtain rfl := some_of h
    have h := onSum_inr h101
    obtain rfl := some_of h
    exact ⟨[.bool true], _, [], ⟨(tm Z), trivial⟩, (AV.Le.refl _), Weak.mkL [] (by decide) trivial trivial, ⟨Z, Z⟩⟩
   ·replace h := ite_f (dec_f hb119) h
    refine aw_skip (aw_region (ap (.int .i64 (IntKind.wrap .i64 (s113.t13 + 1))) Z Z Z (pu_int (v := .int .i64 (IntKind.wrap .i64 (s113.t13 + 1))) Z Z (tm Z) (AEv.int _ _) Z) (ap (.int .i64 (IntKind.wrap .i64 (s113.t13 + 1))) Z Z Z (pu_move Z (tm Z)) (aops_nil ?_))))
    obtain rfl := some_of h
    exact ⟨_, (), Z, Weak.mkL [1] (by decide) ⟨⟨_, Z, (CellsLe.refl _), Z⟩, trivial⟩ ⟨AEv.tmp Z, AEv.tmp Z, (AEv.le (tm Z) (AV.Le.refl _)), AEv.tmp Z, AEv.tmp Z, (AEv.le (tm Z) (AV.Le.refl _)), trivial⟩⟩
  ·replace h := ite_f (dec_f hb120) h
   refine aw_exit ?_
   obtain rfl := some_of h
   have h := congrArg some (hx114 _ rfl)
   exact ⟨(), (), (some_of h).symm, Weak.mkL [0] (by decide) ⟨⟨_, Z, (CellsLe.refl _), Z⟩, trivial⟩ ⟨AEv.tmp Z, AEv.tmp Z, trivial⟩⟩

end Go.Pu
