/- Printed by lift.py: the functions come to them. -/
import Derived.Test.YtahccieomaopeaaLiftW
import Derived.Test.YtahccieomaopeaaDKK1
set_option maxRecDepth 100000
set_option maxHeartbeats 0
namespace Go.Pu
open Go.Lift Go.Proofs.Try

theorem scan.Turn_int.ok {t_ : RP} {cursor : Int} {mem : Reg} {r : Int × (List (List UInt8)) × Reg} (h : scan.Turn_int t_ cursor mem = some r) (rg : Nat) : Go.Lift.Spec prog 25 [.rp rg t_, .int .u64 cursor] [(rg, .abs (regAbs mem))] (fun v H => ∃ n0, v = .tup [.int .u64 r.1, .sl (.own n0) 1 (r.2.1.map AV.str)] ∧ H = [(rg, .abs (regAbs r.2.2)), (n0, .spare)]) := by
 unfold scan.Turn_int at h
 refine Go.Lift.Spec.of_body (rs := [.tmp 4, .tmp 5]) func25 Z Z (nb Z) Z (xr (xa (.int .u64 0) Z (pu_assign Z (AEv.int _ _)) (xa (.sl .full 1 (([] : List (List UInt8)).map AV.str)) Z (pu_assign Z (AEv.nil 1 (by decide))) (xe (aw_seq (xr (xm Z Z Z ?_)))))))
 refine xa (.bool t_.isNone) Z (pu_regNil Z underlying26 (tm Z) AEv.nilp) (xe (aw_cond (b := t_.isNone) (tm Z) (fun hb141 => ?_) (fun hb141 => ?_)))
 ·replace h := ite_t hb141 h
  refine xr (xa (.int .u64 0) Z (pu_assign Z (AEv.int _ _)) (xa (.sl .full 1 (([] : List (List UInt8)).map AV.str)) Z (pu_assign Z (AEv.nil 1 (by decide))) (xe (aw_claim 5 (tm Z) fun t71 => (aw_ret ?_)))))
  obtain rfl := some_of h
  exact ⟨[.int .u64 0, .sl (.own t71) 1 (([] : List (List UInt8)).map AV.str)], _, [(rg, .abs (regAbs mem)), (t71, .spare)], ⟨(tm Z), (tm Z), trivial⟩, vr, Weak.mkL [1, 0] (by decide) ⟨⟨_, Z, Z⟩, ⟨_, Z, Z⟩, trivial⟩ trivial, ⟨t71, Z, Z⟩⟩
 ·replace h := ite_fb hb141 h
  refine aw_skip (xr (xm Z Z Z ?_))
  obtain ⟨r72, r72e, h⟩ := bind_some h
  refine xc Z (op_call (vs := [.rp rg t_]) (H := [(rg, .abs (regAbs mem))]) Z call21 ⟨(tm Z), trivial⟩ (List.Perm.refl _) (dict.Table_int.Size.ok r72e rg) ?_)
  rintro _ _ ⟨rfl, rfl⟩
  refine xm Z Z Z ?_
  obtain ⟨r73, r73e, h⟩ := bind_some h
  refine xc Z (op_call (vs := [.rp rg t_]) (H := [(rg, .abs (regAbs r72.2))]) Z call22 ⟨(tm Z), trivial⟩ (List.Perm.refl _) (dict.Table_int.Toward.ok r73e rg) ?_)
  rintro _ _ ⟨rfl, rfl⟩
  refine xm Z Z Z (xm Z Z Z (xe (aw_seq (xr (xm Z Z Z (xa (.bool (decide (r73 < 0))) Z (pu_int (v := .bool (decide (r73 < 0))) Z Z (tm Z) (AEv.int _ _) Z) (xe (aw_cond (b := decide (r73 < 0)) (tm Z) (fun hb140 => ?_) (fun hb140 => ?_)))))))))
  ·replace h := ite_t (dec_t hb140) h
   refine xr (xm Z Z Z (xm Z Z Z ?_))
   obtain ⟨r74, r74e, h⟩ := bind_some h
   refine xc Z (op_call (vs := [.int .u64 cursor, .i r72.1]) (H := []) Z call44 ⟨(tm Z), (tm Z), trivial⟩ (List.Perm.refl _) (hash.Next.ok r74e) ?_)
   rintro _ _ ⟨rfl, rfl⟩
   refine xm Z Z Z (xm Z Z Z (xm Z Z Z ?_))
   obtain ⟨r75, r75e, h⟩ := bind_some h
   refine xc Z (op_call (vs := [.int .u64 cursor, .i r72.1]) (H := []) Z call45 ⟨(tm Z), (tm Z), trivial⟩ (List.Perm.refl _) (hash.Place.ok r75e) ?_)
   rintro _ _ ⟨rfl, rfl⟩
   obtain ⟨r76, r76e, h⟩ := bind_some h
   refine xc Z (op_call (vs := [.rp rg t_, .bool true, .i r75]) (H := [(rg, .abs (regAbs r72.2))]) Z call23 ⟨(tm Z), (AEv.bool _), (tm Z), trivial⟩ (List.Perm.refl _) (dict.Table_int.Chain.ok r76e rg) ?_)
   rintro _ _ ⟨t77, rfl, rfl⟩
   refine xm Z Z Z (xm Z Z Z (xe (aw_ret ?_)))
   obtain rfl := some_of h
   exact ⟨[.int .u64 r74, .sl (.own t77) 1 (r76.1.map AV.str)], _, [(rg, .abs (regAbs r76.2)), (t77, .spare)], ⟨(tm Z), (tm Z), trivial⟩, vr, Weak.mkL [0, 1] (by decide) ⟨⟨_, Z, Z⟩, ⟨_, Z, Z⟩, trivial⟩ trivial, ⟨t77, Z, Z⟩⟩
  ·replace h := ite_f (dec_f hb140) h
   refine aw_skip (xr (xm Z Z Z (xm Z Z Z (xa (.i (if r73 < r72.1 then r73 else r72.1)) Z (pu_min2 Z (tm Z) (tm Z)) (xm Z Z Z (xe (aw_seq (aw_region ?_))))))))
   refine xm Z Z Z (xm Z Z Z ?_)
   obtain ⟨r78, r78e, h⟩ := bind_some h
   refine xc Z (op_call (vs := [.int .u64 cursor, .i (if r73 < r72.1 then r73 else r72.1)]) (H := []) Z call45 ⟨(tm Z), (tm Z), trivial⟩ (List.Perm.refl _) (hash.Place.ok r78e) ?_)
   rintro _ _ ⟨rfl, rfl⟩
   refine xm Z Z Z (xe (xr (xm Z Z Z (xm Z Z Z (xm Z Z Z (xa (.bool (decide ((if r73 < r72.1 then r73 else r72.1) = r72.1))) Z (pu_int (v := .bool (decide ((if r73 < r72.1 then r73 else r72.1) = r72.1))) Z Z (tm Z) (tm Z) Z) (xm Z Z Z ?_)))))))
   obtain ⟨r79, r79e, h⟩ := bind_some h
   refine xc Z (op_call (vs := [.rp rg t_, .bool (decide ((if r73 < r72.1 then r73 else r72.1) = r72.1)), .i r78]) (H := [(rg, .abs (regAbs r72.2))]) Z call23 ⟨(tm Z), (tm Z), (tm Z), trivial⟩ (List.Perm.refl _) (dict.Table_int.Chain.ok r79e rg) ?_)
   rintro _ _ ⟨t80, rfl, rfl⟩
   refine xm Z Z Z (xe ?_)
   obtain ⟨s108, s108e, h110⟩ := bind_some h
   refine aw_meet (ν := Nat) (fun v => [(1, .int .u64 cursor), (8, .i (if r73 < r72.1 then r73 else r72.1)), (10, .sl (.own v) 1 (s108.1.map AV.str))]) (fun v => [(v, .spare), (rg, .abs (regAbs s108.2))]) ?_ ?_
   ·have h := s108e
    refine xr (xm Z Z Z (xm Z Z Z (xm Z Z Z ?_)))
    obtain ⟨c112, h⟩ := need_of h
    refine xa (.i (IntKind.wrap .i64 (1 * 2 ^ min (Int.toNat (if r73 < r72.1 then r73 else r72.1)) (IntKind.bits .i64)))) Z (pu_shl Z (AEv.int _ _) (tm Z) c112) (xa (.i (IntKind.wrap .i64 (r78 + (IntKind.wrap .i64 (1 * 2 ^ min (Int.toNat (if r73 < r72.1 then r73 else r72.1)) (IntKind.bits .i64)))))) Z (pu_int (v := .i (IntKind.wrap .i64 (r78 + (IntKind.wrap .i64 (1 * 2 ^ min (Int.toNat (if r73 < r72.1 then r73 else r72.1)) (IntKind.bits .i64)))))) Z Z (tm Z) (tm Z) Z) (xa (.agg [.i r78, .i (IntKind.wrap .i64 (r78 + (IntKind.wrap .i64 (1 * 2 ^ min (Int.toNat (if r73 < r72.1 then r73 else r72.1)) (IntKind.bits .i64)))))]) Z (pu_buildArr (zs := [.i 0, .i 0]) (aparts := [(0, .i r78), (1, .i (IntKind.wrap .i64 (r78 + (IntKind.wrap .i64 (1 * 2 ^ min (Int.toNat (if r73 < r72.1 then r73 else r72.1)) (IntKind.bits .i64))))))]) (cs := [.i r78, .i (IntKind.wrap .i64 (r78 + (IntKind.wrap .i64 (1 * 2 ^ min (Int.toNat (if r73 < r72.1 then r73 else r72.1)) (IntKind.bits .i64)))))]) Z underlying81 sizeOf3 zeroValue81 Z ⟨Z, (tm Z), ⟨Z, (tm Z), trivial⟩⟩ Z) (xa (.i 0) Z (pu_move Z (AEv.int _ _)) (xe (aw_block (aw_while (σ := scan.Turn_int.S0) (ν := Nat) (scan.Turn_int.body0 t_ r73 r72 r78) (fun s128 v => [(0, .rp rg t_), (1, .int .u64 cursor), (6, .i r72.1), (8, .i (if r73 < r72.1 then r73 else r72.1)), (10, .sl (.own v) 1 (s128.l.map AV.str)), (46, .agg [.i r78, .i (IntKind.wrap .i64 (r78 + (IntKind.wrap .i64 (1 * 2 ^ min (Int.toNat (if r73 < r72.1 then r73 else r72.1)) (IntKind.bits .i64)))))]), (47, .i s128.t47)]) (fun s128 v => [(rg, .abs (regAbs s128.mem)), (v, .spare)]) ⟨r79.1, 0, r79.2⟩ t80 _ h (Weak.mkL [0, 1] (by decide) ⟨⟨_, Z, Z⟩, ⟨_, Z, Z⟩, trivial⟩ ⟨tm Z, tm Z, tm Z, tm Z, tm Z, tm Z, tm Z, trivial⟩) ?_))))))
    rintro s128 n129 x131 h hx130
    unfold scan.Turn_int.body0 at h
    refine xr (xa (.bool (decide (s128.t47 < 2))) Z (pu_int (v := .bool (decide (s128.t47 < 2))) Z Z (tm Z) (AEv.int _ _) Z) (xe (aw_seq (aw_cond (b := decide (s128.t47 < 2)) (tm Z) (fun hb138 => ?_) (fun hb138 => ?_)))))
    ·replace h := ite_t (dec_t hb138) h
     refine aw_skip (aw_seq (aw_block (aw_seq (aw_region ?_))))
     obtain ⟨c133, h⟩ := need_of h
     refine xa (.i (ix ([r78, IntKind.wrap .i64 (r78 + (IntKind.wrap .i64 (1 * 2 ^ min (Int.toNat (if r73 < r72.1 then r73 else r72.1)) (IntKind.bits .i64))))] : List Int) s128.t47)) Z (pu_idxArrM (f := (AV.int .i64)) (ys := ([r78, IntKind.wrap .i64 (r78 + (IntKind.wrap .i64 (1 * 2 ^ min (Int.toNat (if r73 < r72.1 then r73 else r72.1)) (IntKind.bits .i64))))] : List Int)) Z underlying81 sizeOf3 isAgg3 (tm Z) (tm Z) Z Z c133) (xm Z Z Z (xe (aw_region (xm Z Z Z (xm Z Z Z (xm Z Z Z (xm Z Z Z (xa (.bool (!decide ((if r73 < r72.1 then r73 else r72.1) = r72.1))) Z (pu_int (v := .bool (!decide ((if r73 < r72.1 then r73 else r72.1) = r72.1))) Z Z (tm Z) (tm Z) Z) (xm Z Z Z ?_)))))))))
     obtain ⟨r134, r134e, h⟩ := bind_some h
     refine xc Z (op_call (vs := [.rp rg t_, .bool (!decide ((if r73 < r72.1 then r73 else r72.1) = r72.1)), .i (ix ([r78, IntKind.wrap .i64 (r78 + (IntKind.wrap .i64 (1 * 2 ^ min (Int.toNat (if r73 < r72.1 then r73 else r72.1)) (IntKind.bits .i64))))] : List Int) s128.t47)]) (H := [(rg, .abs (regAbs s128.mem))]) Z call23 ⟨(tm Z), (tm Z), (tm Z), trivial⟩ (List.Perm.refl _) (dict.Table_int.Chain.ok r134e rg) ?_)
     rintro _ _ ⟨t135, rfl, rfl⟩
     obtain ⟨c136, h⟩ := need_of h
     refine xc Z (op_appendOM (q := 2) Z underlying35 underlying35 (.inl Z) typeInfo9 Z Z Z (by decide) (tm Z) Z (given_sl (tm Z)) c136 ?_)
     intro t137
     refine xm Z Z Z (xe (aw_region (xa (.i (IntKind.wrap .i64 (s128.t47 + 1))) Z (pu_int (v := .i (IntKind.wrap .i64 (s128.t47 + 1))) Z Z (tm Z) (AEv.int _ _) Z) (xm Z Z Z (xe ?_)))))
     obtain rfl := some_of h
     exact ⟨_, t137, Z, Weak.mkL [0, 2] (by decide) ⟨⟨_, Z, Z⟩, ⟨_, Z, Z⟩, trivial⟩ ⟨tm Z, tm Z, tm Z, tm Z, (AEv.le (tm Z) vr), tm Z, (AEv.le (tm Z) vr), trivial⟩⟩
    ·replace h := ite_f (dec_f hb138) h
     refine aw_exit ?_
     obtain rfl := some_of h
     have h := congrArg some (hx130 _ rfl)
     obtain rfl := some_of h
     exact ⟨n129, Weak.mkL [1, 0] (by decide) ⟨⟨_, Z, Z⟩, ⟨_, Z, Z⟩, trivial⟩ ⟨tm Z, tm Z, tm Z, trivial⟩⟩
   ·intro n109
    have h := h110
    refine xr (xm Z Z Z (xm Z Z Z ?_))
    obtain ⟨r139, r139e, h⟩ := bind_some h
    refine xc Z (op_call (vs := [.int .u64 cursor, .i (if r73 < r72.1 then r73 else r72.1)]) (H := []) Z call44 ⟨(tm Z), (tm Z), trivial⟩ (List.Perm.refl _) (hash.Next.ok r139e) ?_)
    rintro _ _ ⟨rfl, rfl⟩
    refine xm Z Z Z (xm Z Z Z (xm Z Z Z (xe (aw_ret ?_))))
    obtain rfl := some_of h
    exact ⟨[.int .u64 r139, .sl (.own n109) 1 (s108.1.map AV.str)], _, [(rg, .abs (regAbs s108.2)), (n109, .spare)], ⟨(tm Z), (tm Z), trivial⟩, vr, Weak.mkL [1, 0] (by decide) ⟨⟨_, Z, Z⟩, ⟨_, Z, Z⟩, trivial⟩ trivial, ⟨n109, Z, Z⟩⟩

theorem scan.Scan_int.ok {t_ : RP} {cursor : Int} {count : Int} {mem : Reg} {r : Int × (List (List UInt8)) × Reg} (h : scan.Scan_int t_ cursor count mem = some r) (rg : Nat) : Go.Lift.Spec prog 26 [.rp rg t_, .int .u64 cursor, .i count] [(rg, .abs (regAbs mem))] (fun v H => ∃ n0, v = .tup [.int .u64 r.1, .sl (.own n0) 1 (r.2.1.map AV.str)] ∧ H = [(rg, .abs (regAbs r.2.2)), (n0, .spare)]) := by
 unfold scan.Scan_int at h
 refine Go.Lift.Spec.of_body (rs := [.tmp 6, .tmp 7]) func26 Z Z (nb Z) Z (xr (xa (.int .u64 0) Z (pu_assign Z (AEv.int _ _)) (xa (.sl .full 1 (([] : List (List UInt8)).map AV.str)) Z (pu_assign Z (AEv.nil 1 (by decide))) (xe (xr (xm Z Z Z (xa (.i (if count < 1 then 1 else count)) Z (pu_max2 Z (tm Z) (AEv.int _ _)) ?_)))))))
 refine xm Z Z Z (xe (xr (xa (.sl .full 1 (([] : List (List UInt8)).map AV.str)) Z (pu_assign Z (AEv.nil 1 (by decide))) (xe ?_))))
 obtain ⟨s131, s131e, h133⟩ := bind_some h
 refine aw_meet (ν := Nat) (fun v => [(1, .int .u64 s131.1), (8, .sl (.own v) 1 (s131.2.1.map AV.str))]) (fun v => [(v, .spare), (rg, .abs (regAbs s131.2.2))]) ?_ ?_
 ·have h := s131e
  refine xr (xm Z Z Z (xa (.i (if 100000 < (if count < 1 then 1 else count) then 100000 else (if count < 1 then 1 else count))) Z (pu_min2 Z (tm Z) (AEv.int _ _)) (xa (.i (IntKind.wrap .i64 (10 * (if 100000 < (if count < 1 then 1 else count) then 100000 else (if count < 1 then 1 else count))))) Z (pu_int (v := .i (IntKind.wrap .i64 (10 * (if 100000 < (if count < 1 then 1 else count) then 100000 else (if count < 1 then 1 else count))))) Z Z (AEv.int _ _) (tm Z) Z) (xa (.i 0) Z (pu_move Z (AEv.int _ _)) (xe (aw_block (aw_claim 8 (tm Z) fun t176 => (aw_while (σ := scan.Scan_int.S0) (ν := Nat) (scan.Scan_int.body0 count t_) (fun s160 v => [(0, .rp rg t_), (1, .int .u64 s160.cursor), (2, .i (if count < 1 then 1 else count)), (8, .sl (.own v) 1 (s160.l.map AV.str)), (15, .i (IntKind.wrap .i64 (10 * (if 100000 < (if count < 1 then 1 else count) then 100000 else (if count < 1 then 1 else count))))), (16, .i s160.t16)]) (fun s160 v => [(rg, .abs (regAbs s160.mem)), (v, .spare)]) ⟨cursor, ([] : List (List UInt8)), 0, mem⟩ t176 _ h (Weak.mkL [1, 0] (by decide) ⟨⟨_, Z, Z⟩, ⟨_, Z, Z⟩, trivial⟩ ⟨tm Z, tm Z, tm Z, tm Z, tm Z, tm Z, trivial⟩) ?_))))))))
  rintro s160 n161 x163 h hx162
  unfold scan.Scan_int.body0 at h
  refine xr (xa (.bool (decide (s160.t16 < (IntKind.wrap .i64 (10 * (if 100000 < (if count < 1 then 1 else count) then 100000 else (if count < 1 then 1 else count))))))) Z (pu_int (v := .bool (decide (s160.t16 < (IntKind.wrap .i64 (10 * (if 100000 < (if count < 1 then 1 else count) then 100000 else (if count < 1 then 1 else count))))))) Z Z (tm Z) (tm Z) Z) (xe (aw_seq (aw_cond (b := decide (s160.t16 < (IntKind.wrap .i64 (10 * (if 100000 < (if count < 1 then 1 else count) then 100000 else (if count < 1 then 1 else count)))))) (tm Z) (fun hb175 => ?_) (fun hb175 => ?_)))))
  ·replace h := ite_t (dec_t hb175) h
   refine aw_skip (aw_seq (aw_block (xr (xm Z Z Z (xm Z Z Z ?_)))))
   obtain ⟨r165, r165e, h⟩ := bind_some h
   refine xc Z (op_call (vs := [.rp rg t_, .int .u64 s160.cursor]) (H := [(rg, .abs (regAbs s160.mem))]) Z call25 ⟨(tm Z), (tm Z), trivial⟩ (List.Perm.refl _) (scan.Turn_int.ok r165e rg) ?_)
   rintro _ _ ⟨t166, rfl, rfl⟩
   refine xm Z Z Z (xa (.int .u64 r165.1) Z (pu_extract Z (tm Z) (nb Z) Z) (xa (.sl (.own t166) 1 (r165.2.1.map AV.str)) Z (pu_extract Z (tm Z) (nb Z) Z) (xm Z Z Z (xm Z Z Z (xe (xr (xm Z Z Z (xm Z Z Z ?_))))))))
   obtain ⟨c167, h⟩ := need_of h
   refine xc Z (op_appendOM (q := 2) Z underlying35 underlying35 (.inl Z) typeInfo9 Z Z Z (by decide) (tm Z) Z (given_sl (tm Z)) c167 ?_)
   intro t168
   refine xm Z Z Z (xe (xr (xm Z Z Z (xm Z Z Z (xe ?_)))))
   obtain ⟨s170, s170e, h171⟩ := letO_of h
   refine aw_meet (ν := Unit) (fun v => [(0, .rp rg t_), (1, .int .u64 r165.1), (2, .i (if count < 1 then 1 else count)), (8, .sl (.own t168) 1 ((s160.l ++ r165.2.1).map AV.str)), (15, .i (IntKind.wrap .i64 (10 * (if 100000 < (if count < 1 then 1 else count) then 100000 else (if count < 1 then 1 else count))))), (16, .i s160.t16), (35, .bool s170)]) (fun v => [(rg, .abs (regAbs r165.2.2)), (t168, .spare)]) ?_ ?_
   ·have h := s170e.symm
    refine aw_region (xm Z Z Z (xa (.bool (decide (r165.1 = 0))) Z (pu_int (v := .bool (decide (r165.1 = 0))) Z Z (tm Z) (AEv.int _ _) Z) (xm Z Z Z ?_)))
    rcases Bool.eq_false_or_eq_true (decide (r165.1 = 0)) with hb173 | hb173
    ·replace h := ite_t (dec_t hb173) h
     refine aops_known 30 Z hb173 (xn Z Z Z (xn Z Z Z (xn Z Z Z (xn Z Z Z (xa (.bool true) Z (pu_pick (b := true) Z (tm Z) (fun _ => (AEv.bool _)) (fun h => nomatch h)) (xe ?_))))))
     subst h
     exact ⟨(), Weak.mkL [0, 2] (by decide) ⟨⟨_, Z, Z⟩, ⟨_, Z, Z⟩, trivial⟩ ⟨tm Z, tm Z, tm Z, tm Z, tm Z, tm Z, tm Z, trivial⟩⟩
    ·replace h := ite_f (dec_f hb173) h
     refine aops_known 30 Z hb173 (xq Z Z Z Z (xp (.i ((s160.l ++ r165.2.1).length : Int)) Z Z (pu_lenM Z underlying35 (tm Z)) (xq Z Z Z Z (xp (.bool (decide ((if count < 1 then 1 else count) ≤ ((s160.l ++ r165.2.1).length : Int)))) Z Z (pu_int (v := .bool (decide ((if count < 1 then 1 else count) ≤ ((s160.l ++ r165.2.1).length : Int)))) Z Z (tm Z) (tm Z) Z) (xa (.bool (decide ((if count < 1 then 1 else count) ≤ ((s160.l ++ r165.2.1).length : Int)))) Z (pu_pick (b := false) Z (tm Z) (fun h => nomatch h) (fun _ => (tm Z))) (xe ?_))))))
     subst h
     exact ⟨(), Weak.mkL [0, 2] (by decide) ⟨⟨_, Z, Z⟩, ⟨_, Z, Z⟩, trivial⟩ ⟨tm Z, tm Z, tm Z, tm Z, tm Z, tm Z, (AEv.le (tm Z) vr), trivial⟩⟩
   ·intro _
    have h := h171
    refine aw_cond (b := s170) (tm Z) (fun hb174 => ?_) (fun hb174 => ?_)
    ·replace h := ite_t hb174 h
     refine aw_exit ?_
     obtain rfl := some_of h
     have h := congrArg some (hx162 _ rfl)
     obtain rfl := some_of h
     exact ⟨t168, Weak.mkL [1, 0] (by decide) ⟨⟨_, Z, Z⟩, ⟨_, Z, Z⟩, trivial⟩ ⟨tm Z, (AEv.le (tm Z) vr), trivial⟩⟩
    ·replace h := ite_fb hb174 h
     refine aw_skip (aw_region (xa (.i (IntKind.wrap .i64 (s160.t16 + 1))) Z (pu_int (v := .i (IntKind.wrap .i64 (s160.t16 + 1))) Z Z (tm Z) (AEv.int _ _) Z) (xm Z Z Z (xe ?_))))
     obtain rfl := some_of h
     exact ⟨_, t168, Z, Weak.mkL [0, 1] (by decide) ⟨⟨_, Z, Z⟩, ⟨_, Z, Z⟩, trivial⟩ ⟨tm Z, tm Z, tm Z, (AEv.le (tm Z) vr), tm Z, (AEv.le (tm Z) vr), trivial⟩⟩
  ·replace h := ite_f (dec_f hb175) h
   refine aw_exit ?_
   obtain rfl := some_of h
   have h := congrArg some (hx162 _ rfl)
   obtain rfl := some_of h
   exact ⟨n161, Weak.mkL [1, 0] (by decide) ⟨⟨_, Z, Z⟩, ⟨_, Z, Z⟩, trivial⟩ ⟨tm Z, tm Z, trivial⟩⟩
 ·intro n132
  have h := h133
  refine xr (xm Z Z Z (xm Z Z Z (xm Z Z Z (xm Z Z Z (xe (aw_ret ?_))))))
  obtain rfl := some_of h
  exact ⟨[.int .u64 s131.1, .sl (.own n132) 1 (s131.2.1.map AV.str)], _, [(rg, .abs (regAbs s131.2.2)), (n132, .spare)], ⟨(tm Z), (tm Z), trivial⟩, vr, Weak.mkL [1, 0] (by decide) ⟨⟨_, Z, Z⟩, ⟨_, Z, Z⟩, trivial⟩ trivial, ⟨n132, Z, Z⟩⟩

theorem scan.Pick_int.ok {t_ : RP} {n_ : Int} {mem : Reg} {r : (List UInt8) × Bool × Reg} (h : scan.Pick_int t_ n_ mem = some r) (rg : Nat) : Go.Lift.Spec prog 27 [.rp rg t_, .int .u64 n_] [(rg, .abs (regAbs mem))] (fun v H => v = .tup [.str r.1, .bool r.2.1] ∧ H = [(rg, .abs (regAbs r.2.2))]) := by
 unfold scan.Pick_int at h
 refine Go.Lift.Spec.of_body (rs := [.tmp 4, .tmp 5]) func27 Z Z (nb Z) Z (xr (xa (.str ([] : List UInt8)) Z (pu_assign Z (AEv.const Z)) (xa (.bool false) Z (pu_assign Z (AEv.bool _)) (xe (xr (xm Z Z Z ?_))))))
 obtain ⟨r6, r6e, h⟩ := bind_some h
 refine xc Z (op_call (vs := [.rp rg t_]) (H := [(rg, .abs (regAbs mem))]) Z call17 ⟨(tm Z), trivial⟩ (List.Perm.refl _) (dict.Table_int.Keys.ok r6e rg) ?_)
 rintro _ _ ⟨t7, rfl, rfl⟩
 refine xm Z Z Z (xe (aw_seq (xr (xm Z Z Z (xa (.i (r6.1.length : Int)) Z (pu_lenM Z underlying35 (tm Z)) (xa (.bool (decide ((r6.1.length : Int) = 0))) Z (pu_int (v := .bool (decide ((r6.1.length : Int) = 0))) Z Z (tm Z) (AEv.int _ _) Z) (xe (aw_cond (b := decide ((r6.1.length : Int) = 0)) (tm Z) (fun hb10 => ?_) (fun hb10 => ?_)))))))))
 ·replace h := ite_t (dec_t hb10) h
  refine xr (xa (.str ([] : List UInt8)) Z (pu_assign Z (AEv.const Z)) (xa (.bool false) Z (pu_assign Z (AEv.bool _)) (xe (aw_ret ?_))))
  obtain rfl := some_of h
  exact ⟨[.str ([] : List UInt8), .bool false], _, [(rg, .abs (regAbs r6.2))], ⟨(tm Z), (tm Z), trivial⟩, vr, Weak.mkL [0] (by decide) ⟨⟨_, Z, Z⟩, trivial⟩ trivial, ⟨Z, Z⟩⟩
 ·replace h := ite_f (dec_f hb10) h
  refine aw_skip (xr (xm Z Z Z (xm Z Z Z (xm Z Z Z (xa (.i (r6.1.length : Int)) Z (pu_lenM Z underlying35 (tm Z)) (xa (.int .u64 (IntKind.wrap .u64 (r6.1.length : Int))) Z (pu_conv Z underlying3 underlying22 (tm Z)) ?_))))))
  obtain ⟨c8, h⟩ := need_of h
  refine xa (.int .u64 (n_.tmod (IntKind.wrap .u64 (r6.1.length : Int)))) Z (pu_rem Z (tm Z) (tm Z) c8) ?_
  obtain ⟨c9, h⟩ := need_of h
  refine xa (.vptr [.str (ix r6.1 (n_.tmod (IntKind.wrap .u64 (r6.1.length : Int))))]) Z (pu_indexAddrM Z underlying35 sizeOf9 (tm Z) (tm Z) c9 Z) (xc Z (op_loadV1 Z isAgg9 (tm Z) Z (xm Z Z Z (xa (.bool true) Z (pu_assign Z (AEv.bool _)) (xe (aw_ret ?_))))))
  obtain rfl := some_of h
  exact ⟨[.str (ix r6.1 (n_.tmod (IntKind.wrap .u64 (r6.1.length : Int)))), .bool true], _, [(rg, .abs (regAbs r6.2))], ⟨(tm Z), (tm Z), trivial⟩, vr, Weak.mkL [0] (by decide) ⟨⟨_, Z, Z⟩, trivial⟩ trivial, ⟨Z, Z⟩⟩

theorem mewsref08.Has.ok {l : List (List UInt8)} {s_ : List UInt8} {r : Bool} (h : mewsref08.Has l s_ = some r) : Go.Lift.Spec prog 36 [.sl .no 1 (l.map AV.str), .str s_] [] (fun v H => v = .bool r ∧ H = []) := by
 unfold mewsref08.Has at h
 refine Go.Lift.Spec.of_body (rs := [.tmp 4]) func36 Z Z (nb Z) Z (xr (xa (.bool false) Z (pu_assign Z (AEv.bool _)) (xe ?_)))
 obtain ⟨s68, s68e, h51⟩ := bind_some h
 refine aw_join (σ := Unit) (ν := Unit) (fun u v => []) (fun u v => []) (fun u => s68 = .inl u) ?_ ?_
 ·intro s50
  intro _
  rintro rfl
  have h := onSum_inl h51
  refine xr (xa (.bool false) Z (pu_assign Z (AEv.bool _)) (xe (aw_ret ?_)))
  obtain rfl := some_of h
  exact ⟨[.bool false], _, [], ⟨(tm Z), trivial⟩, vr, Weak.mkL [] (by decide) trivial trivial, ⟨Z, Z⟩⟩
 ·have h := s68e
  refine xr (xa (.i 0) Z (pu_assign Z (AEv.int _ _)) (xe (aw_block (aw_while (σ := mewsref08.Has.S0) (ν := Unit) (mewsref08.Has.body0 l s_) (fun s61 v => [(0, .sl .no 1 (l.map AV.str)), (1, .str s_), (5, .i s61.i)]) (fun s61 v => []) ⟨0⟩ () _ h (Weak.mkL [] (by decide) trivial ⟨tm Z, tm Z, tm Z, trivial⟩) ?_))))
  rintro s61 _ x63 h hx62
  unfold mewsref08.Has.body0 at h
  refine aw_seq (xr (xm Z Z Z (xm Z Z Z (xa (.i (l.length : Int)) Z (pu_lenM Z underlying35 (tm Z)) (xa (.bool (decide (s61.i < (l.length : Int)))) Z (pu_int (v := .bool (decide (s61.i < (l.length : Int)))) Z Z (tm Z) (tm Z) Z) (xe (aw_cond (b := decide (s61.i < (l.length : Int))) (tm Z) (fun hb67 => ?_) (fun hb67 => ?_))))))))
  ·replace h := ite_t (dec_t hb67) h
   refine aw_skip (aw_seq (aw_block (xr (xm Z Z Z (xm Z Z Z ?_)))))
   obtain ⟨c65, h⟩ := need_of h
   refine xa (.vptr [.str (ix l s61.i)]) Z (pu_indexAddrM Z underlying35 sizeOf9 (tm Z) (tm Z) c65 Z) (xc Z (op_loadV1 Z isAgg9 (tm Z) Z (xm Z Z Z (xa (.bool (decide ((ix l s61.i) = s_))) Z (pu_str (v := .bool (decide ((ix l s61.i) = s_))) Z Z (tm Z) (tm Z) Z) (xe (aw_cond (b := decide ((ix l s61.i) = s_)) (tm Z) (fun hb66 => ?_) (fun hb66 => ?_)))))))
   ·replace h := ite_t (dec_t hb66) h
    refine xr (xa (.bool true) Z (pu_assign Z (AEv.bool _)) (xe (aw_ret ?_)))
    obtain rfl := some_of h
    have h := congrArg some (hx62 _ rfl)
    obtain rfl := some_of h
    have h := onSum_inr h51
    obtain rfl := some_of h
    exact ⟨[.bool true], _, [], ⟨(tm Z), trivial⟩, vr, Weak.mkL [] (by decide) trivial trivial, ⟨Z, Z⟩⟩
   ·replace h := ite_f (dec_f hb66) h
    refine aw_skip (aw_region (xm Z Z Z (xa (.i (IntKind.wrap .i64 (s61.i + 1))) Z (pu_int (v := .i (IntKind.wrap .i64 (s61.i + 1))) Z Z (tm Z) (AEv.int _ _) Z) (xm Z Z Z (xe ?_)))))
    obtain rfl := some_of h
    exact ⟨_, (), Z, Weak.mkL [] (by decide) trivial ⟨tm Z, tm Z, (AEv.le (tm Z) vr), trivial⟩⟩
  ·replace h := ite_f (dec_f hb67) h
   refine aw_exit ?_
   obtain rfl := some_of h
   have h := congrArg some (hx62 _ rfl)
   exact ⟨(), (), (some_of h).symm, Weak.mkL [] (by decide) trivial trivial⟩

theorem mewslaw08.alive.ok  {r : Bool} (h : mewslaw08.alive = some r) : Go.Lift.Spec prog 28 [] [] (fun v H => v = .bool r ∧ H = []) := by
 unfold mewslaw08.alive at h
 refine Go.Lift.Spec.of_body (rs := [.tmp 0]) func28 Z Z (nb Z) Z (aw_regNew fun rg => (xr (xa (.bool false) Z (pu_assign Z (AEv.bool _)) (xe (aw_seq (aw_region ?_))))))
 obtain ⟨r60, r60e, h⟩ := bind_some h
 refine xc Z (op_call (vs := [.int .u64 1]) (H := [(rg, .abs (regAbs ([] : Reg)))]) Z call12 ⟨(AEv.int _ _), trivial⟩ (List.Perm.refl _) (dict.New_int.ok r60e rg) ?_)
 rintro _ _ ⟨rfl, rfl⟩
 refine xm Z Z Z (xe ?_)
 obtain ⟨s76, s76e, h77⟩ := bind_some h
 refine aw_meet (ν := Unit) (fun v => [(1, .rp rg r60.1)]) (fun v => [(rg, .abs (regAbs s76))]) ?_ ?_
 ·have h := s76e
  refine xr (xc Z (op_buildSlice (xs := ([[97], [98], [99], [100], [101]] : List (List UInt8)).map AV.str) (aparts := [(0, .str [97]), (1, .str [98]), (2, .str [99]), (3, .str [100]), (4, .str [101])]) Z underlying35 sizeOf9 zeroValue9 (by decide) (by decide) ⟨Z, (AEv.const Z), ⟨Z, (AEv.const Z), ⟨Z, (AEv.const Z), ⟨Z, (AEv.const Z), ⟨Z, (AEv.const Z), trivial⟩⟩⟩⟩⟩ Z Z Z (xa (.i ([[97], [98], [99], [100], [101]].length : Int)) Z (pu_lenM Z underlying35 (tm Z)) (xa (.i 0) Z (pu_move Z (AEv.int _ _)) (xe (aw_block (aw_while (σ := mewslaw08.alive.S0) (ν := Unit) (mewslaw08.alive.body0 r60) (fun s87 v => [(1, .rp rg r60.1), (11, .sl .full 1 ([[97], [98], [99], [100], [101]].map AV.str)), (12, .i ([[97], [98], [99], [100], [101]].length : Int)), (13, .i s87.t13)]) (fun s87 v => [(rg, .abs (regAbs s87.mem))]) ⟨0, r60.2⟩ () _ h (Weak.mkL [0] (by decide) ⟨⟨_, Z, Z⟩, trivial⟩ ⟨tm Z, tm Z, tm Z, tm Z, trivial⟩) ?_)))))))
  rintro s87 _ x89 h hx88
  unfold mewslaw08.alive.body0 at h
  refine xr (xa (.bool (decide (s87.t13 < ([[97], [98], [99], [100], [101]].length : Int)))) Z (pu_int (v := .bool (decide (s87.t13 < ([[97], [98], [99], [100], [101]].length : Int)))) Z Z (tm Z) (tm Z) Z) (xe (aw_seq (aw_cond (b := decide (s87.t13 < ([[97], [98], [99], [100], [101]].length : Int))) (tm Z) (fun hb93 => ?_) (fun hb93 => ?_)))))
  ·replace h := ite_t (dec_t hb93) h
   refine aw_skip (aw_seq (aw_block (xr (xm Z Z Z ?_))))
   obtain ⟨c91, h⟩ := need_of h
   refine xa (.vptr [.str (ix [[97], [98], [99], [100], [101]] s87.t13)]) Z (pu_indexAddrM Z underlying35 sizeOf9 (tm Z) (tm Z) c91 Z) (xc Z (op_loadV1 Z isAgg9 (tm Z) Z (xm Z Z Z (xm Z Z Z (xe (aw_region (xm Z Z Z (xm Z Z Z (xm Z Z Z ?_)))))))))
   obtain ⟨r92, r92e, h⟩ := bind_some h
   refine xc Z (op_call (vs := [.rp rg r60.1, .str (ix [[97], [98], [99], [100], [101]] s87.t13), .i s87.t13]) (H := [(rg, .abs (regAbs s87.mem))]) Z call13 ⟨(tm Z), (tm Z), (tm Z), trivial⟩ (List.Perm.refl _) (dict.Table_int.Put.ok r92e rg) ?_)
   rintro _ _ ⟨rfl, rfl⟩
   refine xe (aw_region (xa (.i (IntKind.wrap .i64 (s87.t13 + 1))) Z (pu_int (v := .i (IntKind.wrap .i64 (s87.t13 + 1))) Z Z (tm Z) (AEv.int _ _) Z) (xm Z Z Z (xe ?_))))
   obtain rfl := some_of h
   exact ⟨_, (), Z, Weak.mkL [0] (by decide) ⟨⟨_, Z, Z⟩, trivial⟩ ⟨tm Z, tm Z, tm Z, (AEv.le (tm Z) vr), trivial⟩⟩
  ·replace h := ite_f (dec_f hb93) h
   refine aw_exit ?_
   obtain rfl := some_of h
   have h := congrArg some (hx88 _ rfl)
   obtain rfl := some_of h
   exact ⟨(), Weak.mkL [0] (by decide) ⟨⟨_, Z, Z⟩, trivial⟩ ⟨tm Z, trivial⟩⟩
 ·intro _
  have h := h77
  refine xr (xm Z Z Z ?_)
  obtain ⟨r94, r94e, h⟩ := bind_some h
  refine xc Z (op_call (vs := [.rp rg r60.1, .int .u64 0, .i 100]) (H := [(rg, .abs (regAbs s76))]) Z call26 ⟨(tm Z), (AEv.int _ _), (AEv.int _ _), trivial⟩ (List.Perm.refl _) (scan.Scan_int.ok r94e rg) ?_)
  rintro _ _ ⟨t95, rfl, rfl⟩
  refine xm Z Z Z (xa (.int .u64 r94.1) Z (pu_extract Z (tm Z) (nb Z) Z) (xa (.sl (.own t95) 1 (r94.2.1.map AV.str)) Z (pu_extract Z (tm Z) (nb Z) Z) (xm Z Z Z (xm Z Z Z (xe (xr (xm Z Z Z ?_)))))))
  obtain ⟨r96, r96e, h⟩ := bind_some h
  refine xc Z (op_call (vs := [.rp rg r60.1, .int .u64 7]) (H := [(rg, .abs (regAbs r94.2.2))]) Z call27 ⟨(tm Z), (AEv.int _ _), trivial⟩ (List.Perm.refl _) (scan.Pick_int.ok r96e rg) ?_)
  rintro _ _ ⟨rfl, rfl⟩
  refine xm Z Z Z (xa (.str r96.1) Z (pu_extract Z (tm Z) (nb Z) Z) (xa (.bool r96.2.1) Z (pu_extract Z (tm Z) (nb Z) Z) (xm Z Z Z (xm Z Z Z (xe (aw_seq (aw_region ?_)))))))
  obtain ⟨r97, r97e, h⟩ := bind_some h
  refine xc Z (op_call (vs := [.int .u64 1]) (H := [(rg, .abs (regAbs r96.2.2))]) Z call12 ⟨(AEv.int _ _), trivial⟩ (List.Perm.refl _) (dict.New_int.ok r97e rg) ?_)
  rintro _ _ ⟨rfl, rfl⟩
  obtain ⟨r98, r98e, h⟩ := bind_some h
  refine xc Z (op_call (vs := [.rp rg r97.1, .int .u64 0, .i 1]) (H := [(rg, .abs (regAbs r97.2))]) Z call26 ⟨(tm Z), (AEv.int _ _), (AEv.int _ _), trivial⟩ (List.Perm.refl _) (scan.Scan_int.ok r98e rg) ?_)
  rintro _ _ ⟨t99, rfl, rfl⟩
  refine xm Z Z Z (xa (.int .u64 r98.1) Z (pu_extract Z (tm Z) (nb Z) Z) (xa (.sl (.own t99) 1 (r98.2.1.map AV.str)) Z (pu_extract Z (tm Z) (nb Z) Z) (xm Z Z Z (xm Z Z Z (xe ?_)))))
  obtain ⟨s108, s108e, h109⟩ := bind_some h
  refine aw_meet (ν := Unit) (fun v => [(0, .bool s108)]) (fun v => [(rg, .abs (regAbs r98.2.2))]) ?_ ?_
  ·have h := s108e
   refine aw_region (xm Z Z Z (xa (.bool (decide (r94.1 = 0))) Z (pu_int (v := .bool (decide (r94.1 = 0))) Z Z (tm Z) (AEv.int _ _) Z) (xm Z Z Z ?_)))
   rcases Bool.eq_false_or_eq_true (decide (r94.1 = 0)) with hb111 | hb111
   ·replace h := ite_t (dec_t hb111) h
    refine aops_known 40 Z hb111 (xq Z Z Z Z (xp (.i (r94.2.1.length : Int)) Z Z (pu_lenM Z underlying35 (tm Z)) (xp (.bool (decide ((r94.2.1.length : Int) = 5))) Z Z (pu_int (v := .bool (decide ((r94.2.1.length : Int) = 5))) Z Z (tm Z) (AEv.int _ _) Z) (xa (.bool (decide ((r94.2.1.length : Int) = 5))) Z (pu_pick (b := true) Z (tm Z) (fun _ => (tm Z)) (fun h => nomatch h)) (xm Z Z Z ?_)))))
    rcases Bool.eq_false_or_eq_true (decide ((r94.2.1.length : Int) = 5)) with hb112 | hb112
    ·replace h := ite_t (dec_t hb112) h
     refine aops_known 45 Z hb112 (xq Z Z Z Z ?_)
     obtain ⟨r113, r113e, h⟩ := bind_some h
     refine xg Z Z (op_call (vs := [.sl .no 1 (r94.2.1.map AV.str), .str [101]]) (H := []) Z call36 ⟨(AEv.le (tm Z) (AV.Le.forget _ _ _)), (AEv.const Z), trivial⟩ (List.Perm.refl _) (mewsref08.Has.ok r113e) ?_)
     rintro _ _ ⟨rfl, rfl⟩
     refine xa (.bool r113) Z (pu_pick (b := true) Z (tm Z) (fun _ => (tm Z)) (fun h => nomatch h)) (xm Z Z Z ?_)
     rcases Bool.eq_false_or_eq_true r113 with hb114 | hb114
     ·replace h := ite_t hb114 h
      refine aops_known 49 Z hb114 (xq Z Z Z Z (xa (.bool r96.2.1) Z (pu_pick (b := true) Z (tm Z) (fun _ => (tm Z)) (fun h => nomatch h)) (xm Z Z Z ?_)))
      rcases Bool.eq_false_or_eq_true r96.2.1 with hb115 | hb115
      ·replace h := ite_t hb115 h
       refine aops_known 52 Z hb115 (xq Z Z Z Z (xq Z Z Z Z ?_))
       obtain ⟨r116, r116e, h⟩ := bind_some h
       refine xg Z Z (op_call (vs := [.sl .no 1 (r94.2.1.map AV.str), .str r96.1]) (H := []) Z call36 ⟨(AEv.le (tm Z) (AV.Le.forget _ _ _)), (tm Z), trivial⟩ (List.Perm.refl _) (mewsref08.Has.ok r116e) ?_)
       rintro _ _ ⟨rfl, rfl⟩
       refine xa (.bool r116) Z (pu_pick (b := true) Z (tm Z) (fun _ => (tm Z)) (fun h => nomatch h)) (xm Z Z Z ?_)
       rcases Bool.eq_false_or_eq_true r116 with hb117 | hb117
       ·replace h := ite_t hb117 h
        refine aops_known 57 Z hb117 (xq Z Z Z Z (xp (.bool (decide (r98.1 = 0))) Z Z (pu_int (v := .bool (decide (r98.1 = 0))) Z Z (tm Z) (AEv.int _ _) Z) (xa (.bool (decide (r98.1 = 0))) Z (pu_pick (b := true) Z (tm Z) (fun _ => (tm Z)) (fun h => nomatch h)) (xm Z Z Z ?_))))
        rcases Bool.eq_false_or_eq_true (decide (r98.1 = 0)) with hb118 | hb118
        ·replace h := ite_t (dec_t hb118) h
         refine aops_known 61 Z hb118 (xq Z Z Z Z (xp (.i (r98.2.1.length : Int)) Z Z (pu_lenM Z underlying35 (tm Z)) (xp (.bool (decide ((r98.2.1.length : Int) = 0))) Z Z (pu_int (v := .bool (decide ((r98.2.1.length : Int) = 0))) Z Z (tm Z) (AEv.int _ _) Z) (xa (.bool (decide ((r98.2.1.length : Int) = 0))) Z (pu_pick (b := true) Z (tm Z) (fun _ => (tm Z)) (fun h => nomatch h)) (xm Z Z Z (xe ?_))))))
         obtain rfl := some_of h
         exact ⟨(), Weak.mkL [0] (by decide) ⟨⟨_, Z, Z⟩, trivial⟩ ⟨(AEv.le (tm Z) vr), trivial⟩⟩
        ·replace h := ite_f (dec_f hb118) h
         refine aops_known 61 Z hb118 (xn Z Z Z (xn Z Z Z (xn Z Z Z (xa (.bool false) Z (pu_pick (b := false) Z (tm Z) (fun h => nomatch h) (fun _ => (AEv.bool _))) (xm Z Z Z (xe ?_))))))
         obtain rfl := some_of h
         exact ⟨(), Weak.mkL [0] (by decide) ⟨⟨_, Z, Z⟩, trivial⟩ ⟨tm Z, trivial⟩⟩
       ·replace h := ite_fb hb117 h
        refine aops_known 57 Z hb117 (xn Z Z Z (xn Z Z Z (xa (.bool false) Z (pu_pick (b := false) Z (tm Z) (fun h => nomatch h) (fun _ => (AEv.bool _))) (xm Z Z Z (xn Z Z Z (xn Z Z Z (xn Z Z Z (xa (.bool false) Z (pu_pick (b := false) Z (tm Z) (fun h => nomatch h) (fun _ => (AEv.bool _))) (xm Z Z Z ?_)))))))))
        refine xe ?_
        obtain rfl := some_of h
        exact ⟨(), Weak.mkL [0] (by decide) ⟨⟨_, Z, Z⟩, trivial⟩ ⟨tm Z, trivial⟩⟩
      ·replace h := ite_fb hb115 h
       refine aops_known 52 Z hb115 (xn Z Z Z (xn Z Z Z (xn Z Z Z (xa (.bool false) Z (pu_pick (b := false) Z (tm Z) (fun h => nomatch h) (fun _ => (AEv.bool _))) (xm Z Z Z (xn Z Z Z (xn Z Z Z (xa (.bool false) Z (pu_pick (b := false) Z (tm Z) (fun h => nomatch h) (fun _ => (AEv.bool _))) (xm Z Z Z ?_)))))))))
       refine xn Z Z Z (xn Z Z Z (xn Z Z Z (xa (.bool false) Z (pu_pick (b := false) Z (tm Z) (fun h => nomatch h) (fun _ => (AEv.bool _))) (xm Z Z Z (xe ?_)))))
       obtain rfl := some_of h
       exact ⟨(), Weak.mkL [0] (by decide) ⟨⟨_, Z, Z⟩, trivial⟩ ⟨tm Z, trivial⟩⟩
     ·replace h := ite_fb hb114 h
      refine aops_known 49 Z hb114 (xn Z Z Z (xa (.bool false) Z (pu_pick (b := false) Z (tm Z) (fun h => nomatch h) (fun _ => (AEv.bool _))) (xm Z Z Z (xn Z Z Z (xn Z Z Z (xn Z Z Z (xa (.bool false) Z (pu_pick (b := false) Z (tm Z) (fun h => nomatch h) (fun _ => (AEv.bool _))) (xm Z Z Z (xn Z Z Z ?_)))))))))
      refine xn Z Z Z (xa (.bool false) Z (pu_pick (b := false) Z (tm Z) (fun h => nomatch h) (fun _ => (AEv.bool _))) (xm Z Z Z (xn Z Z Z (xn Z Z Z (xn Z Z Z (xa (.bool false) Z (pu_pick (b := false) Z (tm Z) (fun h => nomatch h) (fun _ => (AEv.bool _))) (xm Z Z Z (xe ?_))))))))
      obtain rfl := some_of h
      exact ⟨(), Weak.mkL [0] (by decide) ⟨⟨_, Z, Z⟩, trivial⟩ ⟨tm Z, trivial⟩⟩
    ·replace h := ite_f (dec_f hb112) h
     refine aops_known 45 Z hb112 (xn Z Z Z (xn Z Z Z (xa (.bool false) Z (pu_pick (b := false) Z (tm Z) (fun h => nomatch h) (fun _ => (AEv.bool _))) (xm Z Z Z (xn Z Z Z (xa (.bool false) Z (pu_pick (b := false) Z (tm Z) (fun h => nomatch h) (fun _ => (AEv.bool _))) (xm Z Z Z (xn Z Z Z (xn Z Z Z ?_)))))))))
     refine xn Z Z Z (xa (.bool false) Z (pu_pick (b := false) Z (tm Z) (fun h => nomatch h) (fun _ => (AEv.bool _))) (xm Z Z Z (xn Z Z Z (xn Z Z Z (xa (.bool false) Z (pu_pick (b := false) Z (tm Z) (fun h => nomatch h) (fun _ => (AEv.bool _))) (xm Z Z Z (xn Z Z Z (xn Z Z Z (xn Z Z Z ?_)))))))))
     refine xa (.bool false) Z (pu_pick (b := false) Z (tm Z) (fun h => nomatch h) (fun _ => (AEv.bool _))) (xm Z Z Z (xe ?_))
     obtain rfl := some_of h
     exact ⟨(), Weak.mkL [0] (by decide) ⟨⟨_, Z, Z⟩, trivial⟩ ⟨tm Z, trivial⟩⟩
   ·replace h := ite_f (dec_f hb111) h
    refine aops_known 40 Z hb111 (xn Z Z Z (xn Z Z Z (xn Z Z Z (xa (.bool false) Z (pu_pick (b := false) Z (tm Z) (fun h => nomatch h) (fun _ => (AEv.bool _))) (xm Z Z Z (xn Z Z Z (xn Z Z Z (xa (.bool false) Z (pu_pick (b := false) Z (tm Z) (fun h => nomatch h) (fun _ => (AEv.bool _))) (xm Z Z Z ?_)))))))))
    refine xn Z Z Z (xa (.bool false) Z (pu_pick (b := false) Z (tm Z) (fun h => nomatch h) (fun _ => (AEv.bool _))) (xm Z Z Z (xn Z Z Z (xn Z Z Z (xn Z Z Z (xa (.bool false) Z (pu_pick (b := false) Z (tm Z) (fun h => nomatch h) (fun _ => (AEv.bool _))) (xm Z Z Z (xn Z Z Z (xn Z Z Z ?_)))))))))
    refine xa (.bool false) Z (pu_pick (b := false) Z (tm Z) (fun h => nomatch h) (fun _ => (AEv.bool _))) (xm Z Z Z (xn Z Z Z (xn Z Z Z (xn Z Z Z (xa (.bool false) Z (pu_pick (b := false) Z (tm Z) (fun h => nomatch h) (fun _ => (AEv.bool _))) (xm Z Z Z (xe ?_)))))))
    obtain rfl := some_of h
    exact ⟨(), Weak.mkL [0] (by decide) ⟨⟨_, Z, Z⟩, trivial⟩ ⟨tm Z, trivial⟩⟩
  ·intro _
   have h := h109
   refine aw_ret ?_
   obtain rfl := some_of h
   exact ⟨[.bool s108], _, [], ⟨(tm Z), trivial⟩, vr, Weak.mkL [] (by decide) trivial trivial, ⟨Z, Z⟩⟩

theorem mewslaw08.ScanNobody.ok {cursor : Int} {count : Int} {r : Bool} (h : mewslaw08.ScanNobody cursor count = some r) : Go.Lift.Spec prog 6 [.int .u64 cursor, .i count] [] (fun v H => v = .bool r ∧ H = []) := by
 unfold mewslaw08.ScanNobody at h
 refine Go.Lift.Spec.of_body (rs := [.tmp 4]) func6 Z Z (nb Z) Z (aw_regNew fun rg => (xr (xa (.bool false) Z (pu_assign Z (AEv.bool _)) (xe (xr (xa (.rp rg (none : RP)) Z (pu_assign Z (AEv.rpn _)) (xe ?_)))))))
 refine xr (xm Z Z Z (xm Z Z Z ?_))
 obtain ⟨r21, r21e, h⟩ := bind_some h
 refine xc Z (op_call (vs := [.rp rg (none : RP), .int .u64 cursor]) (H := [(rg, .abs (regAbs ([] : Reg)))]) Z call25 ⟨(tm Z), (tm Z), trivial⟩ (List.Perm.refl _) (scan.Turn_int.ok r21e rg) ?_)
 rintro _ _ ⟨t22, rfl, rfl⟩
 refine xm Z Z Z (xa (.int .u64 r21.1) Z (pu_extract Z (tm Z) (nb Z) Z) (xa (.sl (.own t22) 1 (r21.2.1.map AV.str)) Z (pu_extract Z (tm Z) (nb Z) Z) (xm Z Z Z (xm Z Z Z (xe (xr (xm Z Z Z (xm Z Z Z ?_))))))))
 refine xm Z Z Z ?_
 obtain ⟨r23, r23e, h⟩ := bind_some h
 refine xc Z (op_call (vs := [.rp rg (none : RP), .int .u64 cursor, .i count]) (H := [(rg, .abs (regAbs r21.2.2))]) Z call26 ⟨(tm Z), (tm Z), (tm Z), trivial⟩ (List.Perm.refl _) (scan.Scan_int.ok r23e rg) ?_)
 rintro _ _ ⟨t24, rfl, rfl⟩
 refine xm Z Z Z (xa (.int .u64 r23.1) Z (pu_extract Z (tm Z) (nb Z) Z) (xa (.sl (.own t24) 1 (r23.2.1.map AV.str)) Z (pu_extract Z (tm Z) (nb Z) Z) (xm Z Z Z (xm Z Z Z (xe (xr (xm Z Z Z (xm Z Z Z ?_))))))))
 obtain ⟨r25, r25e, h⟩ := bind_some h
 refine xc Z (op_call (vs := [.rp rg (none : RP), .int .u64 cursor]) (H := [(rg, .abs (regAbs r23.2.2))]) Z call27 ⟨(tm Z), (tm Z), trivial⟩ (List.Perm.refl _) (scan.Pick_int.ok r25e rg) ?_)
 rintro _ _ ⟨rfl, rfl⟩
 refine xm Z Z Z (xa (.str r25.1) Z (pu_extract Z (tm Z) (nb Z) Z) (xa (.bool r25.2.1) Z (pu_extract Z (tm Z) (nb Z) Z) (xm Z Z Z (xm Z Z Z (xe ?_)))))
 obtain ⟨s32, s32e, h33⟩ := bind_some h
 refine aw_meet (ν := Unit) (fun v => [(4, .bool s32)]) (fun v => [(rg, .abs (regAbs r25.2.2))]) ?_ ?_
 ·have h := s32e
  refine aw_region (xm Z Z Z (xa (.bool (decide (r21.1 = 0))) Z (pu_int (v := .bool (decide (r21.1 = 0))) Z Z (tm Z) (AEv.int _ _) Z) (xm Z Z Z ?_)))
  rcases Bool.eq_false_or_eq_true (decide (r21.1 = 0)) with hb35 | hb35
  ·replace h := ite_t (dec_t hb35) h
   refine aops_known 33 Z hb35 (xq Z Z Z Z (xp (.bool (decide (r23.1 = 0))) Z Z (pu_int (v := .bool (decide (r23.1 = 0))) Z Z (tm Z) (AEv.int _ _) Z) (xa (.bool (decide (r23.1 = 0))) Z (pu_pick (b := true) Z (tm Z) (fun _ => (tm Z)) (fun h => nomatch h)) (xm Z Z Z ?_))))
   rcases Bool.eq_false_or_eq_true (decide (r23.1 = 0)) with hb36 | hb36
   ·replace h := ite_t (dec_t hb36) h
    refine aops_known 37 Z hb36 (xq Z Z Z Z (xp (.i (r21.2.1.length : Int)) Z Z (pu_lenM Z underlying35 (tm Z)) (xq Z Z Z Z (xp (.i (r23.2.1.length : Int)) Z Z (pu_lenM Z underlying35 (tm Z)) (xp (.i (IntKind.wrap .i64 ((r21.2.1.length : Int) + (r23.2.1.length : Int)))) Z Z (pu_int (v := .i (IntKind.wrap .i64 ((r21.2.1.length : Int) + (r23.2.1.length : Int)))) Z Z (tm Z) (tm Z) Z) (xp (.bool (decide ((IntKind.wrap .i64 ((r21.2.1.length : Int) + (r23.2.1.length : Int))) = 0))) Z Z (pu_int (v := .bool (decide ((IntKind.wrap .i64 ((r21.2.1.length : Int) + (r23.2.1.length : Int))) = 0))) Z Z (tm Z) (AEv.int _ _) Z) (xa (.bool (decide ((IntKind.wrap .i64 ((r21.2.1.length : Int) + (r23.2.1.length : Int))) = 0))) Z (pu_pick (b := true) Z (tm Z) (fun _ => (tm Z)) (fun h => nomatch h)) (xm Z Z Z ?_))))))))
    rcases Bool.eq_false_or_eq_true (decide ((IntKind.wrap .i64 ((r21.2.1.length : Int) + (r23.2.1.length : Int))) = 0)) with hb37 | hb37
    ·replace h := ite_t (dec_t hb37) h
     refine aops_known 45 Z hb37 (xq Z Z Z Z (xp (.bool (decide (r25.1 = ([] : List UInt8)))) Z Z (pu_str (v := .bool (decide (r25.1 = ([] : List UInt8)))) Z Z (tm Z) (AEv.const Z) Z) (xa (.bool (decide (r25.1 = ([] : List UInt8)))) Z (pu_pick (b := true) Z (tm Z) (fun _ => (tm Z)) (fun h => nomatch h)) (xm Z Z Z ?_))))
     rcases Bool.eq_false_or_eq_true (decide (r25.1 = ([] : List UInt8))) with hb38 | hb38
     ·replace h := ite_t (dec_t hb38) h
      refine aops_known 49 Z hb38 (xq Z Z Z Z (xp (.bool (!r25.2.1)) Z Z (pu_not Z (tm Z)) (xa (.bool (!r25.2.1)) Z (pu_pick (b := true) Z (tm Z) (fun _ => (tm Z)) (fun h => nomatch h)) (xm Z Z Z ?_))))
      rcases Bool.eq_false_or_eq_true (!r25.2.1) with hb39 | hb39
      ·replace h := ite_t hb39 h
       refine aops_known 53 Z hb39 ?_
       obtain ⟨r40, r40e, h⟩ := bind_some h
       refine xg Z Z (op_call (vs := []) (H := []) Z call28 trivial (List.Perm.refl _) (mewslaw08.alive.ok r40e) ?_)
       rintro _ _ ⟨rfl, rfl⟩
       refine xa (.bool r40) Z (pu_pick (b := true) Z (tm Z) (fun _ => (tm Z)) (fun h => nomatch h)) (xm Z Z Z (xe ?_))
       obtain rfl := some_of h
       exact ⟨(), Weak.mkL [0] (by decide) ⟨⟨_, Z, Z⟩, trivial⟩ ⟨tm Z, trivial⟩⟩
      ·replace h := ite_fb hb39 h
       refine aops_known 53 Z hb39 (xn Z Z Z (xa (.bool false) Z (pu_pick (b := false) Z (tm Z) (fun h => nomatch h) (fun _ => (AEv.bool _))) (xm Z Z Z (xe ?_))))
       obtain rfl := some_of h
       exact ⟨(), Weak.mkL [0] (by decide) ⟨⟨_, Z, Z⟩, trivial⟩ ⟨tm Z, trivial⟩⟩
     ·replace h := ite_f (dec_f hb38) h
      refine aops_known 49 Z hb38 (xn Z Z Z (xn Z Z Z (xa (.bool false) Z (pu_pick (b := false) Z (tm Z) (fun h => nomatch h) (fun _ => (AEv.bool _))) (xm Z Z Z (xn Z Z Z (xa (.bool false) Z (pu_pick (b := false) Z (tm Z) (fun h => nomatch h) (fun _ => (AEv.bool _))) (xm Z Z Z (xe ?_))))))))
      obtain rfl := some_of h
      exact ⟨(), Weak.mkL [0] (by decide) ⟨⟨_, Z, Z⟩, trivial⟩ ⟨tm Z, trivial⟩⟩
    ·replace h := ite_f (dec_f hb37) h
     refine aops_known 45 Z hb37 (xn Z Z Z (xn Z Z Z (xa (.bool false) Z (pu_pick (b := false) Z (tm Z) (fun h => nomatch h) (fun _ => (AEv.bool _))) (xm Z Z Z (xn Z Z Z (xn Z Z Z (xa (.bool false) Z (pu_pick (b := false) Z (tm Z) (fun h => nomatch h) (fun _ => (AEv.bool _))) (xm Z Z Z (xn Z Z Z ?_)))))))))
     refine xa (.bool false) Z (pu_pick (b := false) Z (tm Z) (fun h => nomatch h) (fun _ => (AEv.bool _))) (xm Z Z Z (xe ?_))
     obtain rfl := some_of h
     exact ⟨(), Weak.mkL [0] (by decide) ⟨⟨_, Z, Z⟩, trivial⟩ ⟨tm Z, trivial⟩⟩
   ·replace h := ite_f (dec_f hb36) h
    refine aops_known 37 Z hb36 (xn Z Z Z (xn Z Z Z (xn Z Z Z (xn Z Z Z (xn Z Z Z (xn Z Z Z (xa (.bool false) Z (pu_pick (b := false) Z (tm Z) (fun h => nomatch h) (fun _ => (AEv.bool _))) (xm Z Z Z (xn Z Z Z ?_)))))))))
    refine xn Z Z Z (xa (.bool false) Z (pu_pick (b := false) Z (tm Z) (fun h => nomatch h) (fun _ => (AEv.bool _))) (xm Z Z Z (xn Z Z Z (xn Z Z Z (xa (.bool false) Z (pu_pick (b := false) Z (tm Z) (fun h => nomatch h) (fun _ => (AEv.bool _))) (xm Z Z Z (xn Z Z Z (xa (.bool false) Z (pu_pick (b := false) Z (tm Z) (fun h => nomatch h) (fun _ => (AEv.bool _))) (xm Z Z Z ?_)))))))))
    refine xe ?_
    obtain rfl := some_of h
    exact ⟨(), Weak.mkL [0] (by decide) ⟨⟨_, Z, Z⟩, trivial⟩ ⟨tm Z, trivial⟩⟩
  ·replace h := ite_f (dec_f hb35) h
   refine aops_known 33 Z hb35 (xn Z Z Z (xn Z Z Z (xa (.bool false) Z (pu_pick (b := false) Z (tm Z) (fun h => nomatch h) (fun _ => (AEv.bool _))) (xm Z Z Z (xn Z Z Z (xn Z Z Z (xn Z Z Z (xn Z Z Z (xn Z Z Z ?_)))))))))
   refine xn Z Z Z (xa (.bool false) Z (pu_pick (b := false) Z (tm Z) (fun h => nomatch h) (fun _ => (AEv.bool _))) (xm Z Z Z (xn Z Z Z (xn Z Z Z (xa (.bool false) Z (pu_pick (b := false) Z (tm Z) (fun h => nomatch h) (fun _ => (AEv.bool _))) (xm Z Z Z (xn Z Z Z (xn Z Z Z (xa (.bool false) Z (pu_pick (b := false) Z (tm Z) (fun h => nomatch h) (fun _ => (AEv.bool _))) ?_)))))))))
   refine xm Z Z Z (xn Z Z Z (xa (.bool false) Z (pu_pick (b := false) Z (tm Z) (fun h => nomatch h) (fun _ => (AEv.bool _))) (xm Z Z Z (xe ?_))))
   obtain rfl := some_of h
   exact ⟨(), Weak.mkL [0] (by decide) ⟨⟨_, Z, Z⟩, trivial⟩ ⟨tm Z, trivial⟩⟩
 ·intro _
  have h := h33
  refine aw_ret ?_
  obtain rfl := some_of h
  exact ⟨[.bool s32], _, [], ⟨(tm Z), trivial⟩, vr, Weak.mkL [] (by decide) trivial trivial, ⟨Z, Z⟩⟩

end Go.Pu
