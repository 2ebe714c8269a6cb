/- Printed by lift.py: the functions come to them. -/
import Derived.Test.YtahccieomaopeaaLiftW
import Derived.Test.YtahccieomaopeaaSCK0
set_option maxRecDepth 100000
set_option maxHeartbeats 0
namespace Go.Pu
open Go.Lift Go.Proofs.Try

theorem scan.Scan_int.ok {t_ : RP} {cursor : Int} {count : Int} {mem : Reg} {r : Int × (List (List UInt8)) × Reg} (h : scan.Scan_int t_ cursor count mem = some r) (rg : Nat) : Go.Lift.Spec prog 26 [.rp rg t_, .int .u64 cursor, .i count] [(rg, .abs (regAbs mem))] (fun v H => ∃ n0, v = .tup [.int .u64 r.1, .sl (.own n0) 1 (r.2.1.map AV.str)] ∧ H = [(rg, .abs (regAbs r.2.2)), (n0, .spare)]) := by
 unfold scan.Scan_int at h
 refine Go.Lift.Spec.of_body (rs := [.tmp 6, .tmp 7]) func26 Z Z (nb Z) Z (xr (xa (.int .u64 0) Z (pu_assign Z (AEv.int _ _)) (xa (.sl .full 1 (([] : List (List UInt8)).map AV.str)) Z (pu_assign Z (AEv.nil 1 (by decide))) (xe (xr (xm Z Z Z (xa (.i (if count < 1 then 1 else count)) Z (pu_max2 Z (tm Z) (AEv.int _ _)) ?_)))))))
 refine xm Z Z Z (xe (xr (xa (.sl .full 1 (([] : List (List UInt8)).map AV.str)) Z (pu_assign Z (AEv.nil 1 (by decide))) (xe ?_))))
 obtain ⟨s131, s131e, h133⟩ := bind_some h
 refine aw_meet (ν := Nat) (fun v => [(1, .int .u64 s131.1), (8, .sl (.own v) 1 (s131.2.1.map AV.str))]) (fun v => [(v, .spare), (rg, .abs (regAbs s131.2.2))]) ?_ ?_
 ·have h := s131e
  refine xr (xm Z Z Z (xa (.i (if 100000 < (if count < 1 then 1 else count) then 100000 else (if count < 1 then 1 else count))) Z (pu_min2 Z (tm Z) (AEv.int _ _)) (xa (.i (IntKind.wrap .i64 (10 * (if 100000 < (if count < 1 then 1 else count) then 100000 else (if count < 1 then 1 else count))))) Z (pu_int (v := .i (IntKind.wrap .i64 (10 * (if 100000 < (if count < 1 then 1 else count) then 100000 else (if count < 1 then 1 else count))))) Z Z (AEv.int _ _) (tm Z) Z) (xa (.i 0) Z (pu_move Z (AEv.int _ _)) (xe (aw_block (aw_claim 8 (tm Z) fun t176 => (aw_while (σ := scan.Scan_int.S0) (ν := Nat) (scan.Scan_int.body0 count t_) (fun s160 v => [(0, .rp rg t_), (1, .int .u64 s160.cursor), (2, .i (if count < 1 then 1 else count)), (8, .sl (.own v) 1 (s160.l.map AV.str)), (15, .i (IntKind.wrap .i64 (10 * (if 100000 < (if count < 1 then 1 else count) then 100000 else (if count < 1 then 1 else count))))), (16, .i s160.t16)]) (fun s160 v => [(rg, .abs (regAbs s160.mem)), (v, .spare)]) ⟨cursor, ([] : List (List UInt8)), 0, mem⟩ t176 _ h (Weak.mkL [1, 0] (by decide) ⟨⟨_, Z, Z⟩, ⟨_, Z, Z⟩, trivial⟩ ⟨tm Z, tm Z, tm Z, tm Z, tm Z, tm Z, trivial⟩) ?_))))))))
  rintro s160 n161 x163 h hx162
  unfold scan.Scan_int.body0 at h
  refine xr (xa (.bool (decide (s160.t16 < (IntKind.wrap .i64 (10 * (if 100000 < (if count < 1 then 1 else count) then 100000 else (if count < 1 then 1 else count))))))) Z (pu_int (v := .bool (decide (s160.t16 < (IntKind.wrap .i64 (10 * (if 100000 < (if count < 1 then 1 else count) then 100000 else (if count < 1 then 1 else count))))))) Z Z (tm Z) (tm Z) Z) (xe (aw_seq (aw_cond (b := decide (s160.t16 < (IntKind.wrap .i64 (10 * (if 100000 < (if count < 1 then 1 else count) then 100000 else (if count < 1 then 1 else count)))))) (tm Z) (fun hb175 => ?_) (fun hb175 => ?_)))))
  ·replace h := ite_t (dec_t hb175) h
   refine aw_skip (aw_seq (aw_block (xr (xm Z Z Z (xm Z Z Z ?_)))))
   obtain ⟨r165, r165e, h⟩ := bind_some h
   refine xc Z (op_call (vs := [.rp rg t_, .int .u64 s160.cursor]) (H := [(rg, .abs (regAbs s160.mem))]) Z call25 ⟨(tm Z), (tm Z), trivial⟩ (List.Perm.refl _) (scan.Turn_int.ok r165e rg) ?_)
   rintro _ _ ⟨t166, rfl, rfl⟩
   refine xm Z Z Z (xa (.int .u64 r165.1) Z (pu_extract Z (tm Z) (nb Z) Z) (xa (.sl (.own t166) 1 (r165.2.1.map AV.str)) Z (pu_extract Z (tm Z) (nb Z) Z) (xm Z Z Z (xm Z Z Z (xe (xr (xm Z Z Z (xm Z Z Z ?_))))))))
   obtain ⟨c167, h⟩ := need_of h
   refine xc Z (op_appendOM (q := 2) Z underlying35 underlying35 (.inl Z) typeInfo9 Z Z Z (by decide) (tm Z) Z (given_sl (tm Z)) c167 ?_)
   intro t168
   refine xm Z Z Z (xe (xr (xm Z Z Z (xm Z Z Z (xe ?_)))))
   obtain ⟨s170, s170e, h171⟩ := letO_of h
   refine aw_meet (ν := Unit) (fun v => [(0, .rp rg t_), (1, .int .u64 r165.1), (2, .i (if count < 1 then 1 else count)), (8, .sl (.own t168) 1 ((s160.l ++ r165.2.1).map AV.str)), (15, .i (IntKind.wrap .i64 (10 * (if 100000 < (if count < 1 then 1 else count) then 100000 else (if count < 1 then 1 else count))))), (16, .i s160.t16), (35, .bool s170)]) (fun v => [(rg, .abs (regAbs r165.2.2)), (t168, .spare)]) ?_ ?_
   ·have h := s170e.symm
    refine aw_region (xm Z Z Z (xa (.bool (decide (r165.1 = 0))) Z (pu_int (v := .bool (decide (r165.1 = 0))) Z Z (tm Z) (AEv.int _ _) Z) (xm Z Z Z ?_)))
    rcases Bool.eq_false_or_eq_true (decide (r165.1 = 0)) with hb173 | hb173
    ·replace h := ite_t (dec_t hb173) h
     refine aops_known 30 Z hb173 (xn Z Z Z (xn Z Z Z (xn Z Z Z (xn Z Z Z (xa (.bool true) Z (pu_pick (b := true) Z (tm Z) (fun _ => (AEv.bool _)) (fun h => nomatch h)) (xe ?_))))))
     subst h
     exact ⟨(), Weak.mkL [0, 2] (by decide) ⟨⟨_, Z, Z⟩, ⟨_, Z, Z⟩, trivial⟩ ⟨tm Z, tm Z, tm Z, tm Z, tm Z, tm Z, tm Z, trivial⟩⟩
    ·replace h := ite_f (dec_f hb173) h
     refine aops_known 30 Z hb173 (xq Z Z Z Z (xp (.i ((s160.l ++ r165.2.1).length : Int)) Z Z (pu_lenM Z underlying35 (tm Z)) (xq Z Z Z Z (xp (.bool (decide ((if count < 1 then 1 else count) ≤ ((s160.l ++ r165.2.1).length : Int)))) Z Z (pu_int (v := .bool (decide ((if count < 1 then 1 else count) ≤ ((s160.l ++ r165.2.1).length : Int)))) Z Z (tm Z) (tm Z) Z) (xa (.bool (decide ((if count < 1 then 1 else count) ≤ ((s160.l ++ r165.2.1).length : Int)))) Z (pu_pick (b := false) Z (tm Z) (fun h => nomatch h) (fun _ => (tm Z))) (xe ?_))))))
     subst h
     exact ⟨(), Weak.mkL [0, 2] (by decide) ⟨⟨_, Z, Z⟩, ⟨_, Z, Z⟩, trivial⟩ ⟨tm Z, tm Z, tm Z, tm Z, tm Z, tm Z, (AEv.le (tm Z) vr), trivial⟩⟩
   ·intro _
    have h := h171
    refine aw_cond (b := s170) (tm Z) (fun hb174 => ?_) (fun hb174 => ?_)
    ·replace h := ite_t hb174 h
     refine aw_exit ?_
     obtain rfl := some_of h
     have h := congrArg some (hx162 _ rfl)
     obtain rfl := some_of h
     exact ⟨t168, Weak.mkL [1, 0] (by decide) ⟨⟨_, Z, Z⟩, ⟨_, Z, Z⟩, trivial⟩ ⟨tm Z, (AEv.le (tm Z) vr), trivial⟩⟩
    ·replace h := ite_fb hb174 h
     refine aw_skip (aw_region (xa (.i (IntKind.wrap .i64 (s160.t16 + 1))) Z (pu_int (v := .i (IntKind.wrap .i64 (s160.t16 + 1))) Z Z (tm Z) (AEv.int _ _) Z) (xm Z Z Z (xe ?_))))
     obtain rfl := some_of h
     exact ⟨_, t168, Z, Weak.mkL [0, 1] (by decide) ⟨⟨_, Z, Z⟩, ⟨_, Z, Z⟩, trivial⟩ ⟨tm Z, tm Z, tm Z, (AEv.le (tm Z) vr), tm Z, (AEv.le (tm Z) vr), trivial⟩⟩
  ·replace h := ite_f (dec_f hb175) h
   refine aw_exit ?_
   obtain rfl := some_of h
   have h := congrArg some (hx162 _ rfl)
   obtain rfl := some_of h
   exact ⟨n161, Weak.mkL [1, 0] (by decide) ⟨⟨_, Z, Z⟩, ⟨_, Z, Z⟩, trivial⟩ ⟨tm Z, tm Z, trivial⟩⟩
 ·intro n132
  have h := h133
  refine xr (xm Z Z Z (xm Z Z Z (xm Z Z Z (xm Z Z Z (xe (aw_ret ?_))))))
  obtain rfl := some_of h
  exact ⟨[.int .u64 s131.1, .sl (.own n132) 1 (s131.2.1.map AV.str)], _, [(rg, .abs (regAbs s131.2.2)), (n132, .spare)], ⟨(tm Z), (tm Z), trivial⟩, vr, Weak.mkL [1, 0] (by decide) ⟨⟨_, Z, Z⟩, ⟨_, Z, Z⟩, trivial⟩ trivial, ⟨n132, Z, Z⟩⟩

theorem scan.Pick_int.ok {t_ : RP} {n_ : Int} {mem : Reg} {r : (List UInt8) × Bool × Reg} (h : scan.Pick_int t_ n_ mem = some r) (rg : Nat) : Go.Lift.Spec prog 27 [.rp rg t_, .int .u64 n_] [(rg, .abs (regAbs mem))] (fun v H => v = .tup [.str r.1, .bool r.2.1] ∧ H = [(rg, .abs (regAbs r.2.2))]) := by
 unfold scan.Pick_int at h
 refine Go.Lift.Spec.of_body (rs := [.tmp 4, .tmp 5]) func27 Z Z (nb Z) Z (xr (xa (.str ([] : List UInt8)) Z (pu_assign Z (AEv.const Z)) (xa (.bool false) Z (pu_assign Z (AEv.bool _)) (xe (xr (xm Z Z Z ?_))))))
 obtain ⟨r6, r6e, h⟩ := bind_some h
 refine xc Z (op_call (vs := [.rp rg t_]) (H := [(rg, .abs (regAbs mem))]) Z call17 ⟨(tm Z), trivial⟩ (List.Perm.refl _) (dict.Table_int.Keys.ok r6e rg) ?_)
 rintro _ _ ⟨t7, rfl, rfl⟩
 refine xm Z Z Z (xe (aw_seq (xr (xm Z Z Z (xa (.i (r6.1.length : Int)) Z (pu_lenM Z underlying35 (tm Z)) (xa (.bool (decide ((r6.1.length : Int) = 0))) Z (pu_int (v := .bool (decide ((r6.1.length : Int) = 0))) Z Z (tm Z) (AEv.int _ _) Z) (xe (aw_cond (b := decide ((r6.1.length : Int) = 0)) (tm Z) (fun hb10 => ?_) (fun hb10 => ?_)))))))))
 ·replace h := ite_t (dec_t hb10) h
  refine xr (xa (.str ([] : List UInt8)) Z (pu_assign Z (AEv.const Z)) (xa (.bool false) Z (pu_assign Z (AEv.bool _)) (xe (aw_ret ?_))))
  obtain rfl := some_of h
  exact ⟨[.str ([] : List UInt8), .bool false], _, [(rg, .abs (regAbs r6.2))], ⟨(tm Z), (tm Z), trivial⟩, vr, Weak.mkL [0] (by decide) ⟨⟨_, Z, Z⟩, trivial⟩ trivial, ⟨Z, Z⟩⟩
 ·replace h := ite_f (dec_f hb10) h
  refine aw_skip (xr (xm Z Z Z (xm Z Z Z (xm Z Z Z (xa (.i (r6.1.length : Int)) Z (pu_lenM Z underlying35 (tm Z)) (xa (.int .u64 (IntKind.wrap .u64 (r6.1.length : Int))) Z (pu_conv Z underlying3 underlying22 (tm Z)) ?_))))))
  obtain ⟨c8, h⟩ := need_of h
  refine xa (.int .u64 (n_.tmod (IntKind.wrap .u64 (r6.1.length : Int)))) Z (pu_rem Z (tm Z) (tm Z) c8) ?_
  obtain ⟨c9, h⟩ := need_of h
  refine xa (.vptr [.str (ix r6.1 (n_.tmod (IntKind.wrap .u64 (r6.1.length : Int))))]) Z (pu_indexAddrM Z underlying35 sizeOf9 (tm Z) (tm Z) c9 Z) (xc Z (op_loadV1 Z isAgg9 (tm Z) Z (xm Z Z Z (xa (.bool true) Z (pu_assign Z (AEv.bool _)) (xe (aw_ret ?_))))))
  obtain rfl := some_of h
  exact ⟨[.str (ix r6.1 (n_.tmod (IntKind.wrap .u64 (r6.1.length : Int)))), .bool true], _, [(rg, .abs (regAbs r6.2))], ⟨(tm Z), (tm Z), trivial⟩, vr, Weak.mkL [0] (by decide) ⟨⟨_, Z, Z⟩, trivial⟩ trivial, ⟨Z, Z⟩⟩

theorem mewsref08.Has.ok {l : List (List UInt8)} {s_ : List UInt8} {r : Bool} (h : mewsref08.Has l s_ = some r) : Go.Lift.Spec prog 36 [.sl .no 1 (l.map AV.str), .str s_] [] (fun v H => v = .bool r ∧ H = []) := by
 unfold mewsref08.Has at h
 refine Go.Lift.Spec.of_body (rs := [.tmp 4]) func36 Z Z (nb Z) Z (xr (xa (.bool false) Z (pu_assign Z (AEv.bool _)) (xe ?_)))
 obtain ⟨s68, s68e, h51⟩ := bind_some h
 refine aw_join (σ := Unit) (ν := Unit) (fun u v => []) (fun u v => []) (fun u => s68 = .inl u) ?_ ?_
 ·intro s50
  intro _
  rintro rfl
  have h := onSum_inl h51
  refine xr (xa (.bool false) Z (pu_assign Z (AEv.bool _)) (xe (aw_ret ?_)))
  obtain rfl := some_of h
  exact ⟨[.bool false], _, [], ⟨(tm Z), trivial⟩, vr, Weak.mkL [] (by decide) trivial trivial, ⟨Z, Z⟩⟩
 ·have h := s68e
  refine xr (xa (.i 0) Z (pu_assign Z (AEv.int _ _)) (xe (aw_block (aw_while (σ := mewsref08.Has.S0) (ν := Unit) (mewsref08.Has.body0 l s_) (fun s61 v => [(0, .sl .no 1 (l.map AV.str)), (1, .str s_), (5, .i s61.i)]) (fun s61 v => []) ⟨0⟩ () _ h (Weak.mkL [] (by decide) trivial ⟨tm Z, tm Z, tm Z, trivial⟩) ?_))))
  rintro s61 _ x63 h hx62
  unfold mewsref08.Has.body0 at h
  refine aw_seq (xr (xm Z Z Z (xm Z Z Z (xa (.i (l.length : Int)) Z (pu_lenM Z underlying35 (tm Z)) (xa (.bool (decide (s61.i < (l.length : Int)))) Z (pu_int (v := .bool (decide (s61.i < (l.length : Int)))) Z Z (tm Z) (tm Z) Z) (xe (aw_cond (b := decide (s61.i < (l.length : Int))) (tm Z) (fun hb67 => ?_) (fun hb67 => ?_))))))))
  ·replace h := ite_t (dec_t hb67) h
   refine aw_skip (aw_seq (aw_block (xr (xm Z Z Z (xm Z Z Z ?_)))))
   obtain ⟨c65, h⟩ := need_of h
   refine xa (.vptr [.str (ix l s61.i)]) Z (pu_indexAddrM Z underlying35 sizeOf9 (tm Z) (tm Z) c65 Z) (xc Z (op_loadV1 Z isAgg9 (tm Z) Z (xm Z Z Z (xa (.bool (decide ((ix l s61.i) = s_))) Z (pu_str (v := .bool (decide ((ix l s61.i) = s_))) Z Z (tm Z) (tm Z) Z) (xe (aw_cond (b := decide ((ix l s61.i) = s_)) (tm Z) (fun hb66 => ?_) (fun hb66 => ?_)))))))
   ·replace h := ite_t (dec_t hb66) h
    refine xr (xa (.bool true) Z (pu_assign Z (AEv.bool _)) (xe (aw_ret ?_)))
    obtain rfl := some_of h
    have h := congrArg some (hx62 _ rfl)
    obtain rfl := some_of h
    have h := onSum_inr h51
    obtain rfl := some_of h
    exact ⟨[.bool true], _, [], ⟨(tm Z), trivial⟩, vr, Weak.mkL [] (by decide) trivial trivial, ⟨Z, Z⟩⟩
   ·replace h := ite_f (dec_f hb66) h
    refine aw_skip (aw_region (xm Z Z Z (xa (.i (IntKind.wrap .i64 (s61.i + 1))) Z (pu_int (v := .i (IntKind.wrap .i64 (s61.i + 1))) Z Z (tm Z) (AEv.int _ _) Z) (xm Z Z Z (xe ?_)))))
    obtain rfl := some_of h
    exact ⟨_, (), Z, Weak.mkL [] (by decide) trivial ⟨tm Z, tm Z, (AEv.le (tm Z) vr), trivial⟩⟩
  ·replace h := ite_f (dec_f hb67) h
   refine aw_exit ?_
   obtain rfl := some_of h
   have h := congrArg some (hx62 _ rfl)
   exact ⟨(), (), (some_of h).symm, Weak.mkL [] (by decide) trivial trivial⟩

theorem mewslaw08.alive.ok  {r : Bool} (h : mewslaw08.alive = some r) : Go.Lift.Spec prog 28 [] [] (fun v H => v = .bool r ∧ H = []) := by
 unfold mewslaw08.alive at h
 refine Go.Lift.Spec.of_body (rs := [.tmp 0]) func28 Z Z (nb Z) Z (aw_regNew fun rg => (xr (xa (.bool false) Z (pu_assign Z (AEv.bool _)) (xe (aw_seq (aw_region ?_))))))
 obtain ⟨r60, r60e, h⟩ := bind_some h
 refine xc Z (op_call (vs := [.int .u64 1]) (H := [(rg, .abs (regAbs ([] : Reg)))]) Z call12 ⟨(AEv.int _ _), trivial⟩ (List.Perm.refl _) (dict.New_int.ok r60e rg) ?_)
 rintro _ _ ⟨rfl, rfl⟩
 refine xm Z Z Z (xe ?_)
 obtain ⟨s76, s76e, h77⟩ := bind_some h
 refine aw_meet (ν := Unit) (fun v => [(1, .rp rg r60.1)]) (fun v => [(rg, .abs (regAbs s76))]) ?_ ?_
 ·have h := s76e
  refine xr (xc Z (op_buildSlice (xs := ([[97], [98], [99], [100], [101]] : List (List UInt8)).map AV.str) (aparts := [(0, .str [97]), (1, .str [98]), (2, .str [99]), (3, .str [100]), (4, .str [101])]) Z underlying35 sizeOf9 zeroValue9 (by decide) (by decide) ⟨Z, (AEv.const Z), ⟨Z, (AEv.const Z), ⟨Z, (AEv.const Z), ⟨Z, (AEv.const Z), ⟨Z, (AEv.const Z), trivial⟩⟩⟩⟩⟩ Z Z Z (xa (.i ([[97], [98], [99], [100], [101]].length : Int)) Z (pu_lenM Z underlying35 (tm Z)) (xa (.i 0) Z (pu_move Z (AEv.int _ _)) (xe (aw_block (aw_while (σ := mewslaw08.alive.S0) (ν := Unit) (mewslaw08.alive.body0 r60) (fun s87 v => [(1, .rp rg r60.1), (11, .sl .full 1 ([[97], [98], [99], [100], [101]].map AV.str)), (12, .i ([[97], [98], [99], [100], [101]].length : Int)), (13, .i s87.t13)]) (fun s87 v => [(rg, .abs (regAbs s87.mem))]) ⟨0, r60.2⟩ () _ h (Weak.mkL [0] (by decide) ⟨⟨_, Z, Z⟩, trivial⟩ ⟨tm Z, tm Z, tm Z, tm Z, trivial⟩) ?_)))))))
  rintro s87 _ x89 h hx88
  unfold mewslaw08.alive.body0 at h
  refine xr (xa (.bool (decide (s87.t13 < ([[97], [98], [99], [100], [101]].length : Int)))) Z (pu_int (v := .bool (decide (s87.t13 < ([[97], [98], [99], [100], [101]].length : Int)))) Z Z (tm Z) (tm Z) Z) (xe (aw_seq (aw_cond (b := decide (s87.t13 < ([[97], [98], [99], [100], [101]].length : Int))) (tm Z) (fun hb93 => ?_) (fun hb93 => ?_)))))
  ·replace h := ite_t (dec_t hb93) h
   refine aw_skip (aw_seq (aw_block (xr (xm Z Z Z ?_))))
   obtain ⟨c91, h⟩ := need_of h
   refine xa (.vptr [.str (ix [[97], [98], [99], [100], [101]] s87.t13)]) Z (pu_indexAddrM Z underlying35 sizeOf9 (tm Z) (tm Z) c91 Z) (xc Z (op_loadV1 Z isAgg9 (tm Z) Z (xm Z Z Z (xm Z Z Z (xe (aw_region (xm Z Z Z (xm Z Z Z (xm Z Z Z ?_)))))))))
   obtain ⟨r92, r92e, h⟩ := bind_some h
   refine xc Z (op_call (vs := [.rp rg r60.1, .str (ix [[97], [98], [99], [100], [101]] s87.t13), .i s87.t13]) (H := [(rg, .abs (regAbs s87.mem))]) Z call13 ⟨(tm Z), (tm Z), (tm Z), trivial⟩ (List.Perm.refl _) (dict.Table_int.Put.ok r92e rg) ?_)
   rintro _ _ ⟨rfl, rfl⟩
   refine xe (aw_region (xa (.i (IntKind.wrap .i64 (s87.t13 + 1))) Z (pu_int (v := .i (IntKind.wrap .i64 (s87.t13 + 1))) Z Z (tm Z) (AEv.int _ _) Z) (xm Z Z Z (xe ?_))))
   obtain rfl := some_of h
   exact ⟨_, (), Z, Weak.mkL [0] (by decide) ⟨⟨_, Z, Z⟩, trivial⟩ ⟨tm Z, tm Z, tm Z, (AEv.le (tm Z) vr), trivial⟩⟩
  ·replace h := ite_f (dec_f hb93) h
   refine aw_exit ?_
   obtain rfl := some_of h
   have h := congrArg some (hx88 _ rfl)
   obtain rfl := some_of h
   exact ⟨(), Weak.mkL [0] (by decide) ⟨⟨_, Z, Z⟩, trivial⟩ ⟨tm Z, trivial⟩⟩
 ·intro _
  have h := h77
  refine xr (xm Z Z Z ?_)
  obtain ⟨r94, r94e, h⟩ := bind_some h
  refine xc Z (op_call (vs := [.rp rg r60.1, .int .u64 0, .i 100]) (H := [(rg, .abs (regAbs s76))]) Z call26 ⟨(tm Z), (AEv.int _ _), (AEv.int _ _), trivial⟩ (List.Perm.refl _) (scan.Scan_int.ok r94e rg) ?_)
  rintro _ _ ⟨t95, rfl, rfl⟩
  refine xm Z Z Z (xa (.int .u64 r94.1) Z (pu_extract Z (tm Z) (nb Z) Z) (xa (.sl (.own t95) 1 (r94.2.1.map AV.str)) Z (pu_extract Z (tm Z) (nb Z) Z) (xm Z Z Z (xm Z Z Z (xe (xr (xm Z Z Z ?_)))))))
  obtain ⟨r96, r96e, h⟩ := bind_some h
  refine xc Z (op_call (vs := [.rp rg r60.1, .int .u64 7]) (H := [(rg, .abs (regAbs r94.2.2))]) Z call27 ⟨(tm Z), (AEv.int _ _), trivial⟩ (List.Perm.refl _) (scan.Pick_int.ok r96e rg) ?_)
  rintro _ _ ⟨rfl, rfl⟩
  refine xm Z Z Z (xa (.str r96.1) Z (pu_extract Z (tm Z) (nb Z) Z) (xa (.bool r96.2.1) Z (pu_extract Z (tm Z) (nb Z) Z) (xm Z Z Z (xm Z Z Z (xe (aw_seq (aw_region ?_)))))))
  obtain ⟨r97, r97e, h⟩ := bind_some h
  refine xc Z (op_call (vs := [.int .u64 1]) (H := [(rg, .abs (regAbs r96.2.2))]) Z call12 ⟨(AEv.int _ _), trivial⟩ (List.Perm.refl _) (dict.New_int.ok r97e rg) ?_)
  rintro _ _ ⟨rfl, rfl⟩
  obtain ⟨r98, r98e, h⟩ := bind_some h
  refine xc Z (op_call (vs := [.rp rg r97.1, .int .u64 0, .i 1]) (H := [(rg, .abs (regAbs r97.2))]) Z call26 ⟨(tm Z), (AEv.int _ _), (AEv.int _ _), trivial⟩ (List.Perm.refl _) (scan.Scan_int.ok r98e rg) ?_)
  rintro _ _ ⟨t99, rfl, rfl⟩
  refine xm Z Z Z (xa (.int .u64 r98.1) Z (pu_extract Z (tm Z) (nb Z) Z) (xa (.sl (.own t99) 1 (r98.2.1.map AV.str)) Z (pu_extract Z (tm Z) (nb Z) Z) (xm Z Z Z (xm Z Z Z (xe ?_)))))
  obtain ⟨s108, s108e, h109⟩ := bind_some h
  refine aw_meet (ν := Unit) (fun v => [(0, .bool s108)]) (fun v => [(rg, .abs (regAbs r98.2.2))]) ?_ ?_
  ·have h := s108e
   refine aw_region (xm Z Z Z (xa (.bool (decide (r94.1 = 0))) Z (pu_int (v := .bool (decide (r94.1 = 0))) Z Z (tm Z) (AEv.int _ _) Z) (xm Z Z Z ?_)))
   rcases Bool.eq_false_or_eq_true (decide (r94.1 = 0)) with hb111 | hb111
   ·replace h := ite_t (dec_t hb111) h
    refine aops_known 40 Z hb111 (xq Z Z Z Z (xp (.i (r94.2.1.length : Int)) Z Z (pu_lenM Z underlying35 (tm Z)) (xp (.bool (decide ((r94.2.1.length : Int) = 5))) Z Z (pu_int (v := .bool (decide ((r94.2.1.length : Int) = 5))) Z Z (tm Z) (AEv.int _ _) Z) (xa (.bool (decide ((r94.2.1.length : Int) = 5))) Z (pu_pick (b := true) Z (tm Z) (fun _ => (tm Z)) (fun h => nomatch h)) (xm Z Z Z ?_)))))
    rcases Bool.eq_false_or_eq_true (decide ((r94.2.1.length : Int) = 5)) with hb112 | hb112
    ·replace h := ite_t (dec_t hb112) h
     refine aops_known 45 Z hb112 (xq Z Z Z Z ?_)
     obtain ⟨r113, r113e, h⟩ := bind_some h
     refine xg Z Z (op_call (vs := [.sl .no 1 (r94.2.1.map AV.str), .str [101]]) (H := []) Z call36 ⟨(AEv.le (tm Z) (AV.Le.forget _ _ _)), (AEv.const Z), trivial⟩ (List.Perm.refl _) (mewsref08.Has.ok r113e) ?_)
     rintro _ _ ⟨rfl, rfl⟩
     refine xa (.bool r113) Z (pu_pick (b := true) Z (tm Z) (fun _ => (tm Z)) (fun h => nomatch h)) (xm Z Z Z ?_)
     rcases Bool.eq_false_or_eq_true r113 with hb114 | hb114
     ·replace h := ite_t hb114 h
      refine aops_known 49 Z hb114 (xq Z Z Z Z (xa (.bool r96.2.1) Z (pu_pick (b := true) Z (tm Z) (fun _ => (tm Z)) (fun h => nomatch h)) (xm Z Z Z ?_)))
      rcases Bool.eq_false_or_eq_true r96.2.1 with hb115 | hb115
      ·replace h := ite_t hb115 h
       refine aops_known 52 Z hb115 (xq Z Z Z Z (xq Z Z Z Z ?_))
       obtain ⟨r116, r116e, h⟩ := bind_some h
       refine xg Z Z (op_call (vs := [.sl .no 1 (r94.2.1.map AV.str), .str r96.1]) (H := []) Z call36 ⟨(AEv.le (tm Z) (AV.Le.forget _ _ _)), (tm Z), trivial⟩ (List.Perm.refl _) (mewsref08.Has.ok r116e) ?_)
       rintro _ _ ⟨rfl, rfl⟩
       refine xa (.bool r116) Z (pu_pick (b := true) Z (tm Z) (fun _ => (tm Z)) (fun h => nomatch h)) (xm Z Z Z ?_)
       rcases Bool.eq_false_or_eq_true r116 with hb117 | hb117
       ·replace h := ite_t hb117 h
        refine aops_known 57 Z hb117 (xq Z Z Z Z (xp (.bool (decide (r98.1 = 0))) Z Z (pu_int (v := .bool (decide (r98.1 = 0))) Z Z (tm Z) (AEv.int _ _) Z) (xa (.bool (decide (r98.1 = 0))) Z (pu_pick (b := true) Z (tm Z) (fun _ => (tm Z)) (fun h => nomatch h)) (xm Z Z Z ?_))))
        rcases Bool.eq_false_or_eq_true (decide (r98.1 = 0)) with hb118 | hb118
        ·replace h := ite_t (dec_t hb118) h
         refine aops_known 61 Z hb118 (xq Z Z Z Z (xp (.i (r98.2.1.length : Int)) Z Z (pu_lenM Z underlying35 (tm Z)) (xp (.bool (decide ((r98.2.1.length : Int) = 0))) Z Z (pu_int (v := .bool (decide ((r98.2.1.length : Int) = 0))) Z Z (tm Z) (AEv.int _ _) Z) (xa (.bool (decide ((r98.2.1.length : Int) = 0))) Z (pu_pick (b := true) Z (tm Z) (fun _ => (tm Z)) (fun h => nomatch h)) (xm Z Z Z (xe ?_))))))
         obtain rfl := some_of h
         exact ⟨(), Weak.mkL [0] (by decide) ⟨⟨_, Z, Z⟩, trivial⟩ ⟨(AEv.le (tm Z) vr), trivial⟩⟩
        ·replace h := ite_f (dec_f hb118) h
         refine aops_known 61 Z hb118 (xn Z Z Z (xn Z Z Z (xn Z Z Z (xa (.bool false) Z (pu_pick (b := false) Z (tm Z) (fun h => nomatch h) (fun _ => (AEv.bool _))) (xm Z Z Z (xe ?_))))))
         obtain rfl := some_of h
         exact ⟨(), Weak.mkL [0] (by decide) ⟨⟨_, Z, Z⟩, trivial⟩ ⟨tm Z, trivial⟩⟩
       ·replace h := ite_fb hb117 h
        refine aops_known 57 Z hb117 (xn Z Z Z (xn Z Z Z (xa (.bool false) Z (pu_pick (b := false) Z (tm Z) (fun h => nomatch h) (fun _ => (AEv.bool _))) (xm Z Z Z (xn Z Z Z (xn Z Z Z (xn Z Z Z (xa (.bool false) Z (pu_pick (b := false) Z (tm Z) (fun h => nomatch h) (fun _ => (AEv.bool _))) (xm Z Z Z ?_)))))))))
        refine xe ?_
        obtain rfl := some_of h
        exact ⟨(), Weak.mkL [0] (by decide) ⟨⟨_, Z, Z⟩, trivial⟩ ⟨tm Z, trivial⟩⟩
      ·replace h := ite_fb hb115 h
       refine aops_known 52 Z hb115 (xn Z Z Z (xn Z Z Z (xn Z Z Z (xa (.bool false) Z (pu_pick (b := false) Z (tm Z) (fun h => nomatch h) (fun _ => (AEv.bool _))) (xm Z Z Z (xn Z Z Z (xn Z Z Z (xa (.bool false) Z (pu_pick (b := false) Z (tm Z) (fun h => nomatch h) (fun _ => (AEv.bool _))) (xm Z Z Z ?_)))))))))
       refine xn Z Z Z (xn Z Z Z (xn Z Z Z (xa (.bool false) Z (pu_pick (b := false) Z (tm Z) (fun h => nomatch h) (fun _ => (AEv.bool _))) (xm Z Z Z (xe ?_)))))
       obtain rfl := some_of h
       exact ⟨(), Weak.mkL [0] (by decide) ⟨⟨_, Z, Z⟩, trivial⟩ ⟨tm Z, trivial⟩⟩
     ·replace h := ite_fb hb114 h
      refine aops_known 49 Z hb114 (xn Z Z Z (xa (.bool false) Z (pu_pick (b := false) Z (tm Z) (fun h => nomatch h) (fun _ => (AEv.bool _))) (xm Z Z Z (xn Z Z Z (xn Z Z Z (xn Z Z Z (xa (.bool false) Z (pu_pick (b := false) Z (tm Z) (fun h => nomatch h) (fun _ => (AEv.bool _))) (xm Z Z Z (xn Z Z Z ?_)))))))))
      refine xn Z Z Z (xa (.bool false) Z (pu_pick (b := false) Z (tm Z) (fun h => nomatch h) (fun _ => (AEv.bool _))) (xm Z Z Z (xn Z Z Z (xn Z Z Z (xn Z Z Z (xa (.bool false) Z (pu_pick (b := false) Z (tm Z) (fun h => nomatch h) (fun _ => (AEv.bool _))) (xm Z Z Z (xe ?_))))))))
      obtain rfl := some_of h
      exact ⟨(), Weak.mkL [0] (by decide) ⟨⟨_, Z, Z⟩, trivial⟩ ⟨tm Z, trivial⟩⟩
    ·replace h := ite_f (dec_f hb112) h
     refine aops_known 45 Z hb112 (xn Z Z Z (xn Z Z Z (xa (.bool false) Z (pu_pick (b := false) Z (tm Z) (fun h => nomatch h) (fun _ => (AEv.bool _))) (xm Z Z Z (xn Z Z Z (xa (.bool false) Z (pu_pick (b := false) Z (tm Z) (fun h => nomatch h) (fun _ => (AEv.bool _))) (xm Z Z Z (xn Z Z Z (xn Z Z Z ?_)))))))))
     refine xn Z Z Z (xa (.bool false) Z (pu_pick (b := false) Z (tm Z) (fun h => nomatch h) (fun _ => (AEv.bool _))) (xm Z Z Z (xn Z Z Z (xn Z Z Z (xa (.bool false) Z (pu_pick (b := false) Z (tm Z) (fun h => nomatch h) (fun _ => (AEv.bool _))) (xm Z Z Z (xn Z Z Z (xn Z Z Z (xn Z Z Z ?_)))))))))
     refine xa (.bool false) Z (pu_pick (b := false) Z (tm Z) (fun h => nomatch h) (fun _ => (AEv.bool _))) (xm Z Z Z (xe ?_))
     obtain rfl := some_of h
     exact ⟨(), Weak.mkL [0] (by decide) ⟨⟨_, Z, Z⟩, trivial⟩ ⟨tm Z, trivial⟩⟩
   ·replace h := ite_f (dec_f hb111) h
    refine aops_known 40 Z hb111 (xn Z Z Z (xn Z Z Z (xn Z Z Z (xa (.bool false) Z (pu_pick (b := false) Z (tm Z) (fun h => nomatch h) (fun _ => (AEv.bool _))) (xm Z Z Z (xn Z Z Z (xn Z Z Z (xa (.bool false) Z (pu_pick (b := false) Z (tm Z) (fun h => nomatch h) (fun _ => (AEv.bool _))) (xm Z Z Z ?_)))))))))
    refine xn Z Z Z (xa (.bool false) Z (pu_pick (b := false) Z (tm Z) (fun h => nomatch h) (fun _ => (AEv.bool _))) (xm Z Z Z (xn Z Z Z (xn Z Z Z (xn Z Z Z (xa (.bool false) Z (pu_pick (b := false) Z (tm Z) (fun h => nomatch h) (fun _ => (AEv.bool _))) (xm Z Z Z (xn Z Z Z (xn Z Z Z ?_)))))))))
    refine xa (.bool false) Z (pu_pick (b := false) Z (tm Z) (fun h => nomatch h) (fun _ => (AEv.bool _))) (xm Z Z Z (xn Z Z Z (xn Z Z Z (xn Z Z Z (xa (.bool false) Z (pu_pick (b := false) Z (tm Z) (fun h => nomatch h) (fun _ => (AEv.bool _))) (xm Z Z Z (xe ?_)))))))
    obtain rfl := some_of h
    exact ⟨(), Weak.mkL [0] (by decide) ⟨⟨_, Z, Z⟩, trivial⟩ ⟨tm Z, trivial⟩⟩
  ·intro _
   have h := h109
   refine aw_ret ?_
   obtain rfl := some_of h
   exact ⟨[.bool s108], _, [], ⟨(tm Z), trivial⟩, vr, Weak.mkL [] (by decide) trivial trivial, ⟨Z, Z⟩⟩

theorem mewslaw08.far.ok {l : List mewslaw07.Op} {r : Bool} (h : mewslaw08.far l = some r) : Go.Lift.Spec prog 29 [.sl .no 3 (l.map mewslaw07.Op.av)] [] (fun v H => v = .bool r ∧ H = []) := by
 unfold mewslaw08.far at h
 refine Go.Lift.Spec.of_body (rs := [.tmp 2]) func29 Z Z (nb Z) Z (xr (xa (.bool false) Z (pu_assign Z (AEv.bool _)) (xe ?_)))
 obtain ⟨s80, s80e, h60⟩ := bind_some h
 refine aw_join (σ := Unit) (ν := Unit) (fun u v => [(0, .sl .no 3 (l.map mewslaw07.Op.av))]) (fun u v => []) (fun u => s80 = .inl u) ?_ ?_
 ·intro s59
  intro _
  rintro rfl
  have h := onSum_inl h60
  refine xr (xm Z Z Z (xa (.i (l.length : Int)) Z (pu_lenM Z underlying23 (tm Z)) (xa (.bool (decide (300 < (l.length : Int)))) Z (pu_int (v := .bool (decide (300 < (l.length : Int)))) Z Z (tm Z) (AEv.int _ _) Z) (xm Z Z Z (xe (aw_ret ?_))))))
  obtain rfl := some_of h
  exact ⟨[.bool (decide (300 < (l.length : Int)))], _, [], ⟨(tm Z), trivial⟩, vr, Weak.mkL [] (by decide) trivial trivial, ⟨Z, Z⟩⟩
 ·have h := s80e
  refine xr (xm Z Z Z (xa (.i (l.length : Int)) Z (pu_lenM Z underlying23 (tm Z)) (xa (.i 0) Z (pu_move Z (AEv.int _ _)) (xe (aw_block (aw_while (σ := mewslaw08.far.S0) (ν := Unit) (mewslaw08.far.body0 l) (fun s72 v => [(0, .sl .no 3 (l.map mewslaw07.Op.av)), (5, .sl .no 3 (l.map mewslaw07.Op.av)), (6, .i (l.length : Int)), (7, .i s72.t7)]) (fun s72 v => []) ⟨0⟩ () _ h (Weak.mkL [] (by decide) trivial ⟨tm Z, tm Z, tm Z, tm Z, trivial⟩) ?_))))))
  rintro s72 _ x74 h hx73
  unfold mewslaw08.far.body0 at h
  refine xr (xa (.bool (decide (s72.t7 < (l.length : Int)))) Z (pu_int (v := .bool (decide (s72.t7 < (l.length : Int)))) Z Z (tm Z) (tm Z) Z) (xe (aw_seq (aw_cond (b := decide (s72.t7 < (l.length : Int))) (tm Z) (fun hb79 => ?_) (fun hb79 => ?_)))))
  ·replace h := ite_t (dec_t hb79) h
   refine aw_skip (aw_seq (aw_block (aw_seq (aw_region ?_))))
   obtain ⟨c76, h⟩ := need_of h
   refine xa (.vptr [.i (ix l s72.t7).Kind, .str (ix l s72.t7).Key, .i (ix l s72.t7).V]) Z (pu_indexAddrM Z underlying23 sizeOf29 (tm Z) (tm Z) c76 Z) (xc Z (op_loadVN Z isAgg29 sizeOf29 (tm Z) (nb Z) Z (xc Z (op_alloc (cs := [.i 0, .str ([] : List UInt8), .i 0]) (v := .agg [.i 0, .str ([] : List UInt8), .i 0]) Z zeroValue29 Z Z Z ?_))))
   intro p77
   refine ac0 Z Z (op_store (i := 0) (cs' := [.i (ix l s72.t7).Kind, .str (ix l s72.t7).Key, .i (ix l s72.t7).V]) Z sizeOf29 (tm Z) (v := .agg [.i (ix l s72.t7).Kind, .str (ix l s72.t7).Key, .i (ix l s72.t7).V]) (tm Z) Z Z Z (nb Z) Z (xe (xr (xa (.ptr p77 1) Z (fa Z underlying29 Z sizeOf9 Z Z Z) (xc Z (op_load1 (i := 0) Z isAgg9 (tm Z) Z Z (xa (.i ((ix l s72.t7).Key.length : Int)) Z (pu_strLen Z underlying9 (tm Z)) (xa (.bool (decide (200 < ((ix l s72.t7).Key.length : Int)))) Z (pu_int (v := .bool (decide (200 < ((ix l s72.t7).Key.length : Int)))) Z Z (tm Z) (AEv.int _ _) Z) (xe (aw_cond (b := decide (200 < ((ix l s72.t7).Key.length : Int))) (tm Z) (fun hb78 => ?_) (fun hb78 => ?_)))))))))))
   ·replace h := ite_t (dec_t hb78) h
    refine xr (xa (.bool true) Z (pu_assign Z (AEv.bool _)) (xe (aw_ret ?_)))
    obtain rfl := some_of h
    have h := congrArg some (hx73 _ rfl)
    obtain rfl := some_of h
    have h := onSum_inr h60
    obtain rfl := some_of h
    exact ⟨[.bool true], _, [], ⟨(tm Z), trivial⟩, vr, Weak.mkL [] (by decide) trivial trivial, ⟨Z, Z⟩⟩
   ·replace h := ite_f (dec_f hb78) h
    refine aw_skip (aw_region (xa (.i (IntKind.wrap .i64 (s72.t7 + 1))) Z (pu_int (v := .i (IntKind.wrap .i64 (s72.t7 + 1))) Z Z (tm Z) (AEv.int _ _) Z) (xm Z Z Z (xe ?_))))
    obtain rfl := some_of h
    exact ⟨_, (), Z, Weak.mkL [] (by decide) trivial ⟨tm Z, tm Z, tm Z, (AEv.le (tm Z) vr), trivial⟩⟩
  ·replace h := ite_f (dec_f hb79) h
   refine aw_exit ?_
   obtain rfl := some_of h
   have h := congrArg some (hx73 _ rfl)
   exact ⟨(), (), (some_of h).symm, Weak.mkL [] (by decide) trivial ⟨tm Z, trivial⟩⟩

theorem mewslaw08.does.ok {t_ : RP} {o_ : mewslaw07.Op} {mem : Reg} {r : Reg} (h : mewslaw08.does t_ o_ mem = some r) (rg : Nat) : Go.Lift.Spec prog 31 [.rp rg t_, .agg [.i o_.Kind, .str o_.Key, .i o_.V]] [(rg, .abs (regAbs mem))] (fun v H => v = .tup [] ∧ H = [(rg, .abs (regAbs r))]) := by
 unfold mewslaw08.does at h
 refine Go.Lift.Spec.of_body (rs := []) func31 Z Z (nb Z) Z (aw_upd (xr (xc Z (op_box (cs := [.i o_.Kind, .str o_.Key, .i o_.V]) (v := .agg [.i o_.Kind, .str o_.Key, .i o_.V]) Z (tm Z) Z Z ?_))))
 intro p7
 refine xe (xr (xa (.ptr p7 0) Z (fa Z underlying29 Z sizeOf3 Z Z Z) (xc Z (op_load1 (i := 0) Z isAgg3 (tm Z) Z Z (xe (aw_block (xr (xa (.bool (decide (o_.Kind = 0))) Z (pu_int (v := .bool (decide (o_.Kind = 0))) Z Z (tm Z) (AEv.int _ _) Z) ?_))))))))
 refine xm Z Z Z (xe (aw_cond (b := decide (o_.Kind = 0)) (tm Z) (fun hb12 => ?_) (fun hb12 => ?_)))
 ·replace h := ite_t (dec_t hb12) h
  refine aw_region (xm Z Z Z (xa (.ptr p7 1) Z (fa Z underlying29 Z sizeOf9 Z Z Z) (xc Z (op_load1 (i := 0) Z isAgg9 (tm Z) Z Z (xa (.ptr p7 2) Z (fa Z underlying29 Z sizeOf3 Z Z Z) (xc Z (op_load1 (i := 0) Z isAgg3 (tm Z) Z Z ?_)))))))
  obtain ⟨r8, r8e, h⟩ := bind_some h
  refine aops_weak (weak_pick [1, 0] (by decide) Z) (xc Z (op_call (vs := [.rp rg t_, .str o_.Key, .i o_.V]) (H := [(rg, .abs (regAbs mem))]) Z call13 ⟨(tm Z), (tm Z), (tm Z), trivial⟩ (List.Perm.refl _) (dict.Table_int.Put.ok r8e rg) ?_))
  rintro _ _ ⟨rfl, rfl⟩
  refine xe (upd_done ?_)
  obtain rfl := some_of h
  exact ⟨[], _, [(rg, .abs (regAbs r8.2))], trivial, vr, Weak.mkL [0] (by decide) ⟨⟨_, Z, Z⟩, trivial⟩ trivial, ⟨Z, Z⟩⟩
 ·replace h := ite_f (dec_f hb12) h
  refine xr (xa (.bool (decide (o_.Kind = 1))) Z (pu_int (v := .bool (decide (o_.Kind = 1))) Z Z (tm Z) (AEv.int _ _) Z) (xm Z Z Z (xe (aw_cond (b := decide (o_.Kind = 1)) (tm Z) (fun hb11 => ?_) (fun hb11 => ?_)))))
  ·replace h := ite_t (dec_t hb11) h
   refine aw_region (xm Z Z Z (xa (.ptr p7 1) Z (fa Z underlying29 Z sizeOf9 Z Z Z) (xc Z (op_load1 (i := 0) Z isAgg9 (tm Z) Z Z ?_))))
   obtain ⟨r9, r9e, h⟩ := bind_some h
   refine aops_weak (weak_pick [1, 0] (by decide) Z) (xc Z (op_call (vs := [.rp rg t_, .str o_.Key]) (H := [(rg, .abs (regAbs mem))]) Z call14 ⟨(tm Z), (tm Z), trivial⟩ (List.Perm.refl _) (dict.Table_int.Drop.ok r9e rg) ?_))
   rintro _ _ ⟨rfl, rfl⟩
   refine xe (upd_done ?_)
   obtain rfl := some_of h
   exact ⟨[], _, [(rg, .abs (regAbs r9.2))], trivial, vr, Weak.mkL [0] (by decide) ⟨⟨_, Z, Z⟩, trivial⟩ trivial, ⟨Z, Z⟩⟩
  ·replace h := ite_f (dec_f hb11) h
   refine aw_region (xm Z Z Z (xa (.ptr p7 2) Z (fa Z underlying29 Z sizeOf3 Z Z Z) (xc Z (op_load1 (i := 0) Z isAgg3 (tm Z) Z Z ?_))))
   obtain ⟨r10, r10e, h⟩ := bind_some h
   refine aops_weak (weak_pick [1, 0] (by decide) Z) (xc Z (op_call (vs := [.rp rg t_, .i o_.V]) (H := [(rg, .abs (regAbs mem))]) Z call15 ⟨(tm Z), (tm Z), trivial⟩ (List.Perm.refl _) (dict.Table_int.Step.ok r10e rg) ?_))
   rintro _ _ ⟨rfl, rfl⟩
   refine xe (upd_done ?_)
   obtain rfl := some_of h
   exact ⟨[], _, [(rg, .abs (regAbs r10.2))], trivial, vr, Weak.mkL [0] (by decide) ⟨⟨_, Z, Z⟩, trivial⟩ trivial, ⟨Z, Z⟩⟩

theorem mewslaw08.without.ok {l : List (List UInt8)} {s_ : List UInt8} {r : List (List UInt8)} (h : mewslaw08.without l s_ = some r) : Go.Lift.Spec prog 37 [.sl .no 1 (l.map AV.str), .str s_] [] (fun v H => ∃ n0, v = .sl (.own n0) 1 (r.map AV.str) ∧ H = [(n0, .spare)]) := by
 unfold mewslaw08.without at h
 refine Go.Lift.Spec.of_body (rs := [.tmp 4]) func37 Z Z (nb Z) Z (xr (xa (.sl .full 1 (([] : List (List UInt8)).map AV.str)) Z (pu_assign Z (AEv.nil 1 (by decide))) (xe (xr (xa (.sl .full 1 (([] : List (List UInt8)).map AV.str)) Z (pu_assign Z (AEv.nil 1 (by decide))) (xe ?_))))))
 obtain ⟨s152, s152e, h154⟩ := bind_some h
 refine aw_meet (ν := Nat) (fun v => [(5, .sl (.own v) 1 (s152.map AV.str))]) (fun v => [(v, .spare)]) ?_ ?_
 ·have h := s152e
  refine xr (xm Z Z Z (xa (.i (l.length : Int)) Z (pu_lenM Z underlying35 (tm Z)) (xa (.i 0) Z (pu_move Z (AEv.int _ _)) (xe (aw_block (aw_claim 5 (tm Z) fun t204 => (aw_while (σ := mewslaw08.without.S0) (ν := Nat) (mewslaw08.without.body0 l s_) (fun s186 v => [(1, .str s_), (5, .sl (.own v) 1 (s186.out.map AV.str)), (8, .sl .no 1 (l.map AV.str)), (9, .i (l.length : Int)), (10, .i s186.t10)]) (fun s186 v => [(v, .spare)]) ⟨([] : List (List UInt8)), 0⟩ t204 _ h (Weak.mkL [0] (by decide) ⟨⟨_, Z, Z⟩, trivial⟩ ⟨tm Z, tm Z, tm Z, tm Z, tm Z, trivial⟩) ?_)))))))
  rintro s186 n187 x189 h hx188
  unfold mewslaw08.without.body0 at h
  refine xr (xa (.bool (decide (s186.t10 < (l.length : Int)))) Z (pu_int (v := .bool (decide (s186.t10 < (l.length : Int)))) Z Z (tm Z) (tm Z) Z) (xe (aw_seq (aw_cond (b := decide (s186.t10 < (l.length : Int))) (tm Z) (fun hb203 => ?_) (fun hb203 => ?_)))))
  ·replace h := ite_t (dec_t hb203) h
   refine aw_skip ?_
   obtain ⟨s195, s195e, h197⟩ := bind_some h
   refine aw_meet (ν := Nat) (fun v => [(1, .str s_), (5, .sl (.own v) 1 (s195.map AV.str)), (8, .sl .no 1 (l.map AV.str)), (9, .i (l.length : Int)), (10, .i s186.t10)]) (fun v => [(v, .spare)]) ?_ ?_
   ·have h := s195e
    refine aw_block (aw_seq (aw_region ?_))
    obtain ⟨c199, h⟩ := need_of h
    refine xa (.vptr [.str (ix l s186.t10)]) Z (pu_indexAddrM Z underlying35 sizeOf9 (tm Z) (tm Z) c199 Z) (xc Z (op_loadV1 Z isAgg9 (tm Z) Z (xm Z Z Z (xe (xr (xm Z Z Z (xm Z Z Z (xa (.bool (!decide ((ix l s186.t10) = s_))) Z (pu_str (v := .bool (!decide ((ix l s186.t10) = s_))) Z Z (tm Z) (tm Z) Z) (xe ?_)))))))))
    refine aw_cond (b := (!decide ((ix l s186.t10) = s_))) (tm Z) (fun hb202 => ?_) (fun hb202 => ?_)
    ·replace h := ite_f (ndec_t hb202) h
     refine aw_region (xm Z Z Z (xm Z Z Z (xc Z (op_buildSlice (xs := ([ix l s186.t10] : List (List UInt8)).map AV.str) (aparts := [(0, .str (ix l s186.t10))]) Z underlying35 sizeOf9 zeroValue9 (by decide) (by decide) ⟨Z, (tm Z), trivial⟩ Z Z Z ?_))))
     obtain ⟨c200, h⟩ := need_of h
     refine xc Z (op_appendOM (q := 0) Z underlying35 underlying35 (.inl Z) typeInfo9 Z Z Z (by decide) (tm Z) Z (given_sl (tm Z)) c200 ?_)
     intro t201
     refine xm Z Z Z (xe ?_)
     obtain rfl := some_of h
     exact ⟨t201, Weak.mkL [0] (by decide) ⟨⟨_, Z, Z⟩, trivial⟩ ⟨tm Z, (AEv.le (tm Z) vr), tm Z, tm Z, tm Z, trivial⟩⟩
    ·replace h := ite_t (ndec_f hb202) h
     refine aw_skip ?_
     obtain rfl := some_of h
     exact ⟨n187, Weak.mkL [0] (by decide) ⟨⟨_, Z, Z⟩, trivial⟩ ⟨tm Z, tm Z, tm Z, tm Z, tm Z, trivial⟩⟩
   ·intro n196
    have h := h197
    refine aw_region (xa (.i (IntKind.wrap .i64 (s186.t10 + 1))) Z (pu_int (v := .i (IntKind.wrap .i64 (s186.t10 + 1))) Z Z (tm Z) (AEv.int _ _) Z) (xm Z Z Z (xe ?_)))
    obtain rfl := some_of h
    exact ⟨_, n196, Z, Weak.mkL [0] (by decide) ⟨⟨_, Z, Z⟩, trivial⟩ ⟨tm Z, tm Z, tm Z, tm Z, (AEv.le (tm Z) vr), trivial⟩⟩
  ·replace h := ite_f (dec_f hb203) h
   refine aw_exit ?_
   obtain rfl := some_of h
   have h := congrArg some (hx188 _ rfl)
   obtain rfl := some_of h
   exact ⟨n187, Weak.mkL [0] (by decide) ⟨⟨_, Z, Z⟩, trivial⟩ ⟨tm Z, trivial⟩⟩
 ·intro n153
  have h := h154
  refine xr (xm Z Z Z (xm Z Z Z (xe (aw_ret ?_))))
  obtain rfl := some_of h
  exact ⟨[.sl (.own n153) 1 (s152.map AV.str)], _, [(n153, .spare)], ⟨(tm Z), trivial⟩, vr, Weak.mkL [0] (by decide) ⟨⟨_, Z, Z⟩, trivial⟩ trivial, ⟨n153, Z, Z⟩⟩

theorem mewslaw08.ScanFinds.ok {seed : Int} {ahead : List mewslaw07.Op} {between : List mewslaw07.Op} {r : Bool} (h : mewslaw08.ScanFinds seed ahead between = some r) : Go.Lift.Spec prog 8 [.int .u64 seed, .sl .no 3 (ahead.map mewslaw07.Op.av), .sl .no 3 (between.map mewslaw07.Op.av)] [] (fun v H => v = .bool r ∧ H = []) := by
 unfold mewslaw08.ScanFinds at h
 refine Go.Lift.Spec.of_body (rs := [.tmp 6]) func8 Z Z (nb Z) Z (aw_regNew fun rg => (xr (xa (.bool false) Z (pu_assign Z (AEv.bool _)) (xe (aw_seq ?_)))))
 obtain ⟨s834, s834e, h835⟩ := bind_some h
 refine aw_meet (ν := Unit) (fun v => [(0, .int .u64 seed), (1, .sl .no 3 (ahead.map mewslaw07.Op.av)), (2, .sl .no 3 (between.map mewslaw07.Op.av)), (26, .bool s834)]) (fun v => [(rg, .abs (regAbs ([] : Reg)))]) ?_ ?_
 ·have h := s834e
  refine aw_region (xm Z Z Z ?_)
  obtain ⟨r837, r837e, h⟩ := bind_some h
  refine xc Z (op_call (vs := [.sl .no 3 (ahead.map mewslaw07.Op.av)]) (H := []) Z call29 ⟨(tm Z), trivial⟩ (List.Perm.refl _) (mewslaw08.far.ok r837e) ?_)
  rintro _ _ ⟨rfl, rfl⟩
  refine xm Z Z Z ?_
  rcases Bool.eq_false_or_eq_true r837 with hb838 | hb838
  ·replace h := ite_t hb838 h
   refine aops_known 23 Z hb838 (xn Z Z Z (xn Z Z Z (xa (.bool true) Z (pu_pick (b := true) Z (tm Z) (fun _ => (AEv.bool _)) (fun h => nomatch h)) (xe ?_))))
   obtain rfl := some_of h
   exact ⟨(), Weak.mkL [0] (by decide) ⟨⟨_, Z, Z⟩, trivial⟩ ⟨tm Z, tm Z, tm Z, tm Z, trivial⟩⟩
  ·replace h := ite_fb hb838 h
   refine aops_known 23 Z hb838 (xq Z Z Z Z ?_)
   obtain ⟨r839, r839e, h⟩ := bind_some h
   refine xg Z Z (op_call (vs := [.sl .no 3 (between.map mewslaw07.Op.av)]) (H := []) Z call29 ⟨(tm Z), trivial⟩ (List.Perm.refl _) (mewslaw08.far.ok r839e) ?_)
   rintro _ _ ⟨rfl, rfl⟩
   refine xa (.bool r839) Z (pu_pick (b := false) Z (tm Z) (fun h => nomatch h) (fun _ => (tm Z))) (xe ?_)
   obtain rfl := some_of h
   exact ⟨(), Weak.mkL [0] (by decide) ⟨⟨_, Z, Z⟩, trivial⟩ ⟨tm Z, tm Z, tm Z, tm Z, trivial⟩⟩
 ·intro _
  have h := h835
  refine aw_cond (b := s834) (tm Z) (fun hb1660 => ?_) (fun hb1660 => ?_)
  ·replace h := ite_t hb1660 h
   refine aw_seq (aw_region ?_)
   obtain ⟨r840, r840e, h⟩ := bind_some h
   refine xc Z (op_call (vs := []) (H := []) Z call28 trivial (List.Perm.refl _) (mewslaw08.alive.ok r840e) ?_)
   rintro _ _ ⟨rfl, rfl⟩
   refine xm Z Z Z (xe (aw_ret ?_))
   obtain rfl := some_of h
   exact ⟨[.bool r840], _, [], ⟨(tm Z), trivial⟩, vr, Weak.mkL [] (by decide) trivial trivial, ⟨Z, Z⟩⟩
  ·replace h := ite_fb hb1660 h
   refine aw_skip (xr (xm Z Z Z ?_))
   obtain ⟨r841, r841e, h⟩ := bind_some h
   refine xc Z (op_call (vs := [.int .u64 seed]) (H := [(rg, .abs (regAbs ([] : Reg)))]) Z call12 ⟨(tm Z), trivial⟩ (List.Perm.refl _) (dict.New_int.ok r841e rg) ?_)
   rintro _ _ ⟨rfl, rfl⟩
   refine xm Z Z Z (xe ?_)
   obtain ⟨s860, s860e, h861⟩ := bind_some h
   refine aw_meet (ν := Unit) (fun v => [(2, .sl .no 3 (between.map mewslaw07.Op.av)), (7, .rp rg r841.1)]) (fun v => [(rg, .abs (regAbs s860))]) ?_ ?_
   ·have h := s860e
    refine xr (xm Z Z Z (xa (.i (ahead.length : Int)) Z (pu_lenM Z underlying23 (tm Z)) (xa (.i 0) Z (pu_move Z (AEv.int _ _)) (xe (aw_block (aw_while (σ := mewslaw08.ScanFinds.S0) (ν := Unit) (mewslaw08.ScanFinds.body0 ahead r841) (fun s873 v => [(2, .sl .no 3 (between.map mewslaw07.Op.av)), (7, .rp rg r841.1), (30, .sl .no 3 (ahead.map mewslaw07.Op.av)), (31, .i (ahead.length : Int)), (32, .i s873.t32)]) (fun s873 v => [(rg, .abs (regAbs s873.mem))]) ⟨0, r841.2⟩ () _ h (Weak.mkL [0] (by decide) ⟨⟨_, Z, Z⟩, trivial⟩ ⟨tm Z, tm Z, tm Z, tm Z, tm Z, trivial⟩) ?_))))))
    rintro s873 _ x875 h hx874
    unfold mewslaw08.ScanFinds.body0 at h
    refine xr (xa (.bool (decide (s873.t32 < (ahead.length : Int)))) Z (pu_int (v := .bool (decide (s873.t32 < (ahead.length : Int)))) Z Z (tm Z) (tm Z) Z) (xe (aw_seq (aw_cond (b := decide (s873.t32 < (ahead.length : Int))) (tm Z) (fun hb880 => ?_) (fun hb880 => ?_)))))
    ·replace h := ite_t (dec_t hb880) h
     refine aw_skip (aw_seq (aw_block (aw_seq (aw_region ?_))))
     obtain ⟨c877, h⟩ := need_of h
     refine xa (.vptr [.i (ix ahead s873.t32).Kind, .str (ix ahead s873.t32).Key, .i (ix ahead s873.t32).V]) Z (pu_indexAddrM Z underlying23 sizeOf29 (tm Z) (tm Z) c877 Z) (xc Z (op_loadVN Z isAgg29 sizeOf29 (tm Z) (nb Z) Z (xc Z (op_alloc (cs := [.i 0, .str ([] : List UInt8), .i 0]) (v := .agg [.i 0, .str ([] : List UInt8), .i 0]) Z zeroValue29 Z Z Z ?_))))
     intro p878
     refine ac0 Z Z (op_store (i := 0) (cs' := [.i (ix ahead s873.t32).Kind, .str (ix ahead s873.t32).Key, .i (ix ahead s873.t32).V]) Z sizeOf29 (tm Z) (v := .agg [.i (ix ahead s873.t32).Kind, .str (ix ahead s873.t32).Key, .i (ix ahead s873.t32).V]) (tm Z) Z Z Z (nb Z) Z (xe (aw_region (xm Z Z Z (xc Z (op_loadN (i := 0) Z isAgg29 sizeOf29 (tm Z) Z (nb Z) Z ?_))))))
     obtain ⟨r879, r879e, h⟩ := bind_some h
     refine aops_weak (weak_pick [1, 0] (by decide) Z) (xc Z (op_call (vs := [.rp rg r841.1, .agg [.i (ix ahead s873.t32).Kind, .str (ix ahead s873.t32).Key, .i (ix ahead s873.t32).V]]) (H := [(rg, .abs (regAbs s873.mem))]) Z call31 ⟨(tm Z), (tm Z), trivial⟩ (List.Perm.refl _) (mewslaw08.does.ok r879e rg) ?_))
     rintro _ _ ⟨rfl, rfl⟩
     refine xe (aw_region (xa (.i (IntKind.wrap .i64 (s873.t32 + 1))) Z (pu_int (v := .i (IntKind.wrap .i64 (s873.t32 + 1))) Z Z (tm Z) (AEv.int _ _) Z) (xm Z Z Z (xe ?_))))
     obtain rfl := some_of h
     exact ⟨_, (), Z, Weak.mkL [0] (by decide) ⟨⟨_, Z, Z⟩, trivial⟩ ⟨tm Z, tm Z, tm Z, tm Z, (AEv.le (tm Z) vr), trivial⟩⟩
    ·replace h := ite_f (dec_f hb880) h
     refine aw_exit ?_
     obtain rfl := some_of h
     have h := congrArg some (hx874 _ rfl)
     obtain rfl := some_of h
     exact ⟨(), Weak.mkL [0] (by decide) ⟨⟨_, Z, Z⟩, trivial⟩ ⟨tm Z, tm Z, trivial⟩⟩
   ·intro _
    have h := h861
    refine xr (xm Z Z Z ?_)
    obtain ⟨r881, r881e, h⟩ := bind_some h
    refine xc Z (op_call (vs := [.rp rg r841.1]) (H := [(rg, .abs (regAbs s860))]) Z call17 ⟨(tm Z), trivial⟩ (List.Perm.refl _) (dict.Table_int.Keys.ok r881e rg) ?_)
    rintro _ _ ⟨t882, rfl, rfl⟩
    refine xm Z Z Z (xe (xr (xa (.sl .full 1 (([] : List (List UInt8)).map AV.str)) Z (pu_assign Z (AEv.nil 1 (by decide))) (xe (xr (xa (.int .u64 0) Z (pu_assign Z (AEv.int _ _)) (xe ?_)))))))
    obtain ⟨s1659, s1659e, h1248⟩ := bind_some h
    refine aw_join (σ := (List (List UInt8)) × (List (List UInt8)) × Int × Reg) (ν := Nat × Nat) (fun u v => [(10, .sl (.own v.1) 1 (u.1.map AV.str)), (11, .sl (.own v.2) 1 (u.2.1.map AV.str)), (12, .int .u64 u.2.2.1)]) (fun u v => [(v.1, .spare), (v.2, .spare), (rg, .abs (regAbs u.2.2.2))]) (fun u => s1659 = .inl u) ?_ ?_
    ·intro s1245
     rintro ⟨n1246, n1247⟩
     rintro rfl
     have h := onSum_inl h1248
     obtain ⟨s1658, s1658e, h1631⟩ := bind_some h
     refine aw_join (σ := Unit) (ν := Unit) (fun u v => [(12, .int .u64 s1245.2.2.1)]) (fun u v => [(rg, .abs (regAbs s1245.2.2.2))]) (fun u => s1658 = .inl u) ?_ ?_
     ·intro s1630
      intro _
      rintro rfl
      have h := onSum_inl h1631
      obtain ⟨s1653, s1653e, h1654⟩ := bind_some h
      refine aw_meet (ν := Unit) (fun v => [(6, .bool s1653)]) (fun v => [(rg, .abs (regAbs s1245.2.2.2))]) ?_ ?_
      ·have h := s1653e
       refine aw_region (xm Z Z Z (xa (.bool (decide (s1245.2.2.1 = 0))) Z (pu_int (v := .bool (decide (s1245.2.2.1 = 0))) Z Z (tm Z) (AEv.int _ _) Z) (xm Z Z Z ?_)))
       rcases Bool.eq_false_or_eq_true (decide (s1245.2.2.1 = 0)) with hb1656 | hb1656
       ·replace h := ite_t (dec_t hb1656) h
        refine aops_known 107 Z hb1656 ?_
        obtain ⟨r1657, r1657e, h⟩ := bind_some h
        refine xg Z Z (op_call (vs := []) (H := []) Z call28 trivial (List.Perm.refl _) (mewslaw08.alive.ok r1657e) ?_)
        rintro _ _ ⟨rfl, rfl⟩
        refine xa (.bool r1657) Z (pu_pick (b := true) Z (tm Z) (fun _ => (tm Z)) (fun h => nomatch h)) (xm Z Z Z (xe ?_))
        obtain rfl := some_of h
        exact ⟨(), Weak.mkL [0] (by decide) ⟨⟨_, Z, Z⟩, trivial⟩ ⟨tm Z, trivial⟩⟩
       ·replace h := ite_f (dec_f hb1656) h
        refine aops_known 107 Z hb1656 (xn Z Z Z (xa (.bool false) Z (pu_pick (b := false) Z (tm Z) (fun h => nomatch h) (fun _ => (AEv.bool _))) (xm Z Z Z (xe ?_))))
        obtain rfl := some_of h
        exact ⟨(), Weak.mkL [0] (by decide) ⟨⟨_, Z, Z⟩, trivial⟩ ⟨tm Z, trivial⟩⟩
      ·intro _
       have h := h1654
       refine aw_ret ?_
       obtain rfl := some_of h
       exact ⟨[.bool s1653], _, [], ⟨(tm Z), trivial⟩, vr, Weak.mkL [] (by decide) trivial trivial, ⟨Z, Z⟩⟩
     ·have h := s1658e
      refine xr (xm Z Z Z (xa (.i (s1245.1.length : Int)) Z (pu_lenM Z underlying35 (tm Z)) (xa (.i 0) Z (pu_move Z (AEv.int _ _)) (xe (aw_block (aw_while (σ := mewslaw08.ScanFinds.S6) (ν := Unit) (mewslaw08.ScanFinds.body6 s1245) (fun s1643 v => [(11, .sl (.own n1247) 1 (s1245.2.1.map AV.str)), (12, .int .u64 s1245.2.2.1), (94, .sl (.own n1246) 1 (s1245.1.map AV.str)), (95, .i (s1245.1.length : Int)), (96, .i s1643.t96)]) (fun s1643 v => [(n1247, .spare), (n1246, .spare), (rg, .abs (regAbs s1245.2.2.2))]) ⟨0⟩ () _ h (Weak.mkL [1, 0, 2] (by decide) ⟨⟨_, Z, Z⟩, ⟨_, Z, Z⟩, ⟨_, Z, Z⟩, trivial⟩ ⟨tm Z, tm Z, tm Z, tm Z, tm Z, trivial⟩) ?_))))))
      rintro s1643 _ x1645 h hx1644
      unfold mewslaw08.ScanFinds.body6 at h
      refine xr (xa (.bool (decide (s1643.t96 < (s1245.1.length : Int)))) Z (pu_int (v := .bool (decide (s1643.t96 < (s1245.1.length : Int)))) Z Z (tm Z) (tm Z) Z) (xe (aw_seq (aw_cond (b := decide (s1643.t96 < (s1245.1.length : Int))) (tm Z) (fun hb1650 => ?_) (fun hb1650 => ?_)))))
      ·replace h := ite_t (dec_t hb1650) h
       refine aw_skip (aw_seq (aw_block (aw_seq (aw_region ?_))))
       obtain ⟨c1647, h⟩ := need_of h
       refine xa (.vptr [.str (ix s1245.1 s1643.t96)]) Z (pu_indexAddrM Z underlying35 sizeOf9 (tm Z) (tm Z) c1647 Z) (xc Z (op_loadV1 Z isAgg9 (tm Z) Z (xm Z Z Z (xe (xr (xm Z Z Z (xm Z Z Z ?_)))))))
       obtain ⟨r1648, r1648e, h⟩ := bind_some h
       refine xc Z (op_call (vs := [.sl .no 1 (s1245.2.1.map AV.str), .str (ix s1245.1 s1643.t96)]) (H := []) Z call36 ⟨(AEv.le (tm Z) (AV.Le.forget _ _ _)), (tm Z), trivial⟩ (List.Perm.refl _) (mewsref08.Has.ok r1648e) ?_)
       rintro _ _ ⟨rfl, rfl⟩
       refine xa (.bool (!r1648)) Z (pu_not Z (tm Z)) (xe (aw_cond (b := (!r1648)) (tm Z) (fun hb1649 => ?_) (fun hb1649 => ?_)))
       ·replace h := ite_t hb1649 h
        refine xr (xa (.bool false) Z (pu_assign Z (AEv.bool _)) (xe (aw_ret ?_)))
        obtain rfl := some_of h
        have h := congrArg some (hx1644 _ rfl)
        obtain rfl := some_of h
        have h := onSum_inr h1631
        obtain rfl := some_of h
        exact ⟨[.bool false], _, [], ⟨(tm Z), trivial⟩, vr, Weak.mkL [] (by decide) trivial trivial, ⟨Z, Z⟩⟩
       ·replace h := ite_fb hb1649 h
        refine aw_skip (aw_region (xa (.i (IntKind.wrap .i64 (s1643.t96 + 1))) Z (pu_int (v := .i (IntKind.wrap .i64 (s1643.t96 + 1))) Z Z (tm Z) (AEv.int _ _) Z) (xm Z Z Z (xe ?_))))
        obtain rfl := some_of h
        exact ⟨_, (), Z, Weak.mkL [0, 1, 2] (by decide) ⟨⟨_, Z, Z⟩, ⟨_, Z, Z⟩, ⟨_, Z, Z⟩, trivial⟩ ⟨tm Z, tm Z, tm Z, tm Z, (AEv.le (tm Z) vr), trivial⟩⟩
      ·replace h := ite_f (dec_f hb1650) h
       refine aw_exit ?_
       obtain rfl := some_of h
       have h := congrArg some (hx1644 _ rfl)
       exact ⟨(), (), (some_of h).symm, Weak.mkL [2] (by decide) ⟨⟨_, Z, Z⟩, trivial⟩ ⟨tm Z, trivial⟩⟩
    ·have h := s1659e
     refine xr (xa (.i 0) Z (pu_move Z (AEv.int _ _)) (xe (aw_block (aw_claim 11 (tm Z) fun t1611 => (aw_while (σ := mewslaw08.ScanFinds.S2) (ν := Nat × Nat) (mewslaw08.ScanFinds.body2 r841 between) (fun s1488 v => [(2, .sl .no 3 (between.map mewslaw07.Op.av)), (7, .rp rg r841.1), (10, .sl (.own v.1) 1 (s1488.stay.map AV.str)), (11, .sl (.own v.2) 1 (s1488.told.map AV.str)), (12, .int .u64 s1488.cursor), (42, .i s1488.t42)]) (fun s1488 v => [(rg, .abs (regAbs s1488.mem)), (v.1, .spare), (v.2, .spare)]) ⟨r881.1, ([] : List (List UInt8)), 0, 0, r881.2⟩ (t882, t1611) _ h (Weak.mkL [1, 2, 0] (by decide) ⟨⟨_, Z, Z⟩, ⟨_, Z, Z⟩, ⟨_, Z, Z⟩, trivial⟩ ⟨tm Z, tm Z, tm Z, tm Z, tm Z, tm Z, trivial⟩) ?_)))))
     rintro s1488 ⟨n1489, n1490⟩ x1492 h hx1491
     unfold mewslaw08.ScanFinds.body2 at h
     refine xr (xa (.bool (decide (s1488.t42 < 100000))) Z (pu_int (v := .bool (decide (s1488.t42 < 100000))) Z Z (tm Z) (AEv.int _ _) Z) (xe (aw_seq (aw_cond (b := decide (s1488.t42 < 100000)) (tm Z) (fun hb1610 => ?_) (fun hb1610 => ?_)))))
     ·replace h := ite_t (dec_t hb1610) h
      refine aw_skip ?_
      obtain ⟨s1609, s1609e, h1552⟩ := bind_some h
      refine aw_join (σ := (List (List UInt8)) × (List (List UInt8)) × Int × Reg) (ν := Nat × Nat) (fun u v => [(2, .sl .no 3 (between.map mewslaw07.Op.av)), (7, .rp rg r841.1), (10, .sl (.own v.1) 1 (u.1.map AV.str)), (11, .sl (.own v.2) 1 (u.2.1.map AV.str)), (12, .int .u64 u.2.2.1), (42, .i s1488.t42)]) (fun u v => [(rg, .abs (regAbs u.2.2.2)), (v.1, .spare), (v.2, .spare)]) (fun u => s1609 = .inl u) ?_ ?_
      ·intro s1549
       rintro ⟨n1550, n1551⟩
       rintro rfl
       have h := onSum_inl h1552
       refine aw_region (xa (.i (IntKind.wrap .i64 (s1488.t42 + 1))) Z (pu_int (v := .i (IntKind.wrap .i64 (s1488.t42 + 1))) Z Z (tm Z) (AEv.int _ _) Z) (xm Z Z Z (xe ?_)))
       obtain rfl := some_of h
       exact ⟨_, (n1550, n1551), Z, Weak.mkL [0, 1, 2] (by decide) ⟨⟨_, Z, Z⟩, ⟨_, Z, Z⟩, ⟨_, Z, Z⟩, trivial⟩ ⟨tm Z, tm Z, tm Z, tm Z, tm Z, (AEv.le (tm Z) vr), trivial⟩⟩
      ·have h := s1609e
       refine aw_block (xr (xm Z Z Z (xm Z Z Z (xe (xr (xm Z Z Z (xm Z Z Z ?_)))))))
       obtain ⟨r1554, r1554e, h⟩ := bind_some h
       refine xc Z (op_call (vs := [.rp rg r841.1, .int .u64 s1488.cursor]) (H := [(rg, .abs (regAbs s1488.mem))]) Z call25 ⟨(tm Z), (tm Z), trivial⟩ (List.Perm.refl _) (scan.Turn_int.ok r1554e rg) ?_)
       rintro _ _ ⟨t1555, rfl, rfl⟩
       refine xm Z Z Z (xa (.int .u64 r1554.1) Z (pu_extract Z (tm Z) (nb Z) Z) (xa (.sl (.own t1555) 1 (r1554.2.1.map AV.str)) Z (pu_extract Z (tm Z) (nb Z) Z) (xm Z Z Z (xm Z Z Z (xe (xr (xm Z Z Z ?_)))))))
       obtain ⟨r1556, r1556e, h⟩ := bind_some h
       refine xc Z (op_call (vs := [.rp rg r841.1]) (H := [(rg, .abs (regAbs r1554.2.2))]) Z call17 ⟨(tm Z), trivial⟩ (List.Perm.refl _) (dict.Table_int.Keys.ok r1556e rg) ?_)
       rintro _ _ ⟨t1557, rfl, rfl⟩
       refine xm Z Z Z (xe ?_)
       obtain ⟨s1608, s1608e, h1577⟩ := bind_some h
       refine aw_join (σ := Unit) (ν := Unit) (fun u v => [(2, .sl .no 3 (between.map mewslaw07.Op.av)), (7, .rp rg r841.1), (10, .sl (.own n1489) 1 (s1488.stay.map AV.str)), (11, .sl (.own n1490) 1 (s1488.told.map AV.str)), (13, .i s1488.t42), (14, .int .u64 r1554.1), (15, .sl (.own t1555) 1 (r1554.2.1.map AV.str)), (42, .i s1488.t42)]) (fun u v => [(rg, .abs (regAbs r1556.2)), (n1489, .spare), (n1490, .spare), (t1555, .spare)]) (fun u => s1608 = .inl u) ?_ ?_
       ·intro s1576
        intro _
        rintro rfl
        have h := onSum_inl h1577
        refine xr (xm Z Z Z (xm Z Z Z ?_))
        obtain ⟨c1597, h⟩ := need_of h
        refine xc Z (op_appendOM (q := 2) Z underlying35 underlying35 (.inl Z) typeInfo9 Z Z Z (by decide) (tm Z) Z (given_sl (tm Z)) c1597 ?_)
        intro t1598
        refine xm Z Z Z (xe (aw_seq (xr (xm Z Z Z (xm Z Z Z (xe (aw_seq (aw_region ?_))))))))
        refine xm Z Z Z (xa (.bool (decide (r1554.1 = 0))) Z (pu_int (v := .bool (decide (r1554.1 = 0))) Z Z (tm Z) (AEv.int _ _) Z) (xe (aw_cond (b := decide (r1554.1 = 0)) (tm Z) (fun hb1607 => ?_) (fun hb1607 => ?_))))
        ·replace h := ite_t (dec_t hb1607) h
         refine aw_exit ?_
         obtain rfl := some_of h
         have h := onSum_inr h1552
         obtain rfl := some_of h
         have h := congrArg some (hx1491 _ rfl)
         exact ⟨(s1488.stay, s1488.told ++ r1554.2.1, r1554.1, r1556.2), (n1489, t1598), (some_of h).symm, Weak.mkL [1, 2, 0] (by decide) ⟨⟨_, Z, Z⟩, ⟨_, Z, Z⟩, ⟨_, Z, Z⟩, trivial⟩ ⟨tm Z, (AEv.le (tm Z) vr), tm Z, trivial⟩⟩
        ·replace h := ite_f (dec_f hb1607) h
         refine aw_skip (xr (xm Z Z Z (xm Z Z Z (xa (.i (between.length : Int)) Z (pu_lenM Z underlying23 (tm Z)) (xa (.bool (decide (s1488.t42 < (between.length : Int)))) Z (pu_int (v := .bool (decide (s1488.t42 < (between.length : Int)))) Z Z (tm Z) (tm Z) Z) (xe (aw_cond (b := decide (s1488.t42 < (between.length : Int))) (tm Z) (fun hb1606 => ?_) (fun hb1606 => ?_))))))))
         ·replace h := ite_t (dec_t hb1606) h
          refine xr (xm Z Z Z (xm Z Z Z (xm Z Z Z ?_)))
          obtain ⟨c1599, h⟩ := need_of h
          refine xa (.vptr [.i (ix between s1488.t42).Kind, .str (ix between s1488.t42).Key, .i (ix between s1488.t42).V]) Z (pu_indexAddrM Z underlying23 sizeOf29 (tm Z) (tm Z) c1599 Z) (xc Z (op_loadVN Z isAgg29 sizeOf29 (tm Z) (nb Z) Z ?_))
          obtain ⟨r1600, r1600e, h⟩ := bind_some h
          refine xc Z (op_call (vs := [.rp rg r841.1, .agg [.i (ix between s1488.t42).Kind, .str (ix between s1488.t42).Key, .i (ix between s1488.t42).V]]) (H := [(rg, .abs (regAbs r1556.2))]) Z call31 ⟨(tm Z), (tm Z), trivial⟩ (List.Perm.refl _) (mewslaw08.does.ok r1600e rg) ?_)
          rintro _ _ ⟨rfl, rfl⟩
          refine xe (xr (xm Z Z Z (xm Z Z Z ?_)))
          obtain ⟨c1601, h⟩ := need_of h
          refine xa (.vptr [.i (ix between s1488.t42).Kind, .str (ix between s1488.t42).Key, .i (ix between s1488.t42).V]) Z (pu_indexAddrM Z underlying23 sizeOf29 (tm Z) (tm Z) c1601 Z) (xa (.vptr [.i (ix between s1488.t42).Kind, .str (ix between s1488.t42).Key, .i (ix between s1488.t42).V]) Z (fa Z underlying29 Z sizeOf3 Z Z Z) (xc Z (op_loadV1 Z isAgg3 (tm Z) Z (xa (.bool (decide ((ix between s1488.t42).Kind = 1))) Z (pu_int (v := .bool (decide ((ix between s1488.t42).Kind = 1))) Z Z (tm Z) (AEv.int _ _) Z) (xe (aw_cond (b := decide ((ix between s1488.t42).Kind = 1)) (tm Z) (fun hb1605 => ?_) (fun hb1605 => ?_)))))))
          ·replace h := ite_t (dec_t hb1605) h
           refine aw_region (xm Z Z Z (xm Z Z Z (xm Z Z Z ?_)))
           obtain ⟨c1602, h⟩ := need_of h
           refine xa (.vptr [.i (ix between s1488.t42).Kind, .str (ix between s1488.t42).Key, .i (ix between s1488.t42).V]) Z (pu_indexAddrM Z underlying23 sizeOf29 (tm Z) (tm Z) c1602 Z) (xa (.vptr [.str (ix between s1488.t42).Key, .i (ix between s1488.t42).V]) Z (fa Z underlying29 Z sizeOf9 Z Z Z) (xc Z (op_loadV1 Z isAgg9 (tm Z) Z ?_)))
           obtain ⟨r1603, r1603e, h⟩ := bind_some h
           refine xc Z (op_call (vs := [.sl .no 1 (s1488.stay.map AV.str), .str (ix between s1488.t42).Key]) (H := []) Z call37 ⟨(AEv.le (tm Z) (AV.Le.forget _ _ _)), (tm Z), trivial⟩ (List.Perm.refl _) (mewslaw08.without.ok r1603e) ?_)
           rintro _ _ ⟨t1604, rfl, rfl⟩
           refine xm Z Z Z (xe ?_)
           exact ⟨(r1603, s1488.told ++ r1554.2.1, r1554.1, r1600), (t1604, t1598), (some_of h).symm, Weak.mkL [1, 0, 3] (by decide) ⟨⟨_, Z, Z⟩, ⟨_, Z, Z⟩, ⟨_, Z, Z⟩, trivial⟩ ⟨tm Z, tm Z, tm Z, (AEv.le (tm Z) vr), tm Z, tm Z, trivial⟩⟩
          ·replace h := ite_f (dec_f hb1605) h
           refine aw_skip ?_
           exact ⟨(s1488.stay, s1488.told ++ r1554.2.1, r1554.1, r1600), (n1489, t1598), (some_of h).symm, Weak.mkL [0, 1, 2] (by decide) ⟨⟨_, Z, Z⟩, ⟨_, Z, Z⟩, ⟨_, Z, Z⟩, trivial⟩ ⟨tm Z, tm Z, tm Z, (AEv.le (tm Z) vr), tm Z, tm Z, trivial⟩⟩
         ·replace h := ite_f (dec_f hb1606) h
          refine aw_skip ?_
          exact ⟨(s1488.stay, s1488.told ++ r1554.2.1, r1554.1, r1556.2), (n1489, t1598), (some_of h).symm, Weak.mkL [0, 1, 2] (by decide) ⟨⟨_, Z, Z⟩, ⟨_, Z, Z⟩, ⟨_, Z, Z⟩, trivial⟩ ⟨tm Z, tm Z, tm Z, (AEv.le (tm Z) vr), tm Z, tm Z, trivial⟩⟩
       ·have h := s1608e
        refine xr (xm Z Z Z (xa (.i (r1554.2.1.length : Int)) Z (pu_lenM Z underlying35 (tm Z)) (xa (.i 0) Z (pu_move Z (AEv.int _ _)) (xe (aw_block (aw_while (σ := mewslaw08.ScanFinds.S4) (ν := Unit) (mewslaw08.ScanFinds.body4 r1554 r1556) (fun s1589 v => [(2, .sl .no 3 (between.map mewslaw07.Op.av)), (7, .rp rg r841.1), (10, .sl (.own n1489) 1 (s1488.stay.map AV.str)), (11, .sl (.own n1490) 1 (s1488.told.map AV.str)), (13, .i s1488.t42), (14, .int .u64 r1554.1), (15, .sl (.own t1555) 1 (r1554.2.1.map AV.str)), (16, .sl (.own t1557) 1 (r1556.1.map AV.str)), (42, .i s1488.t42), (53, .sl (.own t1555) 1 (r1554.2.1.map AV.str)), (54, .i (r1554.2.1.length : Int)), (55, .i s1589.t55)]) (fun s1589 v => [(rg, .abs (regAbs r1556.2)), (n1489, .spare), (n1490, .spare), (t1555, .spare), (t1557, .spare)]) ⟨0⟩ () _ h (Weak.mkL [0, 3, 4, 2, 1] (by decide) ⟨⟨_, Z, Z⟩, ⟨_, Z, Z⟩, ⟨_, Z, Z⟩, ⟨_, Z, Z⟩, ⟨_, Z, Z⟩, trivial⟩ ⟨tm Z, tm Z, tm Z, tm Z, tm Z, tm Z, tm Z, tm Z, tm Z, tm Z, tm Z, tm Z, trivial⟩) ?_))))))
        rintro s1589 _ x1591 h hx1590
        unfold mewslaw08.ScanFinds.body4 at h
        refine xr (xa (.bool (decide (s1589.t55 < (r1554.2.1.length : Int)))) Z (pu_int (v := .bool (decide (s1589.t55 < (r1554.2.1.length : Int)))) Z Z (tm Z) (tm Z) Z) (xe (aw_seq (aw_cond (b := decide (s1589.t55 < (r1554.2.1.length : Int))) (tm Z) (fun hb1596 => ?_) (fun hb1596 => ?_)))))
        ·replace h := ite_t (dec_t hb1596) h
         refine aw_skip (aw_seq (aw_block (aw_seq (aw_region ?_))))
         obtain ⟨c1593, h⟩ := need_of h
         refine xa (.vptr [.str (ix r1554.2.1 s1589.t55)]) Z (pu_indexAddrM Z underlying35 sizeOf9 (tm Z) (tm Z) c1593 Z) (xc Z (op_loadV1 Z isAgg9 (tm Z) Z (xm Z Z Z (xe (xr (xm Z Z Z (xm Z Z Z ?_)))))))
         obtain ⟨r1594, r1594e, h⟩ := bind_some h
         refine xc Z (op_call (vs := [.sl .no 1 (r1556.1.map AV.str), .str (ix r1554.2.1 s1589.t55)]) (H := []) Z call36 ⟨(AEv.le (tm Z) (AV.Le.forget _ _ _)), (tm Z), trivial⟩ (List.Perm.refl _) (mewsref08.Has.ok r1594e) ?_)
         rintro _ _ ⟨rfl, rfl⟩
         refine xa (.bool (!r1594)) Z (pu_not Z (tm Z)) (xe (aw_cond (b := (!r1594)) (tm Z) (fun hb1595 => ?_) (fun hb1595 => ?_)))
         ·replace h := ite_t hb1595 h
          refine xr (xa (.bool false) Z (pu_assign Z (AEv.bool _)) (xe (aw_ret ?_)))
          obtain rfl := some_of h
          have h := congrArg some (hx1590 _ rfl)
          obtain rfl := some_of h
          have h := onSum_inr h1577
          obtain rfl := some_of h
          have h := onSum_inr h1552
          obtain rfl := some_of h
          have h := congrArg some (hx1491 _ rfl)
          obtain rfl := some_of h
          have h := onSum_inr h1248
          obtain rfl := some_of h
          exact ⟨[.bool false], _, [], ⟨(tm Z), trivial⟩, vr, Weak.mkL [] (by decide) trivial trivial, ⟨Z, Z⟩⟩
         ·replace h := ite_fb hb1595 h
          refine aw_skip (aw_region (xa (.i (IntKind.wrap .i64 (s1589.t55 + 1))) Z (pu_int (v := .i (IntKind.wrap .i64 (s1589.t55 + 1))) Z Z (tm Z) (AEv.int _ _) Z) (xm Z Z Z (xe ?_))))
          obtain rfl := some_of h
          exact ⟨_, (), Z, Weak.mkL [0, 1, 2, 3, 4] (by decide) ⟨⟨_, Z, Z⟩, ⟨_, Z, Z⟩, ⟨_, Z, Z⟩, ⟨_, Z, Z⟩, ⟨_, Z, Z⟩, trivial⟩ ⟨tm Z, tm Z, tm Z, tm Z, tm Z, tm Z, tm Z, tm Z, tm Z, tm Z, tm Z, (AEv.le (tm Z) vr), trivial⟩⟩
        ·replace h := ite_f (dec_f hb1596) h
         refine aw_exit ?_
         obtain rfl := some_of h
         have h := congrArg some (hx1590 _ rfl)
         exact ⟨(), (), (some_of h).symm, Weak.mkL [0, 1, 2, 3] (by decide) ⟨⟨_, Z, Z⟩, ⟨_, Z, Z⟩, ⟨_, Z, Z⟩, ⟨_, Z, Z⟩, trivial⟩ ⟨tm Z, tm Z, tm Z, tm Z, tm Z, tm Z, tm Z, tm Z, trivial⟩⟩
     ·replace h := ite_f (dec_f hb1610) h
      refine aw_exit ?_
      obtain rfl := some_of h
      have h := congrArg some (hx1491 _ rfl)
      exact ⟨(s1488.stay, s1488.told, s1488.cursor, s1488.mem), (n1489, n1490), (some_of h).symm, Weak.mkL [1, 2, 0] (by decide) ⟨⟨_, Z, Z⟩, ⟨_, Z, Z⟩, ⟨_, Z, Z⟩, trivial⟩ ⟨tm Z, tm Z, tm Z, trivial⟩⟩

theorem mewslaw08.ScanOnce.ok {seed : Int} {l : List mewslaw07.Op} {count : Int} {r : Bool} (h : mewslaw08.ScanOnce seed l count = some r) : Go.Lift.Spec prog 9 [.int .u64 seed, .sl .no 3 (l.map mewslaw07.Op.av), .i count] [] (fun v H => v = .bool r ∧ H = []) := by
 unfold mewslaw08.ScanOnce at h
 refine Go.Lift.Spec.of_body (rs := [.tmp 6]) func9 Z Z (nb Z) Z (aw_regNew fun rg => (xr (xa (.bool false) Z (pu_assign Z (AEv.bool _)) (xe (aw_seq (xr (xm Z Z Z ?_)))))))
 obtain ⟨r155, r155e, h⟩ := bind_some h
 refine xc Z (op_call (vs := [.sl .no 3 (l.map mewslaw07.Op.av)]) (H := []) Z call29 ⟨(tm Z), trivial⟩ (List.Perm.refl _) (mewslaw08.far.ok r155e) ?_)
 rintro _ _ ⟨rfl, rfl⟩
 refine xe (aw_cond (b := r155) (tm Z) (fun hb308 => ?_) (fun hb308 => ?_))
 ·replace h := ite_t hb308 h
  refine aw_seq (aw_region ?_)
  obtain ⟨r156, r156e, h⟩ := bind_some h
  refine xc Z (op_call (vs := []) (H := []) Z call28 trivial (List.Perm.refl _) (mewslaw08.alive.ok r156e) ?_)
  rintro _ _ ⟨rfl, rfl⟩
  refine xm Z Z Z (xe (aw_ret ?_))
  obtain rfl := some_of h
  exact ⟨[.bool r156], _, [], ⟨(tm Z), trivial⟩, vr, Weak.mkL [] (by decide) trivial trivial, ⟨Z, Z⟩⟩
 ·replace h := ite_fb hb308 h
  refine aw_skip (xr (xm Z Z Z ?_))
  obtain ⟨r157, r157e, h⟩ := bind_some h
  refine xc Z (op_call (vs := [.int .u64 seed]) (H := [(rg, .abs (regAbs ([] : Reg)))]) Z call12 ⟨(tm Z), trivial⟩ (List.Perm.refl _) (dict.New_int.ok r157e rg) ?_)
  rintro _ _ ⟨rfl, rfl⟩
  refine xm Z Z Z (xe ?_)
  obtain ⟨s176, s176e, h177⟩ := bind_some h
  refine aw_meet (ν := Unit) (fun v => [(2, .i count), (7, .rp rg r157.1)]) (fun v => [(rg, .abs (regAbs s176))]) ?_ ?_
  ·have h := s176e
   refine xr (xm Z Z Z (xa (.i (l.length : Int)) Z (pu_lenM Z underlying23 (tm Z)) (xa (.i 0) Z (pu_move Z (AEv.int _ _)) (xe (aw_block (aw_while (σ := mewslaw08.ScanOnce.S0) (ν := Unit) (mewslaw08.ScanOnce.body0 l r157) (fun s189 v => [(2, .i count), (7, .rp rg r157.1), (21, .sl .no 3 (l.map mewslaw07.Op.av)), (22, .i (l.length : Int)), (23, .i s189.t23)]) (fun s189 v => [(rg, .abs (regAbs s189.mem))]) ⟨0, r157.2⟩ () _ h (Weak.mkL [0] (by decide) ⟨⟨_, Z, Z⟩, trivial⟩ ⟨tm Z, tm Z, tm Z, tm Z, tm Z, trivial⟩) ?_))))))
   rintro s189 _ x191 h hx190
   unfold mewslaw08.ScanOnce.body0 at h
   refine xr (xa (.bool (decide (s189.t23 < (l.length : Int)))) Z (pu_int (v := .bool (decide (s189.t23 < (l.length : Int)))) Z Z (tm Z) (tm Z) Z) (xe (aw_seq (aw_cond (b := decide (s189.t23 < (l.length : Int))) (tm Z) (fun hb196 => ?_) (fun hb196 => ?_)))))
   ·replace h := ite_t (dec_t hb196) h
    refine aw_skip (aw_seq (aw_block (aw_seq (aw_region ?_))))
    obtain ⟨c193, h⟩ := need_of h
    refine xa (.vptr [.i (ix l s189.t23).Kind, .str (ix l s189.t23).Key, .i (ix l s189.t23).V]) Z (pu_indexAddrM Z underlying23 sizeOf29 (tm Z) (tm Z) c193 Z) (xc Z (op_loadVN Z isAgg29 sizeOf29 (tm Z) (nb Z) Z (xc Z (op_alloc (cs := [.i 0, .str ([] : List UInt8), .i 0]) (v := .agg [.i 0, .str ([] : List UInt8), .i 0]) Z zeroValue29 Z Z Z ?_))))
    intro p194
    refine ac0 Z Z (op_store (i := 0) (cs' := [.i (ix l s189.t23).Kind, .str (ix l s189.t23).Key, .i (ix l s189.t23).V]) Z sizeOf29 (tm Z) (v := .agg [.i (ix l s189.t23).Kind, .str (ix l s189.t23).Key, .i (ix l s189.t23).V]) (tm Z) Z Z Z (nb Z) Z (xe (aw_region (xm Z Z Z (xc Z (op_loadN (i := 0) Z isAgg29 sizeOf29 (tm Z) Z (nb Z) Z ?_))))))
    obtain ⟨r195, r195e, h⟩ := bind_some h
    refine aops_weak (weak_pick [1, 0] (by decide) Z) (xc Z (op_call (vs := [.rp rg r157.1, .agg [.i (ix l s189.t23).Kind, .str (ix l s189.t23).Key, .i (ix l s189.t23).V]]) (H := [(rg, .abs (regAbs s189.mem))]) Z call31 ⟨(tm Z), (tm Z), trivial⟩ (List.Perm.refl _) (mewslaw08.does.ok r195e rg) ?_))
    rintro _ _ ⟨rfl, rfl⟩
    refine xe (aw_region (xa (.i (IntKind.wrap .i64 (s189.t23 + 1))) Z (pu_int (v := .i (IntKind.wrap .i64 (s189.t23 + 1))) Z Z (tm Z) (AEv.int _ _) Z) (xm Z Z Z (xe ?_))))
    obtain rfl := some_of h
    exact ⟨_, (), Z, Weak.mkL [0] (by decide) ⟨⟨_, Z, Z⟩, trivial⟩ ⟨tm Z, tm Z, tm Z, tm Z, (AEv.le (tm Z) vr), trivial⟩⟩
   ·replace h := ite_f (dec_f hb196) h
    refine aw_exit ?_
    obtain rfl := some_of h
    have h := congrArg some (hx190 _ rfl)
    obtain rfl := some_of h
    exact ⟨(), Weak.mkL [0] (by decide) ⟨⟨_, Z, Z⟩, trivial⟩ ⟨tm Z, tm Z, trivial⟩⟩
  ·intro _
   have h := h177
   refine xr (xm Z Z Z (xa (.int .u64 (IntKind.wrap .u64 count)) Z (pu_conv Z underlying3 underlying22 (tm Z)) (xa (.int .u64 ((IntKind.wrap .u64 count).tmod 50)) Z (pu_rem Z (tm Z) (AEv.int _ _) (by decide)) (xa (.i (IntKind.wrap .i64 ((IntKind.wrap .u64 count).tmod 50))) Z (pu_conv Z underlying22 underlying3 (tm Z)) (xa (.i (IntKind.wrap .i64 ((IntKind.wrap .i64 ((IntKind.wrap .u64 count).tmod 50)) + 1))) Z (pu_int (v := .i (IntKind.wrap .i64 ((IntKind.wrap .i64 ((IntKind.wrap .u64 count).tmod 50)) + 1))) Z Z (tm Z) (AEv.int _ _) Z) (xm Z Z Z (xe (aw_seq ?_))))))))
   refine aw_region (xa (.sl .full 1 (([] : List (List UInt8)).map AV.str)) Z (pu_assign Z (AEv.nil 1 (by decide))) (xe (xr (xa (.int .u64 0) Z (pu_assign Z (AEv.int _ _)) (xe ?_)))))
   obtain ⟨s224, s224e, h226⟩ := bind_some h
   refine aw_meet (ν := Nat) (fun v => [(7, .rp rg r157.1), (10, .sl (.own v) 1 (s224.1.map AV.str)), (11, .int .u64 s224.2.1)]) (fun v => [(rg, .abs (regAbs s224.2.2)), (v, .spare)]) ?_ ?_
   ·have h := s224e
    refine xr (xa (.i 0) Z (pu_move Z (AEv.int _ _)) (xe (aw_block (aw_claim 10 (tm Z) fun t254 => (aw_while (σ := mewslaw08.ScanOnce.S2) (ν := Nat) (mewslaw08.ScanOnce.body2 r157 count) (fun s243 v => [(2, .i (IntKind.wrap .i64 ((IntKind.wrap .i64 ((IntKind.wrap .u64 count).tmod 50)) + 1))), (7, .rp rg r157.1), (10, .sl (.own v) 1 (s243.told.map AV.str)), (11, .int .u64 s243.cursor), (36, .i s243.t36)]) (fun s243 v => [(rg, .abs (regAbs s243.mem)), (v, .spare)]) ⟨([] : List (List UInt8)), 0, 0, s176⟩ t254 _ h (Weak.mkL [1, 0] (by decide) ⟨⟨_, Z, Z⟩, ⟨_, Z, Z⟩, trivial⟩ ⟨tm Z, tm Z, tm Z, tm Z, tm Z, trivial⟩) ?_)))))
    rintro s243 n244 x246 h hx245
    unfold mewslaw08.ScanOnce.body2 at h
    refine xr (xa (.bool (decide (s243.t36 < 100000))) Z (pu_int (v := .bool (decide (s243.t36 < 100000))) Z Z (tm Z) (AEv.int _ _) Z) (xe (aw_seq (aw_cond (b := decide (s243.t36 < 100000)) (tm Z) (fun hb253 => ?_) (fun hb253 => ?_)))))
    ·replace h := ite_t (dec_t hb253) h
     refine aw_skip (aw_seq (aw_block (xr (xm Z Z Z (xm Z Z Z (xm Z Z Z ?_))))))
     obtain ⟨r248, r248e, h⟩ := bind_some h
     refine xc Z (op_call (vs := [.rp rg r157.1, .int .u64 s243.cursor, .i (IntKind.wrap .i64 ((IntKind.wrap .i64 ((IntKind.wrap .u64 count).tmod 50)) + 1))]) (H := [(rg, .abs (regAbs s243.mem))]) Z call26 ⟨(tm Z), (tm Z), (tm Z), trivial⟩ (List.Perm.refl _) (scan.Scan_int.ok r248e rg) ?_)
     rintro _ _ ⟨t249, rfl, rfl⟩
     refine xm Z Z Z (xa (.int .u64 r248.1) Z (pu_extract Z (tm Z) (nb Z) Z) (xa (.sl (.own t249) 1 (r248.2.1.map AV.str)) Z (pu_extract Z (tm Z) (nb Z) Z) (xm Z Z Z (xm Z Z Z (xe (xr (xm Z Z Z (xm Z Z Z ?_))))))))
     obtain ⟨c250, h⟩ := need_of h
     refine xc Z (op_appendOM (q := 2) Z underlying35 underlying35 (.inl Z) typeInfo9 Z Z Z (by decide) (tm Z) Z (given_sl (tm Z)) c250 ?_)
     intro t251
     refine xm Z Z Z (xe (xr (xm Z Z Z (xm Z Z Z (xe (xr (xm Z Z Z ?_)))))))
     refine xa (.bool (decide (r248.1 = 0))) Z (pu_int (v := .bool (decide (r248.1 = 0))) Z Z (tm Z) (AEv.int _ _) Z) (xe (aw_cond (b := decide (r248.1 = 0)) (tm Z) (fun hb252 => ?_) (fun hb252 => ?_)))
     ·replace h := ite_t (dec_t hb252) h
      refine aw_exit ?_
      obtain rfl := some_of h
      have h := congrArg some (hx245 _ rfl)
      obtain rfl := some_of h
      exact ⟨t251, Weak.mkL [0, 2] (by decide) ⟨⟨_, Z, Z⟩, ⟨_, Z, Z⟩, trivial⟩ ⟨tm Z, (AEv.le (tm Z) vr), tm Z, trivial⟩⟩
     ·replace h := ite_f (dec_f hb252) h
      refine aw_skip (aw_region (xa (.i (IntKind.wrap .i64 (s243.t36 + 1))) Z (pu_int (v := .i (IntKind.wrap .i64 (s243.t36 + 1))) Z Z (tm Z) (AEv.int _ _) Z) (xm Z Z Z (xe ?_))))
      obtain rfl := some_of h
      exact ⟨_, t251, Z, Weak.mkL [0, 2] (by decide) ⟨⟨_, Z, Z⟩, ⟨_, Z, Z⟩, trivial⟩ ⟨tm Z, tm Z, (AEv.le (tm Z) vr), tm Z, (AEv.le (tm Z) vr), trivial⟩⟩
    ·replace h := ite_f (dec_f hb253) h
     refine aw_exit ?_
     obtain rfl := some_of h
     have h := congrArg some (hx245 _ rfl)
     obtain rfl := some_of h
     exact ⟨n244, Weak.mkL [0, 1] (by decide) ⟨⟨_, Z, Z⟩, ⟨_, Z, Z⟩, trivial⟩ ⟨tm Z, tm Z, tm Z, trivial⟩⟩
   ·intro n225
    have h := h226
    refine aw_seq ?_
    obtain ⟨s257, s257e, h258⟩ := bind_some h
    refine aw_meet (ν := Unit) (fun v => [(7, .rp rg r157.1), (10, .sl (.own n225) 1 (s224.1.map AV.str)), (60, .bool s257)]) (fun v => [(rg, .abs (regAbs s224.2.2)), (n225, .spare)]) ?_ ?_
    ·have h := s257e
     refine aw_region (xm Z Z Z (xa (.bool (!decide (s224.2.1 = 0))) Z (pu_int (v := .bool (!decide (s224.2.1 = 0))) Z Z (tm Z) (AEv.int _ _) Z) (xm Z Z Z ?_)))
     rcases Bool.eq_false_or_eq_true (!decide (s224.2.1 = 0)) with hb260 | hb260
     ·replace h := ite_f (ndec_t hb260) h
      refine aops_known 54 Z hb260 (xn Z Z Z (xn Z Z Z (xn Z Z Z (xn Z Z Z (xn Z Z Z (xa (.bool true) Z (pu_pick (b := true) Z (tm Z) (fun _ => (AEv.bool _)) (fun h => nomatch h)) (xe ?_)))))))
      obtain rfl := some_of h
      exact ⟨(), Weak.mkL [0, 1] (by decide) ⟨⟨_, Z, Z⟩, ⟨_, Z, Z⟩, trivial⟩ ⟨tm Z, tm Z, tm Z, trivial⟩⟩
     ·replace h := ite_t (ndec_f hb260) h
      refine aops_known 54 Z hb260 (xq Z Z Z Z (xp (.i (s224.1.length : Int)) Z Z (pu_lenM Z underlying35 (tm Z)) (xq Z Z Z Z ?_)))
      obtain ⟨r261, r261e, h⟩ := bind_some h
      refine xg Z Z (op_call (vs := [.rp rg r157.1]) (H := [(rg, .abs (regAbs s224.2.2))]) Z call18 ⟨(tm Z), trivial⟩ (List.Perm.refl _) (dict.Table_int.Len.ok r261e rg) ?_)
      rintro _ _ ⟨rfl, rfl⟩
      refine xp (.bool (!decide ((s224.1.length : Int) = r261))) Z Z (pu_int (v := .bool (!decide ((s224.1.length : Int) = r261))) Z Z (tm Z) (tm Z) Z) (xa (.bool (!decide ((s224.1.length : Int) = r261))) Z (pu_pick (b := false) Z (tm Z) (fun h => nomatch h) (fun _ => (tm Z))) (xe ?_))
      obtain rfl := some_of h
      exact ⟨(), Weak.mkL [0, 1] (by decide) ⟨⟨_, Z, Z⟩, ⟨_, Z, Z⟩, trivial⟩ ⟨tm Z, tm Z, tm Z, trivial⟩⟩
    ·intro _
     have h := h258
     refine aw_cond (b := s257) (tm Z) (fun hb307 => ?_) (fun hb307 => ?_)
     ·replace h := ite_t hb307 h
      refine xr (xa (.bool false) Z (pu_assign Z (AEv.bool _)) (xe (aw_ret ?_)))
      obtain rfl := some_of h
      exact ⟨[.bool false], _, [], ⟨(tm Z), trivial⟩, vr, Weak.mkL [] (by decide) trivial trivial, ⟨Z, Z⟩⟩
     ·replace h := ite_fb hb307 h
      refine aw_skip ?_
      obtain ⟨s306, s306e, h283⟩ := bind_some h
      refine aw_join (σ := Reg) (ν := Unit) (fun u v => []) (fun u v => [(rg, .abs (regAbs u))]) (fun u => s306 = .inl u) ?_ ?_
      ·intro s282
       intro _
       rintro rfl
       have h := onSum_inl h283
       refine aw_seq (aw_region ?_)
       obtain ⟨r305, r305e, h⟩ := bind_some h
       refine xc Z (op_call (vs := []) (H := []) Z call28 trivial (List.Perm.refl _) (mewslaw08.alive.ok r305e) ?_)
       rintro _ _ ⟨rfl, rfl⟩
       refine xm Z Z Z (xe (aw_ret ?_))
       obtain rfl := some_of h
       exact ⟨[.bool r305], _, [], ⟨(tm Z), trivial⟩, vr, Weak.mkL [] (by decide) trivial trivial, ⟨Z, Z⟩⟩
      ·have h := s306e
       refine xr (xm Z Z Z ?_)
       obtain ⟨r285, r285e, h⟩ := bind_some h
       refine xc Z (op_call (vs := [.rp rg r157.1]) (H := [(rg, .abs (regAbs s224.2.2))]) Z call17 ⟨(tm Z), trivial⟩ (List.Perm.refl _) (dict.Table_int.Keys.ok r285e rg) ?_)
       rintro _ _ ⟨t286, rfl, rfl⟩
       refine xa (.i (r285.1.length : Int)) Z (pu_lenM Z underlying35 (tm Z)) (xa (.i 0) Z (pu_move Z (AEv.int _ _)) (xe (aw_block (aw_while (σ := mewslaw08.ScanOnce.S4) (ν := Unit) (mewslaw08.ScanOnce.body4 r285 s224) (fun s297 v => [(10, .sl (.own n225) 1 (s224.1.map AV.str)), (62, .sl (.own t286) 1 (r285.1.map AV.str)), (63, .i (r285.1.length : Int)), (64, .i s297.t64)]) (fun s297 v => [(n225, .spare), (t286, .spare), (rg, .abs (regAbs r285.2))]) ⟨0⟩ () _ h (Weak.mkL [2, 1, 0] (by decide) ⟨⟨_, Z, Z⟩, ⟨_, Z, Z⟩, ⟨_, Z, Z⟩, trivial⟩ ⟨tm Z, tm Z, tm Z, tm Z, trivial⟩) ?_))))
       rintro s297 _ x299 h hx298
       unfold mewslaw08.ScanOnce.body4 at h
       refine xr (xa (.bool (decide (s297.t64 < (r285.1.length : Int)))) Z (pu_int (v := .bool (decide (s297.t64 < (r285.1.length : Int)))) Z Z (tm Z) (tm Z) Z) (xe (aw_seq (aw_cond (b := decide (s297.t64 < (r285.1.length : Int))) (tm Z) (fun hb304 => ?_) (fun hb304 => ?_)))))
       ·replace h := ite_t (dec_t hb304) h
        refine aw_skip (aw_seq (aw_block (aw_seq (aw_region ?_))))
        obtain ⟨c301, h⟩ := need_of h
        refine xa (.vptr [.str (ix r285.1 s297.t64)]) Z (pu_indexAddrM Z underlying35 sizeOf9 (tm Z) (tm Z) c301 Z) (xc Z (op_loadV1 Z isAgg9 (tm Z) Z (xm Z Z Z (xe (xr (xm Z Z Z (xm Z Z Z ?_)))))))
        obtain ⟨r302, r302e, h⟩ := bind_some h
        refine xc Z (op_call (vs := [.sl .no 1 (s224.1.map AV.str), .str (ix r285.1 s297.t64)]) (H := []) Z call36 ⟨(AEv.le (tm Z) (AV.Le.forget _ _ _)), (tm Z), trivial⟩ (List.Perm.refl _) (mewsref08.Has.ok r302e) ?_)
        rintro _ _ ⟨rfl, rfl⟩
        refine xa (.bool (!r302)) Z (pu_not Z (tm Z)) (xe (aw_cond (b := (!r302)) (tm Z) (fun hb303 => ?_) (fun hb303 => ?_)))
        ·replace h := ite_t hb303 h
         refine xr (xa (.bool false) Z (pu_assign Z (AEv.bool _)) (xe (aw_ret ?_)))
         obtain rfl := some_of h
         have h := congrArg some (hx298 _ rfl)
         obtain rfl := some_of h
         have h := onSum_inr h283
         obtain rfl := some_of h
         exact ⟨[.bool false], _, [], ⟨(tm Z), trivial⟩, vr, Weak.mkL [] (by decide) trivial trivial, ⟨Z, Z⟩⟩
        ·replace h := ite_fb hb303 h
         refine aw_skip (aw_region (xa (.i (IntKind.wrap .i64 (s297.t64 + 1))) Z (pu_int (v := .i (IntKind.wrap .i64 (s297.t64 + 1))) Z Z (tm Z) (AEv.int _ _) Z) (xm Z Z Z (xe ?_))))
         obtain rfl := some_of h
         exact ⟨_, (), Z, Weak.mkL [0, 1, 2] (by decide) ⟨⟨_, Z, Z⟩, ⟨_, Z, Z⟩, ⟨_, Z, Z⟩, trivial⟩ ⟨tm Z, tm Z, tm Z, (AEv.le (tm Z) vr), trivial⟩⟩
       ·replace h := ite_f (dec_f hb304) h
        refine aw_exit ?_
        obtain rfl := some_of h
        have h := congrArg some (hx298 _ rfl)
        exact ⟨r285.2, (), (some_of h).symm, Weak.mkL [2] (by decide) ⟨⟨_, Z, Z⟩, trivial⟩ trivial⟩

end Go.Pu
