/- Printed by lift.py: the functions come to them. -/
import Derived.Test.YtahccieomaopeaaLiftW
import Derived.Test.YtahccieomaopeaaSCP
import Derived.Test.YtahccieomaopeaaProg
set_option maxRecDepth 100000
set_option maxHeartbeats 0
namespace Go.Pu
open Go.Lift Go.Proofs.Try

theorem dict.empty_int.ok {size : Int} {mem : Reg} {r : dict.places_int × Reg} (h : dict.empty_int size mem = some r) (rg : Nat) : Go.Lift.Spec prog 38 [.i size] [(rg, .abs (regAbs mem))] (fun v H => v = .agg [.i r.1.size, .rs rg r.1.l] ∧ H = [(rg, .abs (regAbs r.2))]) := by
 unfold dict.empty_int at h
 refine Go.Lift.Spec.of_body (rs := [.cell 2 43]) func38 Z Z (nb Z) Z (xr (xc Z (op_alloc (cs := [.i 0, .rs rg (none : RS)]) (v := .agg [.i 0, .rs rg (none : RS)]) Z zeroValue43 Z Z Z ?_)))
 intro p5
 refine xe (xr (xm Z Z Z (xm Z Z Z ?_)))
 obtain ⟨c6, h⟩ := need_of h
 refine xa (.i (IntKind.wrap .i64 (1 * 2 ^ min (Int.toNat size) (IntKind.bits .i64)))) Z (pu_shl Z (AEv.int _ _) (tm Z) c6) ?_
 obtain ⟨c7, h⟩ := need_of h
 obtain ⟨x8, x8e, h⟩ := letO_of h
 refine xc Z (op_regMake (i := 1) (.pt (none : RP)) Z underlying41 typeInfo73 Z Z (by decide) Z Z (fun _ => Z) (tm Z) (tm Z) c7 x8e (xa (.agg [.i size, .rs rg (some (mem.length, 0, Int.toNat (IntKind.wrap .i64 (1 * 2 ^ min (Int.toNat size) (IntKind.bits .i64))), Int.toNat (IntKind.wrap .i64 (1 * 2 ^ min (Int.toNat size) (IntKind.bits .i64)))) : RS)]) Z (pu_build (zs := [.i 0, .rs rg (none : RS)]) (szs := [1, 1]) (aparts := [(0, .i size), (1, .rs rg (some (mem.length, 0, Int.toNat (IntKind.wrap .i64 (1 * 2 ^ min (Int.toNat size) (IntKind.bits .i64))), Int.toNat (IntKind.wrap .i64 (1 * 2 ^ min (Int.toNat size) (IntKind.bits .i64)))) : RS))]) (cs := [.i size, .rs rg (some (mem.length, 0, Int.toNat (IntKind.wrap .i64 (1 * 2 ^ min (Int.toNat size) (IntKind.bits .i64))), Int.toNat (IntKind.wrap .i64 (1 * 2 ^ min (Int.toNat size) (IntKind.bits .i64)))) : RS)]) Z underlying43 zeroValue43 Z ⟨sizeOf3, sizeOf41, trivial⟩ ⟨Z, (tm Z), ⟨Z, (tm Z), trivial⟩⟩ Z) (ac0 Z Z (op_store (i := 0) (cs' := [.i size, .rs rg (some (mem.length, 0, Int.toNat (IntKind.wrap .i64 (1 * 2 ^ min (Int.toNat size) (IntKind.bits .i64))), Int.toNat (IntKind.wrap .i64 (1 * 2 ^ min (Int.toNat size) (IntKind.bits .i64)))) : RS)]) Z sizeOf43 (tm Z) (v := .agg [.i size, .rs rg (some (mem.length, 0, Int.toNat (IntKind.wrap .i64 (1 * 2 ^ min (Int.toNat size) (IntKind.bits .i64))), Int.toNat (IntKind.wrap .i64 (1 * 2 ^ min (Int.toNat size) (IntKind.bits .i64)))) : RS)]) (tm Z) Z Z Z (nb Z) Z (xe (aw_ret ?_))))))
 obtain rfl := some_of h
 exact ⟨[.agg [.i size, .rs rg (some (mem.length, 0, Int.toNat (IntKind.wrap .i64 (1 * 2 ^ min (Int.toNat size) (IntKind.bits .i64))), Int.toNat (IntKind.wrap .i64 (1 * 2 ^ min (Int.toNat size) (IntKind.bits .i64)))) : RS)]], _, [(rg, .abs (regAbs x8))], ⟨(CellOk.agg 0 (tm Z) Z isAgg43 sizeOf43 (nb Z) Z), trivial⟩, vr, Weak.mkL [1] (by decide) ⟨⟨_, Z, Z⟩, trivial⟩ trivial, ⟨Z, Z⟩⟩

theorem dict.New_int.ok {seed : Int} {mem : Reg} {r : RP × Reg} (h : dict.New_int seed mem = some r) (rg : Nat) : Go.Lift.Spec prog 12 [.int .u64 seed] [(rg, .abs (regAbs mem))] (fun v H => v = .rp rg r.1 ∧ H = [(rg, .abs (regAbs r.2))]) := by
 unfold dict.New_int at h
 refine Go.Lift.Spec.of_body (rs := [.tmp 2]) func12 Z Z (nb Z) Z (xr (xa (.rp rg (none : RP)) Z (pu_assign Z (AEv.rpn _)) (xe (xr (xm Z Z Z ?_)))))
 obtain ⟨r3, r3e, h⟩ := bind_some h
 refine xc Z (op_call (vs := [.i 2]) (H := [(rg, .abs (regAbs mem))]) Z call38 ⟨(AEv.int _ _), trivial⟩ (List.Perm.refl _) (dict.empty_int.ok r3e rg) ?_)
 rintro _ _ ⟨rfl, rfl⟩
 refine xa (.agg [.i r3.1.size, .rs rg r3.1.l, .i 0, .rs rg (none : RS)]) Z (pu_buildArr (zs := [.i 0, .rs rg (none : RS), .i 0, .rs rg (none : RS)]) (aparts := [(0, .agg [.i r3.1.size, .rs rg r3.1.l])]) (cs := [.i r3.1.size, .rs rg r3.1.l, .i 0, .rs rg (none : RS)]) Z underlying44 sizeOf43 zeroValue44 Z ⟨Z, (tm Z), trivial⟩ Z) (xa (.agg [.int .u64 seed, .i r3.1.size, .rs rg r3.1.l, .i 0, .rs rg (none : RS), .i 0, .bool false, .i 0]) Z (pu_build (zs := [.int .u64 0, .i 0, .rs rg (none : RS), .i 0, .rs rg (none : RS), .i 0, .bool false, .i 0]) (szs := [1, 4, 1, 1, 1]) (aparts := [(0, .int .u64 seed), (1, .agg [.i r3.1.size, .rs rg r3.1.l, .i 0, .rs rg (none : RS)])]) (cs := [.int .u64 seed, .i r3.1.size, .rs rg r3.1.l, .i 0, .rs rg (none : RS), .i 0, .bool false, .i 0]) Z underlying46 zeroValue46 Z ⟨sizeOf22, sizeOf44, sizeOf3, sizeOf4, sizeOf3, trivial⟩ ⟨Z, (tm Z), ⟨Z, (tm Z), trivial⟩⟩ Z) ?_)
 obtain ⟨x4, x4e, h⟩ := letO_of h
 refine xc Z (op_regBox (i := 0) [.it .u64 seed, .it .i64 r3.1.size, .sc r3.1.l, .it .i64 0, .sc (none : RS), .it .i64 0, .bo false, .it .i64 0] Z (v := .agg [.int .u64 seed, .i r3.1.size, .rs rg r3.1.l, .i 0, .rs rg (none : RS), .i 0, .bool false, .i 0]) (tm Z) Z Z x4e (xm Z Z Z (xe (aw_ret ?_))))
 obtain rfl := some_of h
 exact ⟨[.rp rg (some (r3.2.length, 0) : RP)], _, [(rg, .abs (regAbs x4))], ⟨(tm Z), trivial⟩, vr, Weak.mkL [0] (by decide) ⟨⟨_, Z, Z⟩, trivial⟩ trivial, ⟨Z, Z⟩⟩

theorem dict.Table_int.ready.ok {t_ : RP} {mem : Reg} {r : Bool × Reg} (h : dict.Table_int.ready t_ mem = some r) (rg : Nat) : Go.Lift.Spec prog 39 [.rp rg t_] [(rg, .abs (regAbs mem))] (fun v H => v = .bool r.1 ∧ H = [(rg, .abs (regAbs r.2))]) := by
 unfold dict.Table_int.ready at h
 refine Go.Lift.Spec.of_body (rs := [.tmp 2]) func39 Z Z (nb Z) Z (xr (xa (.bool false) Z (pu_assign Z (AEv.bool _)) (xe ?_)))
 obtain ⟨s91, s91e, h92⟩ := bind_some h
 refine aw_meet (ν := Unit) (fun v => [(0, .rp rg t_)]) (fun v => [(rg, .abs (regAbs s91))]) ?_ ?_
 ·have h := s91e
  obtain ⟨s100, s100e, h101⟩ := bind_some h
  refine aw_meet (ν := Unit) (fun v => [(0, .rp rg t_), (13, .bool s100)]) (fun v => [(rg, .abs (regAbs mem))]) ?_ ?_
  ·have h := s100e
   refine aw_region (xm Z Z Z (xa (.bool t_.isSome) Z (pu_regNotNil Z underlying26 (tm Z) AEv.nilp) (xm Z Z Z ?_)))
   rcases Bool.eq_false_or_eq_true t_.isSome with hb103 | hb103
   ·replace h := ite_t hb103 h
    refine aops_known 5 Z hb103 (xq Z Z Z Z ?_)
    obtain ⟨c104, h⟩ := need_of h
    refine xp (.rp rg t_) Z Z (pu_regCheck Z (tm Z) c104) (xp (.rp rg (rpAdd t_ 1)) Z Z (pu_regField Z underlying46 Z sizeOf44 (by decide) (tm Z) c104 Z) ?_)
    obtain ⟨c105, h⟩ := need_of h
    obtain ⟨c106, h⟩ := need_of h
    refine xp (.rp rg (rpAdd (rpAdd t_ 1) 0)) Z Z (pu_regIndexA Z underlying44 sizeOf43 (tm Z) (AEv.int _ _) c105 c106) ?_
    obtain ⟨c107, h⟩ := need_of h
    refine xp (.rp rg (rpAdd (rpAdd (rpAdd t_ 1) 0) 1)) Z Z (pu_regField Z underlying43 Z sizeOf41 (by decide) (tm Z) c107 Z) ?_
    obtain ⟨r108, r108e, h⟩ := bind_some h
    refine xg Z Z (op_regLoad (i := 0) (av := .rs rg r108) Z isAgg41 (tm Z) Z (rLdL_eq r108e) Z (xp (.bool r108.isNone) Z Z (pu_regNilS Z underlying41 (tm Z)) (xa (.bool r108.isNone) Z (pu_pick (b := true) Z (tm Z) (fun _ => (tm Z)) (fun h => nomatch h)) (xe ?_))))
    obtain rfl := some_of h
    exact ⟨(), Weak.mkL [0] (by decide) ⟨⟨_, Z, Z⟩, trivial⟩ ⟨tm Z, tm Z, trivial⟩⟩
   ·replace h := ite_fb hb103 h
    refine aops_known 5 Z hb103 (xn Z Z Z (xn Z Z Z (xn Z Z Z (xn Z Z Z (xn Z Z Z (xn Z Z Z (xn Z Z Z (xa (.bool false) Z (pu_pick (b := false) Z (tm Z) (fun h => nomatch h) (fun _ => (AEv.bool _))) (xe ?_)))))))))
    obtain rfl := some_of h
    exact ⟨(), Weak.mkL [0] (by decide) ⟨⟨_, Z, Z⟩, trivial⟩ ⟨tm Z, tm Z, trivial⟩⟩
  ·intro _
   have h := h101
   refine aw_cond (b := s100) (tm Z) (fun hb122 => ?_) (fun hb122 => ?_)
   ·replace h := ite_t hb122 h
    refine aw_region (xm Z Z Z (xm Z Z Z ?_))
    obtain ⟨c109, h⟩ := need_of h
    refine xa (.rp rg t_) Z (pu_regCheck Z (tm Z) c109) (xa (.rp rg (rpAdd t_ 0)) Z (pu_regField Z underlying46 Z sizeOf22 (by decide) (tm Z) c109 Z) ?_)
    obtain ⟨r110, r110e, h⟩ := bind_some h
    refine xc Z (op_regLoad (i := 0) (av := .int .u64 r110) Z isAgg22 (tm Z) Z (rLdI_eq r110e) Z ?_)
    obtain ⟨r111, r111e, h⟩ := bind_some h
    refine xc Z (op_call (vs := [.int .u64 r110]) (H := [(rg, .abs (regAbs mem))]) Z call12 ⟨(tm Z), trivial⟩ (List.Perm.refl _) (dict.New_int.ok r111e rg) ?_)
    rintro _ _ ⟨rfl, rfl⟩
    obtain ⟨c112, h⟩ := need_of h
    refine xa (.rp rg r111.1) Z (pu_regCheck Z (tm Z) c112) ?_
    obtain ⟨r113, r113e, h⟩ := bind_some h
    obtain ⟨r114, r114e, h⟩ := bind_some h
    obtain ⟨r115, r115e, h⟩ := bind_some h
    obtain ⟨r116, r116e, h⟩ := bind_some h
    obtain ⟨r117, r117e, h⟩ := bind_some h
    obtain ⟨r118, r118e, h⟩ := bind_some h
    obtain ⟨r119, r119e, h⟩ := bind_some h
    obtain ⟨r120, r120e, h⟩ := bind_some h
    refine xc Z (op_regLoadN (i := 0) (vs := [.it .u64 r113, .it .i64 r114, .sc r115, .it .i64 r116, .sc r117, .it .i64 r118, .bo r119, .it .i64 r120]) (avs := [.int .u64 r113, .i r114, .rs rg r115, .i r116, .rs rg r117, .i r118, .bool r119, .i r120]) Z isAgg46 sizeOf46 (tm Z) Z ⟨rLdI_eq r113e, rLdI_eq r114e, rLdL_eq r115e, rLdI_eq r116e, rLdL_eq r117e, rLdI_eq r118e, rLdB_eq r119e, rLdI_eq r120e, trivial⟩ Z (by decide) Z (xa (.rp rg t_) Z (pu_regCheck Z (tm Z) c109) ?_))
    obtain ⟨r121, r121e, h⟩ := bind_some h
    refine ac0 Z Z (op_regStore (i := 0) [.it .u64 r113, .it .i64 r114, .sc r115, .it .i64 r116, .sc r117, .it .i64 r118, .bo r119, .it .i64 r120] Z sizeOf46 (tm Z) (v := .agg [.int .u64 r113, .i r114, .rs rg r115, .i r116, .rs rg r117, .i r118, .bool r119, .i r120]) (tm Z) Z Z Z r121e (xe ?_))
    obtain rfl := some_of h
    exact ⟨(), Weak.mkL [0] (by decide) ⟨⟨_, Z, Z⟩, trivial⟩ ⟨tm Z, trivial⟩⟩
   ·replace h := ite_fb hb122 h
    refine aw_skip ?_
    obtain rfl := some_of h
    exact ⟨(), Weak.mkL [0] (by decide) ⟨⟨_, Z, Z⟩, trivial⟩ ⟨tm Z, trivial⟩⟩
 ·intro _
  have h := h92
  refine xr (xm Z Z Z (xa (.bool t_.isSome) Z (pu_regNotNil Z underlying26 (tm Z) AEv.nilp) (xm Z Z Z (xe (aw_ret ?_)))))
  obtain rfl := some_of h
  exact ⟨[.bool t_.isSome], _, [(rg, .abs (regAbs s91))], ⟨(tm Z), trivial⟩, vr, Weak.mkL [0] (by decide) ⟨⟨_, Z, Z⟩, trivial⟩ trivial, ⟨Z, Z⟩⟩

theorem hash.Of.ok {seed : Int} {s_ : List UInt8} {r : Int} (h : hash.Of seed s_ = some r) : Go.Lift.Spec prog 65 [.int .u64 seed, .str s_] [] (fun v H => v = .int .u64 r ∧ H = []) := by
 unfold hash.Of at h
 refine Go.Lift.Spec.of_body (rs := [.tmp 4]) func65 Z Z (nb Z) Z (xr (xa (.int .u64 0) Z (pu_assign Z (AEv.int _ _)) (xe (xr (xm Z Z Z (xa (.int .u64 (Go.bits .xor .u64 14695981039346656037 seed)) Z (pu_int (v := .int .u64 (Go.bits .xor .u64 14695981039346656037 seed)) Z Z (AEv.int _ _) (tm Z) Z) (xm Z Z Z ?_)))))))
 refine xe ?_
 obtain ⟨s76, s76e, h77⟩ := bind_some h
 refine aw_meet (ν := Unit) (fun v => [(5, .int .u64 s76)]) (fun v => []) ?_ ?_
 ·have h := s76e
  refine xr (xm Z Z Z (xa (.i (s_.length : Int)) Z (pu_strLen Z underlying9 (tm Z)) (xa (.i 0) Z (pu_move Z (AEv.int _ _)) (xe (aw_block (aw_while (σ := hash.Of.S0) (ν := Unit) (hash.Of.body0 s_) (fun s86 v => [(1, .str s_), (5, .int .u64 s86.h), (12, .i (s_.length : Int)), (13, .i s86.t13)]) (fun s86 v => []) ⟨Go.bits .xor .u64 14695981039346656037 seed, 0⟩ () _ h (Weak.mkL [] (by decide) trivial ⟨tm Z, (AEv.le (tm Z) vr), tm Z, tm Z, trivial⟩) ?_))))))
  rintro s86 _ x88 h hx87
  unfold hash.Of.body0 at h
  refine xr (xa (.bool (decide (s86.t13 < (s_.length : Int)))) Z (pu_int (v := .bool (decide (s86.t13 < (s_.length : Int)))) Z Z (tm Z) (tm Z) Z) (xe (aw_seq (aw_cond (b := decide (s86.t13 < (s_.length : Int))) (tm Z) (fun hb91 => ?_) (fun hb91 => ?_)))))
  ·replace h := ite_t (dec_t hb91) h
   refine aw_skip (aw_seq (aw_block (xr (xm Z Z Z (xm Z Z Z (xe (aw_region (xm Z Z Z ?_))))))))
   refine xm Z Z Z (xm Z Z Z ?_)
   obtain ⟨c90, h⟩ := need_of h
   refine xa (.int .u8 (bix s_ s86.t13)) Z (pu_strIdxM Z underlying9 (tm Z) (tm Z) c90) (xa (.int .u64 (IntKind.wrap .u64 (bix s_ s86.t13))) Z (pu_conv Z underlying5 underlying22 (tm Z)) (xa (.int .u64 (Go.bits .xor .u64 s86.h (IntKind.wrap .u64 (bix s_ s86.t13)))) Z (pu_int (v := .int .u64 (Go.bits .xor .u64 s86.h (IntKind.wrap .u64 (bix s_ s86.t13)))) Z Z (tm Z) (tm Z) Z) (xa (.int .u64 (IntKind.wrap .u64 ((Go.bits .xor .u64 s86.h (IntKind.wrap .u64 (bix s_ s86.t13))) * 1099511628211))) Z (pu_int (v := .int .u64 (IntKind.wrap .u64 ((Go.bits .xor .u64 s86.h (IntKind.wrap .u64 (bix s_ s86.t13))) * 1099511628211))) Z Z (tm Z) (AEv.int _ _) Z) (xm Z Z Z (xe (aw_region (xa (.i (IntKind.wrap .i64 (s86.t13 + 1))) Z (pu_int (v := .i (IntKind.wrap .i64 (s86.t13 + 1))) Z Z (tm Z) (AEv.int _ _) Z) (xm Z Z Z (xe ?_)))))))))
   obtain rfl := some_of h
   exact ⟨_, (), Z, Weak.mkL [] (by decide) trivial ⟨tm Z, (AEv.le (tm Z) vr), tm Z, (AEv.le (tm Z) vr), trivial⟩⟩
  ·replace h := ite_f (dec_f hb91) h
   refine aw_exit ?_
   obtain rfl := some_of h
   have h := congrArg some (hx87 _ rfl)
   obtain rfl := some_of h
   exact ⟨(), Weak.mkL [] (by decide) trivial ⟨tm Z, trivial⟩⟩
 ·intro _
  have h := h77
  obtain ⟨s107, s107e, h108⟩ := bind_some h
  refine aw_meet (ν := Unit) (fun v => [(5, .int .u64 s107)]) (fun v => []) ?_ ?_
  ·have h := s107e
   refine xr (xa (.agg [.int .u64 18397679294719823053, .int .u64 14181476777654086739, .int .u64 1]) Z (pu_buildArr (zs := [.int .u64 0, .int .u64 0, .int .u64 0]) (aparts := [(0, .int .u64 18397679294719823053), (1, .int .u64 14181476777654086739), (2, .int .u64 1)]) (cs := [.int .u64 18397679294719823053, .int .u64 14181476777654086739, .int .u64 1]) Z underlying94 sizeOf22 zeroValue94 Z ⟨Z, (AEv.int _ _), ⟨Z, (AEv.int _ _), ⟨Z, (AEv.int _ _), trivial⟩⟩⟩ Z) (xa (.i 0) Z (pu_move Z (AEv.int _ _)) (xe (aw_block (aw_while (σ := hash.Of.S2) (ν := Unit) hash.Of.body2 (fun s118 v => [(5, .int .u64 s118.h), (24, .agg [.int .u64 18397679294719823053, .int .u64 14181476777654086739, .int .u64 1]), (25, .i s118.t25)]) (fun s118 v => []) ⟨s76, 0⟩ () _ h (Weak.mkL [] (by decide) trivial ⟨tm Z, tm Z, tm Z, trivial⟩) ?_)))))
   rintro s118 _ x120 h hx119
   unfold hash.Of.body2 at h
   refine xr (xa (.bool (decide (s118.t25 < 3))) Z (pu_int (v := .bool (decide (s118.t25 < 3))) Z Z (tm Z) (AEv.int _ _) Z) (xe (aw_seq (aw_cond (b := decide (s118.t25 < 3)) (tm Z) (fun hb124 => ?_) (fun hb124 => ?_)))))
   ·replace h := ite_t (dec_t hb124) h
    refine aw_skip (aw_seq (aw_block (aw_seq (aw_region ?_))))
    obtain ⟨c122, h⟩ := need_of h
    refine xa (.int .u64 (ix ([18397679294719823053, 14181476777654086739, 1] : List Int) s118.t25)) Z (pu_idxArrM (f := (AV.int .u64)) (ys := ([18397679294719823053, 14181476777654086739, 1] : List Int)) Z underlying94 sizeOf22 isAgg22 (tm Z) (tm Z) Z Z c122) (xm Z Z Z (xe (aw_region (xm Z Z Z (xm Z Z Z (xa (.int .u64 (s118.h / 2 ^ min (Int.toNat 33) (IntKind.bits .u64))) Z (pu_shr Z (tm Z) (AEv.int _ _) (by decide)) (xa (.int .u64 (Go.bits .xor .u64 s118.h (s118.h / 2 ^ min (Int.toNat 33) (IntKind.bits .u64)))) Z (pu_int (v := .int .u64 (Go.bits .xor .u64 s118.h (s118.h / 2 ^ min (Int.toNat 33) (IntKind.bits .u64)))) Z Z (tm Z) (tm Z) Z) (xm Z Z Z ?_))))))))
    obtain ⟨x123, x123e, h⟩ := letO_of h
    refine xa (.int .u64 x123) Z (APure.eq (pu_int (v := .int .u64 (IntKind.wrap .u64 ((Go.bits .xor .u64 s118.h (s118.h / 2 ^ min (Int.toNat 33) (IntKind.bits .u64))) * (ix ([18397679294719823053, 14181476777654086739, 1] : List Int) s118.t25)))) Z Z (tm Z) (tm Z) Z) (congrArg (AV.int .u64) x123e.symm)) (xm Z Z Z (xe (aw_region (xa (.i (IntKind.wrap .i64 (s118.t25 + 1))) Z (pu_int (v := .i (IntKind.wrap .i64 (s118.t25 + 1))) Z Z (tm Z) (AEv.int _ _) Z) (xm Z Z Z (xe ?_))))))
    obtain rfl := some_of h
    exact ⟨_, (), Z, Weak.mkL [] (by decide) trivial ⟨tm Z, tm Z, (AEv.le (tm Z) vr), trivial⟩⟩
   ·replace h := ite_f (dec_f hb124) h
    refine aw_exit ?_
    obtain rfl := some_of h
    have h := congrArg some (hx119 _ rfl)
    obtain rfl := some_of h
    exact ⟨(), Weak.mkL [] (by decide) trivial ⟨tm Z, trivial⟩⟩
  ·intro _
   have h := h108
   refine xr (xm Z Z Z (xm Z Z Z (xe (aw_ret ?_))))
   obtain rfl := some_of h
   exact ⟨[.int .u64 s107], _, [], ⟨(tm Z), trivial⟩, vr, Weak.mkL [] (by decide) trivial trivial, ⟨Z, Z⟩⟩

theorem hash.size.ok {b : Int} {r : Int} (h : hash.size b = some r) : Go.Lift.Spec prog 66 [.i b] [] (fun v H => v = .i r ∧ H = []) := by
 unfold hash.size at h
 refine Go.Lift.Spec.of_body (rs := [.tmp 2]) func66 Z Z (nb Z) Z (xr (xa (.i 0) Z (pu_assign Z (AEv.int _ _)) (xe (xr (xm Z Z Z (xa (.i (if b < 0 then 0 else b)) Z (pu_max2 Z (tm Z) (AEv.int _ _)) (xa (.i (if 16 < (if b < 0 then 0 else b) then 16 else (if b < 0 then 0 else b))) Z (pu_min2 Z (tm Z) (AEv.int _ _)) ?_)))))))
 refine xm Z Z Z (xe (aw_ret ?_))
 obtain rfl := some_of h
 exact ⟨[.i (if 16 < (if b < 0 then 0 else b) then 16 else (if b < 0 then 0 else b))], _, [], ⟨(tm Z), trivial⟩, vr, Weak.mkL [] (by decide) trivial trivial, ⟨Z, Z⟩⟩

theorem hash.low.ok {n_ : Int} {b : Int} {r : Int} (h : hash.low n_ b = some r) : Go.Lift.Spec prog 57 [.int .u64 n_, .i b] [] (fun v H => v = .int .u64 r ∧ H = []) := by
 unfold hash.low at h
 refine Go.Lift.Spec.of_body (rs := [.tmp 4]) func57 Z Z (nb Z) Z (xr (xa (.int .u64 0) Z (pu_assign Z (AEv.int _ _)) (xe (xr (xm Z Z Z (xm Z Z Z ?_))))))
 obtain ⟨r3, r3e, h⟩ := bind_some h
 refine xc Z (op_call (vs := [.i b]) (H := []) Z call66 ⟨(tm Z), trivial⟩ (List.Perm.refl _) (hash.size.ok r3e) ?_)
 rintro _ _ ⟨rfl, rfl⟩
 obtain ⟨c4, h⟩ := need_of h
 refine xa (.int .u64 (IntKind.wrap .u64 (1 * 2 ^ min (Int.toNat r3) (IntKind.bits .u64)))) Z (pu_shl Z (AEv.int _ _) (tm Z) c4) (xa (.int .u64 (IntKind.wrap .u64 ((IntKind.wrap .u64 (1 * 2 ^ min (Int.toNat r3) (IntKind.bits .u64))) - 1))) Z (pu_int (v := .int .u64 (IntKind.wrap .u64 ((IntKind.wrap .u64 (1 * 2 ^ min (Int.toNat r3) (IntKind.bits .u64))) - 1))) Z Z (tm Z) (AEv.int _ _) Z) (xa (.int .u64 (Go.bits .and .u64 n_ (IntKind.wrap .u64 ((IntKind.wrap .u64 (1 * 2 ^ min (Int.toNat r3) (IntKind.bits .u64))) - 1)))) Z (pu_int (v := .int .u64 (Go.bits .and .u64 n_ (IntKind.wrap .u64 ((IntKind.wrap .u64 (1 * 2 ^ min (Int.toNat r3) (IntKind.bits .u64))) - 1)))) Z Z (tm Z) (tm Z) Z) (xm Z Z Z (xe (aw_ret ?_)))))
 obtain rfl := some_of h
 exact ⟨[.int .u64 (Go.bits .and .u64 n_ (IntKind.wrap .u64 ((IntKind.wrap .u64 (1 * 2 ^ min (Int.toNat r3) (IntKind.bits .u64))) - 1)))], _, [], ⟨(tm Z), trivial⟩, vr, Weak.mkL [] (by decide) trivial trivial, ⟨Z, Z⟩⟩

theorem hash.Place.ok {h_ : Int} {b : Int} {r : Int} (h : hash.Place h_ b = some r) : Go.Lift.Spec prog 45 [.int .u64 h_, .i b] [] (fun v H => v = .i r ∧ H = []) := by
 unfold hash.Place at h
 refine Go.Lift.Spec.of_body (rs := [.tmp 4]) func45 Z Z (nb Z) Z (xr (xa (.i 0) Z (pu_assign Z (AEv.int _ _)) (xe (xr (xm Z Z Z (xm Z Z Z ?_))))))
 obtain ⟨r2, r2e, h⟩ := bind_some h
 refine xc Z (op_call (vs := [.int .u64 h_, .i b]) (H := []) Z call57 ⟨(tm Z), (tm Z), trivial⟩ (List.Perm.refl _) (hash.low.ok r2e) ?_)
 rintro _ _ ⟨rfl, rfl⟩
 refine xa (.i (IntKind.wrap .i64 r2)) Z (pu_conv Z underlying22 underlying3 (tm Z)) (xm Z Z Z (xe (aw_ret ?_)))
 obtain rfl := some_of h
 exact ⟨[.i (IntKind.wrap .i64 r2)], _, [], ⟨(tm Z), trivial⟩, vr, Weak.mkL [] (by decide) trivial trivial, ⟨Z, Z⟩⟩

theorem dict.Table_int.slot.ok {t_ : RP} {k_ : Int} {key : List UInt8} {mem : Reg} {r : RP} (h : dict.Table_int.slot t_ k_ key mem = some r) (rg : Nat) : Go.Lift.Spec prog 55 [.rp rg t_, .i k_, .str key] [(rg, .abs (regAbs mem))] (fun v H => v = .rp rg r ∧ H = [(rg, .abs (regAbs mem))]) := by
 unfold dict.Table_int.slot at h
 refine Go.Lift.Spec.of_body (rs := [.tmp 6]) func55 Z Z (nb Z) Z (xr (xa (.rp rg (none : RP)) Z (pu_assign Z (AEv.rpn _)) (xe (xr (xm Z Z Z (xm Z Z Z ?_))))))
 obtain ⟨c11, h⟩ := need_of h
 refine xa (.rp rg t_) Z (pu_regCheck Z (tm Z) c11) (xa (.rp rg (rpAdd t_ 1)) Z (pu_regField Z underlying46 Z sizeOf44 (by decide) (tm Z) c11 Z) ?_)
 obtain ⟨c12, h⟩ := need_of h
 obtain ⟨c13, h⟩ := need_of h
 refine xa (.rp rg (rpAdd (rpAdd t_ 1) (Int.toNat k_ * 2))) Z (pu_regIndexA Z underlying44 sizeOf43 (tm Z) (tm Z) c12 c13) (xm Z Z Z (xe (aw_seq ?_)))
 obtain ⟨c14, h⟩ := need_of h
 obtain ⟨r15, r15e, h⟩ := bind_some h
 obtain ⟨r16, r16e, h⟩ := bind_some h
 obtain ⟨r17, r17e, h⟩ := bind_some h
 obtain ⟨r18, r18e, h⟩ := bind_some h
 obtain ⟨r19, r19e, h⟩ := bind_some h
 obtain ⟨c20, h⟩ := need_of h
 refine aw_planR (by decide +kernel) [[], [], [], [(0, 0, false)], [], [], [], [(0, 0, false)], [], [], [], [], [], [(0, 0, false)], [], [], []] [[]] [[[(rg, .abs (regAbs mem))]]] [.rp rg (rpAdd (rpAdd t_ 1) (Int.toNat k_ * 2)), .rp rg (rpAdd (rpAdd t_ 1) (Int.toNat k_ * 2)), .rp rg (rpAdd (rpAdd (rpAdd t_ 1) (Int.toNat k_ * 2)) 1), .rs rg r15, .rp rg t_, .rp rg t_, .rp rg (rpAdd t_ 0), .int .u64 r16, .str key, .int .u64 r17, .rp rg (rpAdd (rpAdd t_ 1) (Int.toNat k_ * 2)), .rp rg (rpAdd (rpAdd t_ 1) (Int.toNat k_ * 2)), .rp rg (rpAdd (rpAdd (rpAdd t_ 1) (Int.toNat k_ * 2)) 0), .i r18, .i r19, .rp rg (rsPtr r15 r19 1), .rp rg (rsPtr r15 r19 1)] (by decide +kernel) Z Z ?_ ?_
 ·exact ⟨ym Z Z Z, yp Z (pu_regCheck Z (tm Z) c14), yp Z (pu_regField Z underlying43 Z sizeOf41 (by decide) (tm Z) c14 Z), stepg_plain Z (op_regLoad (i := 0) (av := .rs rg r15) Z isAgg41 (tm Z) Z (rLdL_eq r15e) Z ⟨Z, Z⟩), ym Z Z Z, yp Z (pu_regCheck Z (tm Z) c11), yp Z (pu_regField Z underlying46 Z sizeOf22 (by decide) (tm Z) c11 Z), stepg_plain Z (op_regLoad (i := 0) (av := .int .u64 r16) Z isAgg22 (tm Z) Z (rLdI_eq r16e) Z ⟨Z, Z⟩), ym Z Z Z, stepg_plain Z (op_call (vs := [.int .u64 r16, .str key]) (H := []) Z call65 ⟨(tm Z), (tm Z), trivial⟩ (R := []) (List.Perm.refl _) (hash.Of.ok r17e) (by rintro _ _ ⟨rfl, rfl⟩; exact ⟨Z, Z⟩)), ym Z Z Z, yp Z (pu_regCheck Z (tm Z) c14), yp Z (pu_regField Z underlying43 Z sizeOf3 (by decide) (tm Z) c14 Z), stepg_plain Z (op_regLoad (i := 0) (av := .i r18) Z isAgg3 (tm Z) Z (rLdI_eq r18e) Z ⟨Z, Z⟩), stepg_plain Z (op_call (vs := [.int .u64 r17, .i r18]) (H := []) Z call45 ⟨(tm Z), (tm Z), trivial⟩ (R := []) (List.Perm.refl _) (hash.Place.ok r19e) (by rintro _ _ ⟨rfl, rfl⟩; exact ⟨Z, Z⟩)), yp Z (pu_regIndexS Z underlying41 sizeOf73 (tm Z) (tm Z) c20), ym Z Z Z, trivial⟩
 refine aw_ret ?_
 obtain rfl := some_of h
 exact ⟨[.rp rg (rsPtr r15 r19 1)], _, [(rg, .abs (regAbs mem))], ⟨(tm Z), trivial⟩, vr, Weak.mkL [0] (by decide) ⟨⟨_, Z, Z⟩, trivial⟩ trivial, ⟨Z, Z⟩⟩

theorem dict.Table_int.front.ok {t_ : RP} {k_ : Int} {x_ : RP} {mem : Reg} {r : Reg} (h : dict.Table_int.front t_ k_ x_ mem = some r) (rg : Nat) : Go.Lift.Spec prog 42 [.rp rg t_, .i k_, .rp rg x_] [(rg, .abs (regAbs mem))] (fun v H => v = .tup [] ∧ H = [(rg, .abs (regAbs r))]) := by
 unfold dict.Table_int.front at h
 refine Go.Lift.Spec.of_body (rs := []) func42 Z Z (nb Z) Z (aw_upd (xr (xm Z Z Z (xm Z Z Z (xm Z Z Z ?_)))))
 obtain ⟨c8, h⟩ := need_of h
 refine xa (.rp rg x_) Z (pu_regCheck Z (tm Z) c8) (xa (.rp rg (rpAdd x_ 0)) Z (pu_regField Z underlying75 Z sizeOf9 (by decide) (tm Z) c8 Z) ?_)
 obtain ⟨r9, r9e, h⟩ := bind_some h
 refine xc Z (op_regLoad (i := 0) (av := .str r9) Z isAgg9 (tm Z) Z (rLdS_eq r9e) Z ?_)
 obtain ⟨r10, r10e, h⟩ := bind_some h
 refine xc Z (op_call (vs := [.rp rg t_, .i k_, .str r9]) (H := [(rg, .abs (regAbs mem))]) Z call55 ⟨(tm Z), (tm Z), (tm Z), trivial⟩ (List.Perm.refl _) (dict.Table_int.slot.ok r10e rg) ?_)
 rintro _ _ ⟨rfl, rfl⟩
 refine xm Z Z Z (xe (aw_region (xm Z Z Z (xm Z Z Z (xm Z Z Z ?_)))))
 obtain ⟨c11, h⟩ := need_of h
 refine xa (.rp rg r10) Z (pu_regCheck Z (tm Z) c11) ?_
 obtain ⟨r12, r12e, h⟩ := bind_some h
 refine xc Z (op_regLoad (i := 0) (av := .rp rg r12) Z isAgg73 (tm Z) Z (rLdP_eq r12e) Z (xm Z Z Z (xa (.rp rg x_) Z (pu_regCheck Z (tm Z) c8) (xa (.rp rg (rpAdd x_ 2)) Z (pu_regField Z underlying75 Z sizeOf73 (by decide) (tm Z) c8 Z) ?_))))
 obtain ⟨r13, r13e, h⟩ := bind_some h
 refine ac0 Z Z (op_regStore (i := 0) [.pt r12] Z sizeOf73 (tm Z) (v := .rp rg r12) (tm Z) Z Z Z r13e (xa (.rp rg r10) Z (pu_regCheck Z (tm Z) c11) ?_))
 obtain ⟨r14, r14e, h⟩ := bind_some h
 refine ac0 Z Z (op_regStore (i := 0) [.pt x_] Z sizeOf73 (tm Z) (v := .rp rg x_) (tm Z) Z Z Z r14e (xe (upd_done ?_)))
 obtain rfl := some_of h
 exact ⟨[], _, [(rg, .abs (regAbs r14))], trivial, vr, Weak.mkL [0] (by decide) ⟨⟨_, Z, Z⟩, trivial⟩ trivial, ⟨Z, Z⟩⟩

theorem dict.Table_int.step.ok {t_ : RP} {mem : Reg} {r : Bool × Reg} (h : dict.Table_int.step t_ mem = some r) (rg : Nat) : Go.Lift.Spec prog 40 [.rp rg t_] [(rg, .abs (regAbs mem))] (fun v H => v = .bool r.1 ∧ H = [(rg, .abs (regAbs r.2))]) := by
 unfold dict.Table_int.step at h
 refine Go.Lift.Spec.of_body (rs := [.tmp 2]) func40 Z Z (nb Z) Z (xr (xa (.bool false) Z (pu_assign Z (AEv.bool _)) (xe (aw_seq (xr (xm Z Z Z ?_))))))
 obtain ⟨c88, h⟩ := need_of h
 refine xa (.rp rg t_) Z (pu_regCheck Z (tm Z) c88) (xa (.rp rg (rpAdd t_ 6)) Z (pu_regField Z underlying46 Z sizeOf4 (by decide) (tm Z) c88 Z) ?_)
 obtain ⟨r89, r89e, h⟩ := bind_some h
 refine xc Z (op_regLoad (i := 0) (av := .bool r89) Z isAgg4 (tm Z) Z (rLdB_eq r89e) Z (xa (.bool (!r89)) Z (pu_not Z (tm Z)) (xe (aw_cond (b := (!r89)) (tm Z) (fun hb174 => ?_) (fun hb174 => ?_)))))
 ·replace h := ite_t hb174 h
  refine xr (xa (.bool false) Z (pu_assign Z (AEv.bool _)) (xe (aw_ret ?_)))
  obtain rfl := some_of h
  exact ⟨[.bool false], _, [(rg, .abs (regAbs mem))], ⟨(tm Z), trivial⟩, vr, Weak.mkL [0] (by decide) ⟨⟨_, Z, Z⟩, trivial⟩ trivial, ⟨Z, Z⟩⟩
 ·replace h := ite_fb hb174 h
  refine aw_skip (aw_seq ?_)
  obtain ⟨c90, h⟩ := need_of h
  obtain ⟨c91, h⟩ := need_of h
  obtain ⟨c92, h⟩ := need_of h
  obtain ⟨r93, r93e, h⟩ := bind_some h
  obtain ⟨r94, r94e, h⟩ := bind_some h
  obtain ⟨c95, h⟩ := need_of h
  obtain ⟨r96, r96e, h⟩ := bind_some h
  refine aw_planR (by decide +kernel) [[], [], [], [], [], [(0, 0, false)], [], [], [], [(0, 0, false)], [], [(0, 0, false)], []] [[]] [[[(rg, .abs (regAbs mem))]]] [.rp rg t_, .rp rg t_, .rp rg (rpAdd t_ 1), .rp rg (rpAdd (rpAdd t_ 1) 0), .rp rg (rpAdd (rpAdd (rpAdd t_ 1) 0) 1), .rs rg r93, .rp rg t_, .rp rg t_, .rp rg (rpAdd t_ 5), .i r94, .rp rg (rsPtr r93 r94 1), .rp rg r96, .rp rg r96] (by decide +kernel) Z Z ?_ ?_
  ·exact ⟨ym Z Z Z, yp Z (pu_regCheck Z (tm Z) c88), yp Z (pu_regField Z underlying46 Z sizeOf44 (by decide) (tm Z) c88 Z), yp Z (pu_regIndexA Z underlying44 sizeOf43 (tm Z) (AEv.int _ _) c90 c91), yp Z (pu_regField Z underlying43 Z sizeOf41 (by decide) (tm Z) c92 Z), stepg_plain Z (op_regLoad (i := 0) (av := .rs rg r93) Z isAgg41 (tm Z) Z (rLdL_eq r93e) Z ⟨Z, Z⟩), ym Z Z Z, yp Z (pu_regCheck Z (tm Z) c88), yp Z (pu_regField Z underlying46 Z sizeOf3 (by decide) (tm Z) c88 Z), stepg_plain Z (op_regLoad (i := 0) (av := .i r94) Z isAgg3 (tm Z) Z (rLdI_eq r94e) Z ⟨Z, Z⟩), yp Z (pu_regIndexS Z underlying41 sizeOf73 (tm Z) (tm Z) c95), stepg_plain Z (op_regLoad (i := 0) (av := .rp rg r96) Z isAgg73 (tm Z) Z (rLdP_eq r96e) Z ⟨Z, Z⟩), ym Z Z Z, trivial⟩
  refine aw_seq ?_
  obtain ⟨c97, h⟩ := need_of h
  obtain ⟨r98, r98e, h⟩ := bind_some h
  obtain ⟨r99, r99e, h⟩ := bind_some h
  obtain ⟨c100, h⟩ := need_of h
  obtain ⟨r101, r101e, h⟩ := bind_some h
  refine aw_planR (by decide +kernel) [[], [], [], [], [], [(0, 0, false)], [], [], [], [(0, 0, false)], [], [(0, 0, true)]] [[11]] [[[(rg, .abs (regAbs mem))], [(rg, .abs (regAbs r101))]]] [.rp rg t_, .rp rg t_, .rp rg (rpAdd t_ 1), .rp rg (rpAdd (rpAdd t_ 1) 0), .rp rg (rpAdd (rpAdd (rpAdd t_ 1) 0) 1), .rs rg r98, .rp rg t_, .rp rg t_, .rp rg (rpAdd t_ 5), .i r99, .rp rg (rsPtr r98 r99 1), .un] (by decide +kernel) Z Z ?_ ?_
  ·exact ⟨ym Z Z Z, yp Z (pu_regCheck Z (tm Z) c88), yp Z (pu_regField Z underlying46 Z sizeOf44 (by decide) (tm Z) c88 Z), yp Z (pu_regIndexA Z underlying44 sizeOf43 (tm Z) (AEv.int _ _) c90 c97), yp Z (pu_regField Z underlying43 Z sizeOf41 (by decide) (tm Z) c92 Z), stepg_plain Z (op_regLoad (i := 0) (av := .rs rg r98) Z isAgg41 (tm Z) Z (rLdL_eq r98e) Z ⟨Z, Z⟩), ym Z Z Z, yp Z (pu_regCheck Z (tm Z) c88), yp Z (pu_regField Z underlying46 Z sizeOf3 (by decide) (tm Z) c88 Z), stepg_plain Z (op_regLoad (i := 0) (av := .i r99) Z isAgg3 (tm Z) Z (rLdI_eq r99e) Z ⟨Z, Z⟩), yp Z (pu_regIndexS Z underlying41 sizeOf73 (tm Z) (tm Z) c100), stepg_plain Z (op_regStore (i := 0) [.pt (none : RP)] Z sizeOf73 (tm Z) (v := .rp rg (none : RP)) (AEv.rpn _) Z Z Z r101e ⟨Z, Z⟩), trivial⟩
  obtain ⟨s120, s120e, h121⟩ := bind_some h
  refine aw_meet (ν := Unit) (fun v => [(0, .rp rg t_)]) (fun v => [(rg, .abs (regAbs s120))]) ?_ ?_
  ·have h := s120e
   refine aw_block (aw_while (σ := dict.Table_int.step.S0) (ν := Unit) (dict.Table_int.step.body0 t_) (fun s133 v => [(0, .rp rg t_), (3, .rp rg s133.x)]) (fun s133 v => [(rg, .abs (regAbs s133.mem))]) ⟨r96, r101⟩ () _ h (Weak.mkL [0] (by decide) ⟨⟨_, Z, Z⟩, trivial⟩ ⟨tm Z, tm Z, trivial⟩) ?_)
   rintro s133 _ x135 h hx134
   unfold dict.Table_int.step.body0 at h
   refine aw_seq (xr (xm Z Z Z (xa (.bool s133.x.isSome) Z (pu_regNotNil Z underlying73 (tm Z) AEv.nilp) (xe (aw_cond (b := s133.x.isSome) (tm Z) (fun hb140 => ?_) (fun hb140 => ?_))))))
   ·replace h := ite_t hb140 h
    refine aw_skip (aw_block (xr (xm Z Z Z ?_)))
    obtain ⟨c137, h⟩ := need_of h
    refine xa (.rp rg s133.x) Z (pu_regCheck Z (tm Z) c137) (xa (.rp rg (rpAdd s133.x 2)) Z (pu_regField Z underlying75 Z sizeOf73 (by decide) (tm Z) c137 Z) ?_)
    obtain ⟨r138, r138e, h⟩ := bind_some h
    refine xc Z (op_regLoad (i := 0) (av := .rp rg r138) Z isAgg73 (tm Z) Z (rLdP_eq r138e) Z (xm Z Z Z (xe (xr (xm Z Z Z (xm Z Z Z ?_))))))
    obtain ⟨r139, r139e, h⟩ := bind_some h
    refine xc Z (op_call (vs := [.rp rg t_, .i 1, .rp rg s133.x]) (H := [(rg, .abs (regAbs s133.mem))]) Z call42 ⟨(tm Z), (AEv.int _ _), (tm Z), trivial⟩ (List.Perm.refl _) (dict.Table_int.front.ok r139e rg) ?_)
    rintro _ _ ⟨rfl, rfl⟩
    refine xe (aw_region (xm Z Z Z (xm Z Z Z (xe ?_))))
    obtain rfl := some_of h
    exact ⟨_, (), Z, Weak.mkL [0] (by decide) ⟨⟨_, Z, Z⟩, trivial⟩ ⟨tm Z, tm Z, trivial⟩⟩
   ·replace h := ite_fb hb140 h
    refine aw_exit ?_
    obtain rfl := some_of h
    have h := congrArg some (hx134 _ rfl)
    obtain rfl := some_of h
    exact ⟨(), Weak.mkL [0] (by decide) ⟨⟨_, Z, Z⟩, trivial⟩ ⟨tm Z, trivial⟩⟩
  ·intro _
   have h := h121
   obtain ⟨s156, s156e, h157⟩ := bind_some h
   refine aw_meet (ν := Unit) (fun v => []) (fun v => [(rg, .abs (regAbs s156))]) ?_ ?_
   ·have h := s156e
    refine xr (xm Z Z Z ?_)
    obtain ⟨c159, h⟩ := need_of h
    refine xa (.rp rg t_) Z (pu_regCheck Z (tm Z) c159) (xa (.rp rg (rpAdd t_ 5)) Z (pu_regField Z underlying46 Z sizeOf3 (by decide) (tm Z) c159 Z) ?_)
    obtain ⟨r160, r160e, h⟩ := bind_some h
    refine xc Z (op_regLoad (i := 0) (av := .i r160) Z isAgg3 (tm Z) Z (rLdI_eq r160e) Z (xa (.i (IntKind.wrap .i64 (r160 + 1))) Z (pu_int (v := .i (IntKind.wrap .i64 (r160 + 1))) Z Z (tm Z) (AEv.int _ _) Z) (xa (.rp rg t_) Z (pu_regCheck Z (tm Z) c159) (xa (.rp rg (rpAdd t_ 5)) Z (pu_regField Z underlying46 Z sizeOf3 (by decide) (tm Z) c159 Z) ?_))))
    obtain ⟨r161, r161e, h⟩ := bind_some h
    refine ac0 Z Z (op_regStore (i := 0) [.it .i64 (IntKind.wrap .i64 (r160 + 1))] Z sizeOf3 (tm Z) (v := .i (IntKind.wrap .i64 (r160 + 1))) (tm Z) Z Z Z r161e (xe (aw_seq ?_)))
    obtain ⟨r162, r162e, h⟩ := bind_some h
    obtain ⟨c163, h⟩ := need_of h
    obtain ⟨c164, h⟩ := need_of h
    obtain ⟨c165, h⟩ := need_of h
    obtain ⟨r166, r166e, h⟩ := bind_some h
    refine aw_planR (by decide +kernel) [[], [], [], [(0, 0, false)], [], [], [], [], [], [(0, 0, false)], [], []] [[]] [[[(rg, .abs (regAbs r161))]]] [.rp rg t_, .rp rg t_, .rp rg (rpAdd t_ 5), .i r162, .rp rg t_, .rp rg t_, .rp rg (rpAdd t_ 1), .rp rg (rpAdd (rpAdd t_ 1) 0), .rp rg (rpAdd (rpAdd (rpAdd t_ 1) 0) 1), .rs rg r166, .i (rsLen r166 : Int), .bool (decide (r162 = (rsLen r166 : Int)))] (by decide +kernel) Z Z ?_ ?_
    ·exact ⟨ym Z Z Z, yp Z (pu_regCheck Z (tm Z) c159), yp Z (pu_regField Z underlying46 Z sizeOf3 (by decide) (tm Z) c159 Z), stepg_plain Z (op_regLoad (i := 0) (av := .i r162) Z isAgg3 (tm Z) Z (rLdI_eq r162e) Z ⟨Z, Z⟩), ym Z Z Z, yp Z (pu_regCheck Z (tm Z) c159), yp Z (pu_regField Z underlying46 Z sizeOf44 (by decide) (tm Z) c159 Z), yp Z (pu_regIndexA Z underlying44 sizeOf43 (tm Z) (AEv.int _ _) c163 c164), yp Z (pu_regField Z underlying43 Z sizeOf41 (by decide) (tm Z) c165 Z), stepg_plain Z (op_regLoad (i := 0) (av := .rs rg r166) Z isAgg41 (tm Z) Z (rLdL_eq r166e) Z ⟨Z, Z⟩), yp Z (pu_regLen Z underlying41 (tm Z)), yp Z (pu_int (v := .bool (decide (r162 = (rsLen r166 : Int)))) Z Z (tm Z) (tm Z) Z), trivial⟩
    refine aw_cond (b := decide (r162 = (rsLen r166 : Int))) (tm Z) (fun hb173 => ?_) (fun hb173 => ?_)
    ·replace h := ite_t (dec_t hb173) h
     refine xr (xm Z Z Z (xm Z Z Z (xa (.rp rg t_) Z (pu_regCheck Z (tm Z) c159) (xa (.rp rg (rpAdd t_ 1)) Z (pu_regField Z underlying46 Z sizeOf44 (by decide) (tm Z) c159 Z) ?_))))
     obtain ⟨c167, h⟩ := need_of h
     refine xa (.rp rg (rpAdd (rpAdd t_ 1) 2)) Z (pu_regIndexA Z underlying44 sizeOf43 (tm Z) (AEv.int _ _) c163 c167) ?_
     obtain ⟨r168, r168e, h⟩ := bind_some h
     obtain ⟨r169, r169e, h⟩ := bind_some h
     refine xc Z (op_regLoadN (i := 0) (vs := [.it .i64 r168, .sc r169]) (avs := [.i r168, .rs rg r169]) Z isAgg43 sizeOf43 (tm Z) Z ⟨rLdI_eq r168e, rLdL_eq r169e, trivial⟩ Z (by decide) Z (xa (.agg [.i r168, .rs rg r169, .i 0, .rs rg (none : RS)]) Z (pu_buildArr (zs := [.i 0, .rs rg (none : RS), .i 0, .rs rg (none : RS)]) (aparts := [(0, .agg [.i r168, .rs rg r169])]) (cs := [.i r168, .rs rg r169, .i 0, .rs rg (none : RS)]) Z underlying44 sizeOf43 zeroValue44 Z ⟨Z, (tm Z), trivial⟩ Z) (xa (.rp rg t_) Z (pu_regCheck Z (tm Z) c159) (xa (.rp rg (rpAdd t_ 1)) Z (pu_regField Z underlying46 Z sizeOf44 (by decide) (tm Z) c159 Z) ?_))))
     obtain ⟨r170, r170e, h⟩ := bind_some h
     refine ac0 Z Z (op_regStore (i := 0) [.it .i64 r168, .sc r169, .it .i64 0, .sc (none : RS)] Z sizeOf44 (tm Z) (v := .agg [.i r168, .rs rg r169, .i 0, .rs rg (none : RS)]) (tm Z) Z Z Z r170e (xe (aw_region (xm Z Z Z (xm Z Z Z (xa (.rp rg t_) Z (pu_regCheck Z (tm Z) c159) (xa (.rp rg (rpAdd t_ 6)) Z (pu_regField Z underlying46 Z sizeOf4 (by decide) (tm Z) c159 Z) ?_)))))))
     obtain ⟨r171, r171e, h⟩ := bind_some h
     refine ac0 Z Z (op_regStore (i := 0) [.bo false] Z sizeOf4 (tm Z) (v := .bool false) (AEv.bool _) Z Z Z r171e (xa (.rp rg t_) Z (pu_regCheck Z (tm Z) c159) (xa (.rp rg (rpAdd t_ 5)) Z (pu_regField Z underlying46 Z sizeOf3 (by decide) (tm Z) c159 Z) ?_)))
     obtain ⟨r172, r172e, h⟩ := bind_some h
     refine ac0 Z Z (op_regStore (i := 0) [.it .i64 0] Z sizeOf3 (tm Z) (v := .i 0) (AEv.int _ _) Z Z Z r172e (xe ?_))
     obtain rfl := some_of h
     exact ⟨(), Weak.mkL [0] (by decide) ⟨⟨_, Z, Z⟩, trivial⟩ trivial⟩
    ·replace h := ite_f (dec_f hb173) h
     refine aw_skip ?_
     obtain rfl := some_of h
     exact ⟨(), Weak.mkL [0] (by decide) ⟨⟨_, Z, Z⟩, trivial⟩ trivial⟩
   ·intro _
    have h := h157
    refine xr (xa (.bool true) Z (pu_assign Z (AEv.bool _)) (xe (aw_ret ?_)))
    obtain rfl := some_of h
    exact ⟨[.bool true], _, [(rg, .abs (regAbs s156))], ⟨(tm Z), trivial⟩, vr, Weak.mkL [0] (by decide) ⟨⟨_, Z, Z⟩, trivial⟩ trivial, ⟨Z, Z⟩⟩

theorem dict.Table_int.find.ok {t_ : RP} {key : List UInt8} {mem : Reg} {r : RP} (h : dict.Table_int.find t_ key mem = some r) (rg : Nat) : Go.Lift.Spec prog 41 [.rp rg t_, .str key] [(rg, .abs (regAbs mem))] (fun v H => v = .rp rg r ∧ H = [(rg, .abs (regAbs mem))]) := by
 unfold dict.Table_int.find at h
 refine Go.Lift.Spec.of_body (rs := [.tmp 4]) func41 Z Z (nb Z) Z (xr (xa (.rp rg (none : RP)) Z (pu_assign Z (AEv.rpn _)) (xe ?_)))
 obtain ⟨s1148, s1148e, h861⟩ := bind_some h
 refine aw_join (σ := Unit) (ν := Unit) (fun u v => []) (fun u v => [(rg, .abs (regAbs mem))]) (fun u => s1148 = .inl u) ?_ ?_
 ·intro s860
  intro _
  rintro rfl
  have h := onSum_inl h861
  refine xr (xa (.rp rg (none : RP)) Z (pu_assign Z (AEv.rpn _)) (xe (aw_ret ?_)))
  obtain rfl := some_of h
  exact ⟨[.rp rg (none : RP)], _, [(rg, .abs (regAbs mem))], ⟨(tm Z), trivial⟩, vr, Weak.mkL [0] (by decide) ⟨⟨_, Z, Z⟩, trivial⟩ trivial, ⟨Z, Z⟩⟩
 ·have h := s1148e
  refine xr (xa (.i 0) Z (pu_move Z (AEv.int _ _)) (xe (aw_block (aw_while (σ := dict.Table_int.find.S0) (ν := Unit) (dict.Table_int.find.body0 t_ mem key) (fun s1051 v => [(0, .rp rg t_), (1, .str key), (7, .i s1051.t7)]) (fun s1051 v => [(rg, .abs (regAbs mem))]) ⟨0⟩ () _ h (Weak.mkL [0] (by decide) ⟨⟨_, Z, Z⟩, trivial⟩ ⟨tm Z, tm Z, tm Z, trivial⟩) ?_))))
  rintro s1051 _ x1053 h hx1052
  unfold dict.Table_int.find.body0 at h
  refine xr (xa (.bool (decide (s1051.t7 < 2))) Z (pu_int (v := .bool (decide (s1051.t7 < 2))) Z Z (tm Z) (AEv.int _ _) Z) (xe (aw_seq (aw_cond (b := decide (s1051.t7 < 2)) (tm Z) (fun hb1147 => ?_) (fun hb1147 => ?_)))))
  ·replace h := ite_t (dec_t hb1147) h
   refine aw_skip ?_
   obtain ⟨s1146, s1146e, h1100⟩ := bind_some h
   refine aw_join (σ := Unit) (ν := Unit) (fun u v => [(0, .rp rg t_), (1, .str key), (7, .i s1051.t7)]) (fun u v => [(rg, .abs (regAbs mem))]) (fun u => s1146 = .inl u) ?_ ?_
   ·intro s1099
    intro _
    rintro rfl
    have h := onSum_inl h1100
    refine aw_region (xa (.i (IntKind.wrap .i64 (s1051.t7 + 1))) Z (pu_int (v := .i (IntKind.wrap .i64 (s1051.t7 + 1))) Z Z (tm Z) (AEv.int _ _) Z) (xm Z Z Z (xe ?_)))
    obtain rfl := some_of h
    exact ⟨_, (), Z, Weak.mkL [0] (by decide) ⟨⟨_, Z, Z⟩, trivial⟩ ⟨tm Z, tm Z, (AEv.le (tm Z) vr), trivial⟩⟩
   ·have h := s1146e
    refine aw_block (xr (xm Z Z Z (xm Z Z Z (xe (aw_seq ?_)))))
    obtain ⟨s1105, s1105e, h1106⟩ := bind_some h
    refine aw_meet (ν := Unit) (fun v => [(0, .rp rg t_), (1, .str key), (5, .i s1051.t7), (7, .i s1051.t7), (18, .bool s1105)]) (fun v => [(rg, .abs (regAbs mem))]) ?_ ?_
    ·have h := s1105e
     refine aw_region (xm Z Z Z (xa (.bool (decide (s1051.t7 = 1))) Z (pu_int (v := .bool (decide (s1051.t7 = 1))) Z Z (tm Z) (AEv.int _ _) Z) (xm Z Z Z ?_)))
     rcases Bool.eq_false_or_eq_true (decide (s1051.t7 = 1)) with hb1108 | hb1108
     ·replace h := ite_t (dec_t hb1108) h
      refine aops_known 12 Z hb1108 (xq Z Z Z Z ?_)
      obtain ⟨c1109, h⟩ := need_of h
      refine xp (.rp rg t_) Z Z (pu_regCheck Z (tm Z) c1109) (xp (.rp rg (rpAdd t_ 6)) Z Z (pu_regField Z underlying46 Z sizeOf4 (by decide) (tm Z) c1109 Z) ?_)
      obtain ⟨r1110, r1110e, h⟩ := bind_some h
      refine xg Z Z (op_regLoad (i := 0) (av := .bool r1110) Z isAgg4 (tm Z) Z (rLdB_eq r1110e) Z (xp (.bool (!r1110)) Z Z (pu_not Z (tm Z)) (xa (.bool (!r1110)) Z (pu_pick (b := true) Z (tm Z) (fun _ => (tm Z)) (fun h => nomatch h)) (xe ?_))))
      obtain rfl := some_of h
      exact ⟨(), Weak.mkL [0] (by decide) ⟨⟨_, Z, Z⟩, trivial⟩ ⟨tm Z, tm Z, tm Z, tm Z, tm Z, trivial⟩⟩
     ·replace h := ite_f (dec_f hb1108) h
      refine aops_known 12 Z hb1108 (xn Z Z Z (xn Z Z Z (xn Z Z Z (xn Z Z Z (xn Z Z Z (xa (.bool false) Z (pu_pick (b := false) Z (tm Z) (fun h => nomatch h) (fun _ => (AEv.bool _))) (xe ?_)))))))
      obtain rfl := some_of h
      exact ⟨(), Weak.mkL [0] (by decide) ⟨⟨_, Z, Z⟩, trivial⟩ ⟨tm Z, tm Z, tm Z, tm Z, tm Z, trivial⟩⟩
    ·intro _
     have h := h1106
     refine aw_cond (b := s1105) (tm Z) (fun hb1145 => ?_) (fun hb1145 => ?_)
     ·replace h := ite_t hb1145 h
      refine aw_exit ?_
      obtain rfl := some_of h
      have h := onSum_inr h1100
      obtain rfl := some_of h
      have h := congrArg some (hx1052 _ rfl)
      exact ⟨(), (), (some_of h).symm, Weak.mkL [0] (by decide) ⟨⟨_, Z, Z⟩, trivial⟩ trivial⟩
     ·replace h := ite_fb hb1145 h
      refine aw_skip (xr (xm Z Z Z (xm Z Z Z (xm Z Z Z ?_))))
      obtain ⟨r1111, r1111e, h⟩ := bind_some h
      refine xc Z (op_call (vs := [.rp rg t_, .i s1051.t7, .str key]) (H := [(rg, .abs (regAbs mem))]) Z call55 ⟨(tm Z), (tm Z), (tm Z), trivial⟩ (List.Perm.refl _) (dict.Table_int.slot.ok r1111e rg) ?_)
      rintro _ _ ⟨rfl, rfl⟩
      refine xm Z Z Z (xe (aw_block (aw_while (σ := dict.Table_int.find.S2) (ν := Unit) (dict.Table_int.find.body2 mem key) (fun s1132 v => [(0, .rp rg t_), (1, .str key), (6, .rp rg s1132.at_), (7, .i s1051.t7)]) (fun s1132 v => [(rg, .abs (regAbs mem))]) ⟨r1111⟩ () _ h (Weak.mkL [0] (by decide) ⟨⟨_, Z, Z⟩, trivial⟩ ⟨tm Z, tm Z, tm Z, tm Z, trivial⟩) ?_)))
      rintro s1132 _ x1134 h hx1133
      unfold dict.Table_int.find.body2 at h
      refine aw_seq (xr (xm Z Z Z ?_))
      obtain ⟨c1136, h⟩ := need_of h
      refine xa (.rp rg s1132.at_) Z (pu_regCheck Z (tm Z) c1136) ?_
      obtain ⟨r1137, r1137e, h⟩ := bind_some h
      refine xc Z (op_regLoad (i := 0) (av := .rp rg r1137) Z isAgg73 (tm Z) Z (rLdP_eq r1137e) Z (xa (.bool r1137.isSome) Z (pu_regNotNil Z underlying73 (tm Z) AEv.nilp) (xe (aw_cond (b := r1137.isSome) (tm Z) (fun hb1144 => ?_) (fun hb1144 => ?_)))))
      ·replace h := ite_t hb1144 h
       refine aw_skip (aw_seq (aw_block (xr (xm Z Z Z (xa (.rp rg s1132.at_) Z (pu_regCheck Z (tm Z) c1136) ?_)))))
       obtain ⟨r1138, r1138e, h⟩ := bind_some h
       refine xc Z (op_regLoad (i := 0) (av := .rp rg r1138) Z isAgg73 (tm Z) Z (rLdP_eq r1138e) Z ?_)
       obtain ⟨c1139, h⟩ := need_of h
       refine xa (.rp rg r1138) Z (pu_regCheck Z (tm Z) c1139) (xa (.rp rg (rpAdd r1138 0)) Z (pu_regField Z underlying75 Z sizeOf9 (by decide) (tm Z) c1139 Z) ?_)
       obtain ⟨r1140, r1140e, h⟩ := bind_some h
       refine xc Z (op_regLoad (i := 0) (av := .str r1140) Z isAgg9 (tm Z) Z (rLdS_eq r1140e) Z (xm Z Z Z (xa (.bool (decide (r1140 = key))) Z (pu_str (v := .bool (decide (r1140 = key))) Z Z (tm Z) (tm Z) Z) (xe (aw_cond (b := decide (r1140 = key)) (tm Z) (fun hb1143 => ?_) (fun hb1143 => ?_))))))
       ·replace h := ite_t (dec_t hb1143) h
        refine xr (xm Z Z Z (xm Z Z Z (xe (aw_ret ?_))))
        obtain rfl := some_of h
        have h := congrArg some (hx1133 _ rfl)
        obtain rfl := some_of h
        have h := onSum_inr h1100
        obtain rfl := some_of h
        have h := congrArg some (hx1052 _ rfl)
        obtain rfl := some_of h
        have h := onSum_inr h861
        obtain rfl := some_of h
        exact ⟨[.rp rg s1132.at_], _, [(rg, .abs (regAbs mem))], ⟨(tm Z), trivial⟩, vr, Weak.mkL [0] (by decide) ⟨⟨_, Z, Z⟩, trivial⟩ trivial, ⟨Z, Z⟩⟩
       ·replace h := ite_f (dec_f hb1143) h
        refine aw_skip (aw_region (xm Z Z Z (xa (.rp rg s1132.at_) Z (pu_regCheck Z (tm Z) c1136) ?_)))
        obtain ⟨r1141, r1141e, h⟩ := bind_some h
        refine xc Z (op_regLoad (i := 0) (av := .rp rg r1141) Z isAgg73 (tm Z) Z (rLdP_eq r1141e) Z ?_)
        obtain ⟨c1142, h⟩ := need_of h
        refine xa (.rp rg r1141) Z (pu_regCheck Z (tm Z) c1142) (xa (.rp rg (rpAdd r1141 2)) Z (pu_regField Z underlying75 Z sizeOf73 (by decide) (tm Z) c1142 Z) (xm Z Z Z (xe ?_)))
        obtain rfl := some_of h
        exact ⟨_, (), Z, Weak.mkL [0] (by decide) ⟨⟨_, Z, Z⟩, trivial⟩ ⟨tm Z, tm Z, (AEv.le (tm Z) vr), tm Z, trivial⟩⟩
      ·replace h := ite_fb hb1144 h
       refine aw_exit ?_
       obtain rfl := some_of h
       have h := congrArg some (hx1133 _ rfl)
       exact ⟨(), (), (some_of h).symm, Weak.mkL [0] (by decide) ⟨⟨_, Z, Z⟩, trivial⟩ ⟨tm Z, tm Z, tm Z, trivial⟩⟩
  ·replace h := ite_f (dec_f hb1147) h
   refine aw_exit ?_
   obtain rfl := some_of h
   have h := congrArg some (hx1052 _ rfl)
   exact ⟨(), (), (some_of h).symm, Weak.mkL [0] (by decide) ⟨⟨_, Z, Z⟩, trivial⟩ trivial⟩

theorem dict.Table_int.part.ok {t_ : RP} {size : Int} {mem : Reg} {r : Reg} (h : dict.Table_int.part t_ size mem = some r) (rg : Nat) : Go.Lift.Spec prog 43 [.rp rg t_, .i size] [(rg, .abs (regAbs mem))] (fun v H => v = .tup [] ∧ H = [(rg, .abs (regAbs r))]) := by
 unfold dict.Table_int.part at h
 refine Go.Lift.Spec.of_body (rs := []) func43 Z Z (nb Z) Z (aw_upd (aw_seq ?_))
 obtain ⟨r8, r8e, h⟩ := bind_some h
 obtain ⟨c9, h⟩ := need_of h
 obtain ⟨c10, h⟩ := need_of h
 obtain ⟨c11, h⟩ := need_of h
 obtain ⟨r12, r12e, h⟩ := bind_some h
 refine aw_planR (by decide +kernel) [[], [], [(0, 0, true)], [], [], [], [(0, 1, true)]] [[2, 6]] [[[(rg, .abs (regAbs mem))], [(rg, .abs (regAbs r8.2))], [(rg, .abs (regAbs r12))]]] [.rp rg t_, .i size, .agg [.i r8.1.size, .rs rg r8.1.l], .rp rg t_, .rp rg (rpAdd t_ 1), .rp rg (rpAdd (rpAdd t_ 1) 2), .un] (by decide +kernel) Z Z ?_ ?_
 ·exact ⟨ym Z Z Z, ym Z Z Z, stepg_plain Z (op_call (vs := [.i size]) (H := [(rg, .abs (regAbs mem))]) Z call38 ⟨(tm Z), trivial⟩ (R := []) (List.Perm.refl _) (dict.empty_int.ok r8e rg) (by rintro _ _ ⟨rfl, rfl⟩; exact ⟨Z, Z⟩)), yp Z (pu_regCheck Z (tm Z) c9), yp Z (pu_regField Z underlying46 Z sizeOf44 (by decide) (tm Z) c9 Z), yp Z (pu_regIndexA Z underlying44 sizeOf43 (tm Z) (AEv.int _ _) c10 c11), stepg_plain Z (op_regStore (i := 0) [.it .i64 r8.1.size, .sc r8.1.l] Z sizeOf43 (tm Z) (v := .agg [.i r8.1.size, .rs rg r8.1.l]) (tm Z) Z Z Z r12e ⟨Z, Z⟩), trivial⟩
 refine aw_region (xm Z Z Z (xm Z Z Z (xa (.rp rg t_) Z (pu_regCheck Z (tm Z) c9) (xa (.rp rg (rpAdd t_ 6)) Z (pu_regField Z underlying46 Z sizeOf4 (by decide) (tm Z) c9 Z) ?_))))
 obtain ⟨r13, r13e, h⟩ := bind_some h
 refine ac0 Z Z (op_regStore (i := 0) [.bo true] Z sizeOf4 (tm Z) (v := .bool true) (AEv.bool _) Z Z Z r13e (xa (.rp rg t_) Z (pu_regCheck Z (tm Z) c9) (xa (.rp rg (rpAdd t_ 5)) Z (pu_regField Z underlying46 Z sizeOf3 (by decide) (tm Z) c9 Z) ?_)))
 obtain ⟨r14, r14e, h⟩ := bind_some h
 refine ac0 Z Z (op_regStore (i := 0) [.it .i64 0] Z sizeOf3 (tm Z) (v := .i 0) (AEv.int _ _) Z Z Z r14e (xe (upd_done ?_)))
 obtain rfl := some_of h
 exact ⟨[], _, [(rg, .abs (regAbs r14))], trivial, vr, Weak.mkL [0] (by decide) ⟨⟨_, Z, Z⟩, trivial⟩ trivial, ⟨Z, Z⟩⟩

theorem dict.Table_int.Put.ok {t_ : RP} {key : List UInt8} {v_ : Int} {mem : Reg} {r : Bool × Reg} (h : dict.Table_int.Put t_ key v_ mem = some r) (rg : Nat) : Go.Lift.Spec prog 13 [.rp rg t_, .str key, .i v_] [(rg, .abs (regAbs mem))] (fun v H => v = .bool r.1 ∧ H = [(rg, .abs (regAbs r.2))]) := by
 unfold dict.Table_int.Put at h
 refine Go.Lift.Spec.of_body (rs := [.tmp 6]) func13 Z Z (nb Z) Z (xr (xa (.bool false) Z (pu_assign Z (AEv.bool _)) (xe (aw_seq (xr (xm Z Z Z ?_))))))
 obtain ⟨r63, r63e, h⟩ := bind_some h
 refine xc Z (op_call (vs := [.rp rg t_]) (H := [(rg, .abs (regAbs mem))]) Z call39 ⟨(tm Z), trivial⟩ (List.Perm.refl _) (dict.Table_int.ready.ok r63e rg) ?_)
 rintro _ _ ⟨rfl, rfl⟩
 refine xa (.bool (!r63.1)) Z (pu_not Z (tm Z)) (xe (aw_cond (b := (!r63.1)) (tm Z) (fun hb124 => ?_) (fun hb124 => ?_)))
 ·replace h := ite_t hb124 h
  refine xr (xa (.bool false) Z (pu_assign Z (AEv.bool _)) (xe (aw_ret ?_)))
  obtain rfl := some_of h
  exact ⟨[.bool false], _, [(rg, .abs (regAbs r63.2))], ⟨(tm Z), trivial⟩, vr, Weak.mkL [0] (by decide) ⟨⟨_, Z, Z⟩, trivial⟩ trivial, ⟨Z, Z⟩⟩
 ·replace h := ite_fb hb124 h
  refine aw_skip (xr (xm Z Z Z ?_))
  obtain ⟨r64, r64e, h⟩ := bind_some h
  refine xc Z (op_call (vs := [.rp rg t_]) (H := [(rg, .abs (regAbs r63.2))]) Z call40 ⟨(tm Z), trivial⟩ (List.Perm.refl _) (dict.Table_int.step.ok r64e rg) ?_)
  rintro _ _ ⟨rfl, rfl⟩
  refine xe (aw_seq (xr (xm Z Z Z (xm Z Z Z ?_))))
  obtain ⟨r65, r65e, h⟩ := bind_some h
  refine xc Z (op_call (vs := [.rp rg t_, .str key]) (H := [(rg, .abs (regAbs r64.2))]) Z call41 ⟨(tm Z), (tm Z), trivial⟩ (List.Perm.refl _) (dict.Table_int.find.ok r65e rg) ?_)
  rintro _ _ ⟨rfl, rfl⟩
  refine xm Z Z Z (xe (xr (xm Z Z Z (xa (.bool r65.isSome) Z (pu_regNotNil Z underlying71 (tm Z) AEv.nilp) (xe (aw_cond (b := r65.isSome) (tm Z) (fun hb123 => ?_) (fun hb123 => ?_)))))))
  ·replace h := ite_t hb123 h
   refine xr (xm Z Z Z ?_)
   obtain ⟨c66, h⟩ := need_of h
   refine xa (.rp rg r65) Z (pu_regCheck Z (tm Z) c66) ?_
   obtain ⟨r67, r67e, h⟩ := bind_some h
   refine xc Z (op_regLoad (i := 0) (av := .rp rg r67) Z isAgg73 (tm Z) Z (rLdP_eq r67e) Z (xm Z Z Z ?_))
   obtain ⟨c68, h⟩ := need_of h
   refine xa (.rp rg r67) Z (pu_regCheck Z (tm Z) c68) (xa (.rp rg (rpAdd r67 1)) Z (pu_regField Z underlying75 Z sizeOf3 (by decide) (tm Z) c68 Z) ?_)
   obtain ⟨r69, r69e, h⟩ := bind_some h
   refine ac0 Z Z (op_regStore (i := 0) [.it .i64 v_] Z sizeOf3 (tm Z) (v := .i v_) (tm Z) Z Z Z r69e (xe (xr (xa (.bool false) Z (pu_assign Z (AEv.bool _)) (xe (aw_ret ?_))))))
   obtain rfl := some_of h
   exact ⟨[.bool false], _, [(rg, .abs (regAbs r69))], ⟨(tm Z), trivial⟩, vr, Weak.mkL [0] (by decide) ⟨⟨_, Z, Z⟩, trivial⟩ trivial, ⟨Z, Z⟩⟩
  ·replace h := ite_fb hb123 h
   refine aw_skip (xr (xa (.i 0) Z (pu_assign Z (AEv.int _ _)) (xe ?_)))
   obtain ⟨s73, s73e, h74⟩ := bind_some h
   refine aw_meet (ν := Unit) (fun v => [(0, .rp rg t_), (1, .str key), (2, .i v_), (8, .i s73)]) (fun v => [(rg, .abs (regAbs r64.2))]) ?_ ?_
   ·have h := s73e
    refine xr (xm Z Z Z ?_)
    obtain ⟨c76, h⟩ := need_of h
    refine xa (.rp rg t_) Z (pu_regCheck Z (tm Z) c76) (xa (.rp rg (rpAdd t_ 6)) Z (pu_regField Z underlying46 Z sizeOf4 (by decide) (tm Z) c76 Z) ?_)
    obtain ⟨r77, r77e, h⟩ := bind_some h
    refine xc Z (op_regLoad (i := 0) (av := .bool r77) Z isAgg4 (tm Z) Z (rLdB_eq r77e) Z (xe (aw_cond (b := r77) (tm Z) (fun hb78 => ?_) (fun hb78 => ?_))))
    ·replace h := ite_t hb78 h
     refine aw_region (xa (.i 1) Z (pu_assign Z (AEv.int _ _)) (xe ?_))
     obtain rfl := some_of h
     exact ⟨(), Weak.mkL [0] (by decide) ⟨⟨_, Z, Z⟩, trivial⟩ ⟨tm Z, tm Z, tm Z, tm Z, trivial⟩⟩
    ·replace h := ite_fb hb78 h
     refine aw_skip ?_
     obtain rfl := some_of h
     exact ⟨(), Weak.mkL [0] (by decide) ⟨⟨_, Z, Z⟩, trivial⟩ ⟨tm Z, tm Z, tm Z, tm Z, trivial⟩⟩
   ·intro _
    have h := h74
    refine xr (xm Z Z Z (xm Z Z Z (xm Z Z Z (xm Z Z Z (xa (.agg [.str key, .i v_, .rp rg (none : RP)]) Z (pu_build (zs := [.str ([] : List UInt8), .i 0, .rp rg (none : RP)]) (szs := [1, 1, 1]) (aparts := [(0, .str key), (1, .i v_)]) (cs := [.str key, .i v_, .rp rg (none : RP)]) Z underlying75 zeroValue75 Z ⟨sizeOf9, sizeOf3, sizeOf73, trivial⟩ ⟨Z, (tm Z), ⟨Z, (tm Z), trivial⟩⟩ Z) ?_)))))
    obtain ⟨x79, x79e, h⟩ := letO_of h
    refine xc Z (op_regBox (i := 0) [.tx key, .it .i64 v_, .pt (none : RP)] Z (v := .agg [.str key, .i v_, .rp rg (none : RP)]) (tm Z) Z Z x79e ?_)
    obtain ⟨r80, r80e, h⟩ := bind_some h
    refine xc Z (op_call (vs := [.rp rg t_, .i s73, .rp rg (some (r64.2.length, 0) : RP)]) (H := [(rg, .abs (regAbs x79))]) Z call42 ⟨(tm Z), (tm Z), (tm Z), trivial⟩ (List.Perm.refl _) (dict.Table_int.front.ok r80e rg) ?_)
    rintro _ _ ⟨rfl, rfl⟩
    refine xe (xr (xm Z Z Z ?_))
    obtain ⟨c81, h⟩ := need_of h
    refine xa (.rp rg t_) Z (pu_regCheck Z (tm Z) c81) (xa (.rp rg (rpAdd t_ 7)) Z (pu_regField Z underlying46 Z sizeOf3 (by decide) (tm Z) c81 Z) ?_)
    obtain ⟨r82, r82e, h⟩ := bind_some h
    refine xc Z (op_regLoad (i := 0) (av := .i r82) Z isAgg3 (tm Z) Z (rLdI_eq r82e) Z (xa (.i (IntKind.wrap .i64 (r82 + 1))) Z (pu_int (v := .i (IntKind.wrap .i64 (r82 + 1))) Z Z (tm Z) (AEv.int _ _) Z) (xa (.rp rg t_) Z (pu_regCheck Z (tm Z) c81) (xa (.rp rg (rpAdd t_ 7)) Z (pu_regField Z underlying46 Z sizeOf3 (by decide) (tm Z) c81 Z) ?_))))
    obtain ⟨r83, r83e, h⟩ := bind_some h
    refine ac0 Z Z (op_regStore (i := 0) [.it .i64 (IntKind.wrap .i64 (r82 + 1))] Z sizeOf3 (tm Z) (v := .i (IntKind.wrap .i64 (r82 + 1))) (tm Z) Z Z Z r83e (xe ?_))
    obtain ⟨s102, s102e, h103⟩ := bind_some h
    refine aw_meet (ν := Unit) (fun v => []) (fun v => [(rg, .abs (regAbs s102))]) ?_ ?_
    ·have h := s102e
     refine xr (xm Z Z Z (xa (.rp rg t_) Z (pu_regCheck Z (tm Z) c81) (xa (.rp rg (rpAdd t_ 1)) Z (pu_regField Z underlying46 Z sizeOf44 (by decide) (tm Z) c81 Z) ?_)))
     obtain ⟨c105, h⟩ := need_of h
     obtain ⟨c106, h⟩ := need_of h
     refine xa (.rp rg (rpAdd (rpAdd t_ 1) 0)) Z (pu_regIndexA Z underlying44 sizeOf43 (tm Z) (AEv.int _ _) c105 c106) ?_
     obtain ⟨r107, r107e, h⟩ := bind_some h
     obtain ⟨r108, r108e, h⟩ := bind_some h
     refine xc Z (op_regLoadN (i := 0) (vs := [.it .i64 r107, .sc r108]) (avs := [.i r107, .rs rg r108]) Z isAgg43 sizeOf43 (tm Z) Z ⟨rLdI_eq r107e, rLdL_eq r108e, trivial⟩ Z (by decide) Z (xc Z (op_alloc (cs := [.i 0, .rs rg (none : RS)]) (v := .agg [.i 0, .rs rg (none : RS)]) Z zeroValue43 Z Z Z ?_)))
     intro p109
     refine ac0 Z Z (op_store (i := 0) (cs' := [.i r107, .rs rg r108]) Z sizeOf43 (tm Z) (v := .agg [.i r107, .rs rg r108]) (tm Z) Z Z Z (nb Z) Z (xe ?_))
     obtain ⟨s114, s114e, h115⟩ := bind_some h
     refine aw_meet (ν := Unit) (fun v => [(0, .rp rg t_), (9, .ptr p109 0), (68, .bool s114)]) (fun v => [(rg, .abs (regAbs r83)), (p109, .cells [.i r107, .rs rg r108])]) ?_ ?_
     ·have h := s114e
      obtain ⟨r117, r117e, h⟩ := bind_some h
      rcases Bool.eq_false_or_eq_true (!r117) with hb118 | hb118
      ·replace h := ite_t hb118 h
       obtain ⟨r119, r119e, h⟩ := bind_some h
       rcases Bool.eq_false_or_eq_true (decide ((rsLen r108 : Int) < r119)) with hb120 | hb120
       ·replace h := ite_t (dec_t hb120) h
        refine aw_planR (by decide +kernel) [[], [], [], [(1, 0, false)], [], [], [], [], [], [(1, 0, false)], [], [(0, 0, false)], [], [], [], [], [], [(0, 0, false)], [], []] [[], []] [[[(p109, .cells [.i r107, .rs rg r108])]], [[(rg, .abs (regAbs r83))]]] [.rp rg t_, .rp rg t_, .rp rg (rpAdd t_ 6), .bool r117, .bool (!r117), .bool true, .rp rg t_, .rp rg t_, .rp rg (rpAdd t_ 7), .i r119, .ptr p109 1, .rs rg r108, .i (rsLen r108 : Int), .bool (decide ((rsLen r108 : Int) < r119)), .bool (decide ((rsLen r108 : Int) < r119)), .bool true, .ptr p109 0, .i r107, .bool (decide (r107 < 16)), .bool (decide (r107 < 16))] (by decide +kernel) Z Z ?_ ?_
        ·exact ⟨ym Z Z Z, yp Z (pu_regCheck Z (tm Z) c81), yp Z (pu_regField Z underlying46 Z sizeOf4 (by decide) (tm Z) c81 Z), stepg_plain Z (op_regLoad (i := 0) (av := .bool r117) Z isAgg4 (tm Z) Z (rLdB_eq r117e) Z ⟨Z, Z⟩), yp Z (pu_not Z (tm Z)), AStepG.cast (ym Z Z Z) (congrArg AV.bool hb118), yq Z Z (pu_move Z (tm Z)), yq Z Z (pu_regCheck Z (tm Z) c81), yq Z Z (pu_regField Z underlying46 Z sizeOf3 (by decide) (tm Z) c81 Z), yg Z Z (op_regLoad (i := 0) (av := .i r119) Z isAgg3 (tm Z) Z (rLdI_eq r119e) Z ⟨Z, Z⟩), yq Z Z (fa Z underlying43 Z sizeOf41 Z Z Z), yg Z Z (op_load1 (i := 0) Z isAgg41 (tm Z) Z Z ⟨Z, Z⟩), yq Z Z (pu_regLen Z underlying41 (tm Z)), yq Z Z (pu_int (v := .bool (decide ((rsLen r108 : Int) < r119))) Z Z (tm Z) (tm Z) Z), yp Z (pu_pick (b := true) Z (tm Z) (fun _ => (tm Z)) (fun h => nomatch h)), AStepG.cast (ym Z Z Z) (congrArg AV.bool hb120), yq Z Z (fa Z underlying43 Z sizeOf3 Z Z Z), yg Z Z (op_load1 (i := 0) Z isAgg3 (tm Z) Z Z ⟨Z, Z⟩), yq Z Z (pu_int (v := .bool (decide (r107 < 16))) Z Z (tm Z) (AEv.int _ _) Z), yp Z (pu_pick (b := true) Z (tm Z) (fun _ => (tm Z)) (fun h => nomatch h)), trivial⟩
        obtain rfl := some_of h
        exact ⟨(), Weak.mkL [1, 0] (by decide) ⟨⟨_, Z, Z⟩, ⟨_, Z, cr, Z⟩, trivial⟩ ⟨tm Z, tm Z, (AEv.le (tm Z) vr), trivial⟩⟩
       ·replace h := ite_f (dec_f hb120) h
        refine aw_planR (by decide +kernel) [[], [], [], [(1, 0, false)], [], [], [], [], [], [(1, 0, false)], [], [(0, 0, false)], [], [], [], [], [], [], [], []] [[], []] [[[(p109, .cells [.i r107, .rs rg r108])]], [[(rg, .abs (regAbs r83))]]] [.rp rg t_, .rp rg t_, .rp rg (rpAdd t_ 6), .bool r117, .bool (!r117), .bool true, .rp rg t_, .rp rg t_, .rp rg (rpAdd t_ 7), .i r119, .ptr p109 1, .rs rg r108, .i (rsLen r108 : Int), .bool (decide ((rsLen r108 : Int) < r119)), .bool (decide ((rsLen r108 : Int) < r119)), .bool false, .lit undef, .lit undef, .lit undef, .bool false] (by decide +kernel) Z Z ?_ ?_
        ·exact ⟨ym Z Z Z, yp Z (pu_regCheck Z (tm Z) c81), yp Z (pu_regField Z underlying46 Z sizeOf4 (by decide) (tm Z) c81 Z), stepg_plain Z (op_regLoad (i := 0) (av := .bool r117) Z isAgg4 (tm Z) Z (rLdB_eq r117e) Z ⟨Z, Z⟩), yp Z (pu_not Z (tm Z)), AStepG.cast (ym Z Z Z) (congrArg AV.bool hb118), yq Z Z (pu_move Z (tm Z)), yq Z Z (pu_regCheck Z (tm Z) c81), yq Z Z (pu_regField Z underlying46 Z sizeOf3 (by decide) (tm Z) c81 Z), yg Z Z (op_regLoad (i := 0) (av := .i r119) Z isAgg3 (tm Z) Z (rLdI_eq r119e) Z ⟨Z, Z⟩), yq Z Z (fa Z underlying43 Z sizeOf41 Z Z Z), yg Z Z (op_load1 (i := 0) Z isAgg41 (tm Z) Z Z ⟨Z, Z⟩), yq Z Z (pu_regLen Z underlying41 (tm Z)), yq Z Z (pu_int (v := .bool (decide ((rsLen r108 : Int) < r119))) Z Z (tm Z) (tm Z) Z), yp Z (pu_pick (b := true) Z (tm Z) (fun _ => (tm Z)) (fun h => nomatch h)), AStepG.cast (ym Z Z Z) (congrArg AV.bool hb120), yx Z Z Z, yx Z Z Z, yx Z Z Z, yp Z (pu_pick (b := false) Z (tm Z) (fun h => nomatch h) (fun _ => (AEv.bool _))), trivial⟩
        obtain rfl := some_of h
        exact ⟨(), Weak.mkL [1, 0] (by decide) ⟨⟨_, Z, Z⟩, ⟨_, Z, cr, Z⟩, trivial⟩ ⟨tm Z, tm Z, tm Z, trivial⟩⟩
      ·replace h := ite_fb hb118 h
       refine aw_planR (by decide +kernel) [[], [], [], [(1, 0, false)], [], [], [], [], [], [], [], [], [], [], [], [], [], [], [], []] [[], []] [[[(p109, .cells [.i r107, .rs rg r108])]], [[(rg, .abs (regAbs r83))]]] [.rp rg t_, .rp rg t_, .rp rg (rpAdd t_ 6), .bool r117, .bool (!r117), .bool false, .lit undef, .lit undef, .lit undef, .lit undef, .lit undef, .lit undef, .lit undef, .lit undef, .bool false, .bool false, .lit undef, .lit undef, .lit undef, .bool false] (by decide +kernel) Z Z ?_ ?_
       ·exact ⟨ym Z Z Z, yp Z (pu_regCheck Z (tm Z) c81), yp Z (pu_regField Z underlying46 Z sizeOf4 (by decide) (tm Z) c81 Z), stepg_plain Z (op_regLoad (i := 0) (av := .bool r117) Z isAgg4 (tm Z) Z (rLdB_eq r117e) Z ⟨Z, Z⟩), yp Z (pu_not Z (tm Z)), AStepG.cast (ym Z Z Z) (congrArg AV.bool hb118), yx Z Z Z, yx Z Z Z, yx Z Z Z, yx Z Z Z, yx Z Z Z, yx Z Z Z, yx Z Z Z, yx Z Z Z, yp Z (pu_pick (b := false) Z (tm Z) (fun h => nomatch h) (fun _ => (AEv.bool _))), ym Z Z Z, yx Z Z Z, yx Z Z Z, yx Z Z Z, yp Z (pu_pick (b := false) Z (tm Z) (fun h => nomatch h) (fun _ => (AEv.bool _))), trivial⟩
       obtain rfl := some_of h
       exact ⟨(), Weak.mkL [1, 0] (by decide) ⟨⟨_, Z, Z⟩, ⟨_, Z, cr, Z⟩, trivial⟩ ⟨tm Z, tm Z, tm Z, trivial⟩⟩
     ·intro _
      have h := h115
      refine aw_cond (b := s114) (tm Z) (fun hb122 => ?_) (fun hb122 => ?_)
      ·replace h := ite_t hb122 h
       refine aw_region (xm Z Z Z (xa (.ptr p109 0) Z (fa Z underlying43 Z sizeOf3 Z Z Z) (xc Z (op_load1 (i := 1) Z isAgg3 (tm Z) Z Z (xa (.i (IntKind.wrap .i64 (r107 + 1))) Z (pu_int (v := .i (IntKind.wrap .i64 (r107 + 1))) Z Z (tm Z) (AEv.int _ _) Z) ?_)))))
       obtain ⟨r121, r121e, h⟩ := bind_some h
       refine xc Z (op_call (vs := [.rp rg t_, .i (IntKind.wrap .i64 (r107 + 1))]) (H := [(rg, .abs (regAbs r83))]) Z call43 ⟨(tm Z), (tm Z), trivial⟩ (List.Perm.refl _) (dict.Table_int.part.ok r121e rg) ?_)
       rintro _ _ ⟨rfl, rfl⟩
       refine xe ?_
       obtain rfl := some_of h
       exact ⟨(), Weak.mkL [0] (by decide) ⟨⟨_, Z, Z⟩, trivial⟩ trivial⟩
      ·replace h := ite_fb hb122 h
       refine aw_skip ?_
       obtain rfl := some_of h
       exact ⟨(), Weak.mkL [0] (by decide) ⟨⟨_, Z, Z⟩, trivial⟩ trivial⟩
    ·intro _
     have h := h103
     refine xr (xa (.bool true) Z (pu_assign Z (AEv.bool _)) (xe (aw_ret ?_)))
     obtain rfl := some_of h
     exact ⟨[.bool true], _, [(rg, .abs (regAbs s102))], ⟨(tm Z), trivial⟩, vr, Weak.mkL [0] (by decide) ⟨⟨_, Z, Z⟩, trivial⟩ trivial, ⟨Z, Z⟩⟩

theorem dict.Table_int.Size.ok {t_ : RP} {mem : Reg} {r : Int × Reg} (h : dict.Table_int.Size t_ mem = some r) (rg : Nat) : Go.Lift.Spec prog 21 [.rp rg t_] [(rg, .abs (regAbs mem))] (fun v H => v = .i r.1 ∧ H = [(rg, .abs (regAbs r.2))]) := by
 unfold dict.Table_int.Size at h
 refine Go.Lift.Spec.of_body (rs := [.tmp 2]) func21 Z Z (nb Z) Z (xr (xa (.i 0) Z (pu_assign Z (AEv.int _ _)) (xe (aw_seq (xr (xm Z Z Z ?_))))))
 obtain ⟨r8, r8e, h⟩ := bind_some h
 refine xc Z (op_call (vs := [.rp rg t_]) (H := [(rg, .abs (regAbs mem))]) Z call39 ⟨(tm Z), trivial⟩ (List.Perm.refl _) (dict.Table_int.ready.ok r8e rg) ?_)
 rintro _ _ ⟨rfl, rfl⟩
 refine xa (.bool (!r8.1)) Z (pu_not Z (tm Z)) (xe (aw_cond (b := (!r8.1)) (tm Z) (fun hb14 => ?_) (fun hb14 => ?_)))
 ·replace h := ite_t hb14 h
  refine xr (xa (.i 0) Z (pu_assign Z (AEv.int _ _)) (xe (aw_ret ?_)))
  obtain rfl := some_of h
  exact ⟨[.i 0], _, [(rg, .abs (regAbs r8.2))], ⟨(tm Z), trivial⟩, vr, Weak.mkL [0] (by decide) ⟨⟨_, Z, Z⟩, trivial⟩ trivial, ⟨Z, Z⟩⟩
 ·replace h := ite_fb hb14 h
  refine aw_skip (xr (xm Z Z Z ?_))
  obtain ⟨c9, h⟩ := need_of h
  refine xa (.rp rg t_) Z (pu_regCheck Z (tm Z) c9) (xa (.rp rg (rpAdd t_ 1)) Z (pu_regField Z underlying46 Z sizeOf44 (by decide) (tm Z) c9 Z) ?_)
  obtain ⟨c10, h⟩ := need_of h
  obtain ⟨c11, h⟩ := need_of h
  refine xa (.rp rg (rpAdd (rpAdd t_ 1) 0)) Z (pu_regIndexA Z underlying44 sizeOf43 (tm Z) (AEv.int _ _) c10 c11) ?_
  obtain ⟨c12, h⟩ := need_of h
  refine xa (.rp rg (rpAdd (rpAdd (rpAdd t_ 1) 0) 0)) Z (pu_regField Z underlying43 Z sizeOf3 (by decide) (tm Z) c12 Z) ?_
  obtain ⟨r13, r13e, h⟩ := bind_some h
  refine xc Z (op_regLoad (i := 0) (av := .i r13) Z isAgg3 (tm Z) Z (rLdI_eq r13e) Z (xm Z Z Z (xe (aw_ret ?_))))
  obtain rfl := some_of h
  exact ⟨[.i r13], _, [(rg, .abs (regAbs r8.2))], ⟨(tm Z), trivial⟩, vr, Weak.mkL [0] (by decide) ⟨⟨_, Z, Z⟩, trivial⟩ trivial, ⟨Z, Z⟩⟩

theorem dict.Table_int.Len.ok {t_ : RP} {mem : Reg} {r : Int} (h : dict.Table_int.Len t_ mem = some r) (rg : Nat) : Go.Lift.Spec prog 18 [.rp rg t_] [(rg, .abs (regAbs mem))] (fun v H => v = .i r ∧ H = [(rg, .abs (regAbs mem))]) := by
 unfold dict.Table_int.Len at h
 refine Go.Lift.Spec.of_body (rs := [.tmp 2]) func18 Z Z (nb Z) Z (xr (xa (.i 0) Z (pu_assign Z (AEv.int _ _)) (xe (aw_seq (xr (xm Z Z Z (xa (.bool t_.isNone) Z (pu_regNil Z underlying26 (tm Z) AEv.nilp) ?_)))))))
 refine xe (aw_cond (b := t_.isNone) (tm Z) (fun hb6 => ?_) (fun hb6 => ?_))
 ·replace h := ite_t hb6 h
  refine xr (xa (.i 0) Z (pu_assign Z (AEv.int _ _)) (xe (aw_ret ?_)))
  obtain rfl := some_of h
  exact ⟨[.i 0], _, [(rg, .abs (regAbs mem))], ⟨(tm Z), trivial⟩, vr, Weak.mkL [0] (by decide) ⟨⟨_, Z, Z⟩, trivial⟩ trivial, ⟨Z, Z⟩⟩
 ·replace h := ite_fb hb6 h
  refine aw_skip (xr (xm Z Z Z ?_))
  obtain ⟨c4, h⟩ := need_of h
  refine xa (.rp rg t_) Z (pu_regCheck Z (tm Z) c4) (xa (.rp rg (rpAdd t_ 7)) Z (pu_regField Z underlying46 Z sizeOf3 (by decide) (tm Z) c4 Z) ?_)
  obtain ⟨r5, r5e, h⟩ := bind_some h
  refine xc Z (op_regLoad (i := 0) (av := .i r5) Z isAgg3 (tm Z) Z (rLdI_eq r5e) Z (xm Z Z Z (xe (aw_ret ?_))))
  obtain rfl := some_of h
  exact ⟨[.i r5], _, [(rg, .abs (regAbs mem))], ⟨(tm Z), trivial⟩, vr, Weak.mkL [0] (by decide) ⟨⟨_, Z, Z⟩, trivial⟩ trivial, ⟨Z, Z⟩⟩

theorem dict.Table_int.Step.ok {t_ : RP} {n_ : Int} {mem : Reg} {r : Int × Reg} (h : dict.Table_int.Step t_ n_ mem = some r) (rg : Nat) : Go.Lift.Spec prog 15 [.rp rg t_, .i n_] [(rg, .abs (regAbs mem))] (fun v H => v = .i r.1 ∧ H = [(rg, .abs (regAbs r.2))]) := by
 unfold dict.Table_int.Step at h
 refine Go.Lift.Spec.of_body (rs := [.tmp 4]) func15 Z Z (nb Z) Z (xr (xa (.i 0) Z (pu_assign Z (AEv.int _ _)) (xe (xr (xa (.i 0) Z (pu_assign Z (AEv.int _ _)) (xe ?_))))))
 obtain ⟨s112, s112e, h113⟩ := bind_some h
 refine aw_meet (ν := Unit) (fun v => [(5, .i s112.1)]) (fun v => [(rg, .abs (regAbs s112.2))]) ?_ ?_
 ·have h := s112e
  refine aw_block (aw_while (σ := dict.Table_int.Step.S0) (ν := Unit) (dict.Table_int.Step.body0 t_ n_) (fun s137 v => [(0, .rp rg t_), (1, .i n_), (5, .i s137.made)]) (fun s137 v => [(rg, .abs (regAbs s137.mem))]) ⟨0, mem⟩ () _ h (Weak.mkL [0] (by decide) ⟨⟨_, Z, Z⟩, trivial⟩ ⟨tm Z, tm Z, tm Z, trivial⟩) ?_)
  rintro s137 _ x139 h hx138
  unfold dict.Table_int.Step.body0 at h
  refine aw_seq ?_
  obtain ⟨s144, s144e, h145⟩ := bind_some h
  refine aw_meet (ν := Unit) (fun v => [(0, .rp rg t_), (1, .i n_), (5, .i s137.made), (16, .bool s144.1)]) (fun v => [(rg, .abs (regAbs s144.2))]) ?_ ?_
  ·have h := s144e
   refine aw_region (xm Z Z Z (xa (.bool t_.isSome) Z (pu_regNotNil Z underlying26 (tm Z) AEv.nilp) (xm Z Z Z ?_)))
   rcases Bool.eq_false_or_eq_true t_.isSome with hb147 | hb147
   ·replace h := ite_t hb147 h
    refine aops_known 8 Z hb147 (xq Z Z Z Z (xq Z Z Z Z (xp (.bool (decide (s137.made < n_))) Z Z (pu_int (v := .bool (decide (s137.made < n_))) Z Z (tm Z) (tm Z) Z) (xa (.bool (decide (s137.made < n_))) Z (pu_pick (b := true) Z (tm Z) (fun _ => (tm Z)) (fun h => nomatch h)) (xm Z Z Z ?_)))))
    rcases Bool.eq_false_or_eq_true (decide (s137.made < n_)) with hb148 | hb148
    ·replace h := ite_t (dec_t hb148) h
     refine aops_known 13 Z hb148 (xq Z Z Z Z ?_)
     obtain ⟨r149, r149e, h⟩ := bind_some h
     refine xg Z Z (op_call (vs := [.rp rg t_]) (H := [(rg, .abs (regAbs s137.mem))]) Z call40 ⟨(tm Z), trivial⟩ (List.Perm.refl _) (dict.Table_int.step.ok r149e rg) ?_)
     rintro _ _ ⟨rfl, rfl⟩
     refine xa (.bool r149.1) Z (pu_pick (b := true) Z (tm Z) (fun _ => (tm Z)) (fun h => nomatch h)) (xe ?_)
     obtain rfl := some_of h
     exact ⟨(), Weak.mkL [0] (by decide) ⟨⟨_, Z, Z⟩, trivial⟩ ⟨tm Z, tm Z, tm Z, tm Z, trivial⟩⟩
    ·replace h := ite_f (dec_f hb148) h
     refine aops_known 13 Z hb148 (xn Z Z Z (xn Z Z Z (xa (.bool false) Z (pu_pick (b := false) Z (tm Z) (fun h => nomatch h) (fun _ => (AEv.bool _))) (xe ?_))))
     obtain rfl := some_of h
     exact ⟨(), Weak.mkL [0] (by decide) ⟨⟨_, Z, Z⟩, trivial⟩ ⟨tm Z, tm Z, tm Z, tm Z, trivial⟩⟩
   ·replace h := ite_fb hb147 h
    refine aops_known 8 Z hb147 (xn Z Z Z (xn Z Z Z (xn Z Z Z (xa (.bool false) Z (pu_pick (b := false) Z (tm Z) (fun h => nomatch h) (fun _ => (AEv.bool _))) (xm Z Z Z (xn Z Z Z (xn Z Z Z (xa (.bool false) Z (pu_pick (b := false) Z (tm Z) (fun h => nomatch h) (fun _ => (AEv.bool _))) (xe ?_)))))))))
    obtain rfl := some_of h
    exact ⟨(), Weak.mkL [0] (by decide) ⟨⟨_, Z, Z⟩, trivial⟩ ⟨tm Z, tm Z, tm Z, tm Z, trivial⟩⟩
  ·intro _
   have h := h145
   refine aw_cond (b := s144.1) (tm Z) (fun hb150 => ?_) (fun hb150 => ?_)
   ·replace h := ite_t hb150 h
    refine aw_skip (aw_block (aw_region (xm Z Z Z (xa (.i (IntKind.wrap .i64 (s137.made + 1))) Z (pu_int (v := .i (IntKind.wrap .i64 (s137.made + 1))) Z Z (tm Z) (AEv.int _ _) Z) (xm Z Z Z (xe ?_))))))
    obtain rfl := some_of h
    exact ⟨_, (), Z, Weak.mkL [0] (by decide) ⟨⟨_, Z, Z⟩, trivial⟩ ⟨tm Z, tm Z, (AEv.le (tm Z) vr), trivial⟩⟩
   ·replace h := ite_fb hb150 h
    refine aw_exit ?_
    obtain rfl := some_of h
    have h := congrArg some (hx138 _ rfl)
    obtain rfl := some_of h
    exact ⟨(), Weak.mkL [0] (by decide) ⟨⟨_, Z, Z⟩, trivial⟩ ⟨tm Z, trivial⟩⟩
 ·intro _
  have h := h113
  refine xr (xm Z Z Z (xm Z Z Z (xe (aw_ret ?_))))
  obtain rfl := some_of h
  exact ⟨[.i s112.1], _, [(rg, .abs (regAbs s112.2))], ⟨(tm Z), trivial⟩, vr, Weak.mkL [0] (by decide) ⟨⟨_, Z, Z⟩, trivial⟩ trivial, ⟨Z, Z⟩⟩

theorem dict.Table_int.Drop.ok {t_ : RP} {key : List UInt8} {mem : Reg} {r : Bool × Reg} (h : dict.Table_int.Drop t_ key mem = some r) (rg : Nat) : Go.Lift.Spec prog 14 [.rp rg t_, .str key] [(rg, .abs (regAbs mem))] (fun v H => v = .bool r.1 ∧ H = [(rg, .abs (regAbs r.2))]) := by
 unfold dict.Table_int.Drop at h
 refine Go.Lift.Spec.of_body (rs := [.tmp 4]) func14 Z Z (nb Z) Z (xr (xa (.bool false) Z (pu_assign Z (AEv.bool _)) (xe (aw_seq (xr (xm Z Z Z ?_))))))
 obtain ⟨r53, r53e, h⟩ := bind_some h
 refine xc Z (op_call (vs := [.rp rg t_]) (H := [(rg, .abs (regAbs mem))]) Z call39 ⟨(tm Z), trivial⟩ (List.Perm.refl _) (dict.Table_int.ready.ok r53e rg) ?_)
 rintro _ _ ⟨rfl, rfl⟩
 refine xa (.bool (!r53.1)) Z (pu_not Z (tm Z)) (xe (aw_cond (b := (!r53.1)) (tm Z) (fun hb104 => ?_) (fun hb104 => ?_)))
 ·replace h := ite_t hb104 h
  refine xr (xa (.bool false) Z (pu_assign Z (AEv.bool _)) (xe (aw_ret ?_)))
  obtain rfl := some_of h
  exact ⟨[.bool false], _, [(rg, .abs (regAbs r53.2))], ⟨(tm Z), trivial⟩, vr, Weak.mkL [0] (by decide) ⟨⟨_, Z, Z⟩, trivial⟩ trivial, ⟨Z, Z⟩⟩
 ·replace h := ite_fb hb104 h
  refine aw_skip (xr (xm Z Z Z ?_))
  obtain ⟨r54, r54e, h⟩ := bind_some h
  refine xc Z (op_call (vs := [.rp rg t_]) (H := [(rg, .abs (regAbs r53.2))]) Z call40 ⟨(tm Z), trivial⟩ (List.Perm.refl _) (dict.Table_int.step.ok r54e rg) ?_)
  rintro _ _ ⟨rfl, rfl⟩
  refine xe (xr (xm Z Z Z (xm Z Z Z ?_)))
  obtain ⟨r55, r55e, h⟩ := bind_some h
  refine xc Z (op_call (vs := [.rp rg t_, .str key]) (H := [(rg, .abs (regAbs r54.2))]) Z call41 ⟨(tm Z), (tm Z), trivial⟩ (List.Perm.refl _) (dict.Table_int.find.ok r55e rg) ?_)
  rintro _ _ ⟨rfl, rfl⟩
  refine xm Z Z Z (xe (aw_seq (xr (xm Z Z Z (xa (.bool r55.isNone) Z (pu_regNil Z underlying71 (tm Z) AEv.nilp) (xe (aw_cond (b := r55.isNone) (tm Z) (fun hb103 => ?_) (fun hb103 => ?_))))))))
  ·replace h := ite_t hb103 h
   refine xr (xa (.bool false) Z (pu_assign Z (AEv.bool _)) (xe (aw_ret ?_)))
   obtain rfl := some_of h
   exact ⟨[.bool false], _, [(rg, .abs (regAbs r54.2))], ⟨(tm Z), trivial⟩, vr, Weak.mkL [0] (by decide) ⟨⟨_, Z, Z⟩, trivial⟩ trivial, ⟨Z, Z⟩⟩
  ·replace h := ite_fb hb103 h
   refine aw_skip (xr (xm Z Z Z (xm Z Z Z ?_)))
   obtain ⟨c56, h⟩ := need_of h
   refine xa (.rp rg r55) Z (pu_regCheck Z (tm Z) c56) ?_
   obtain ⟨r57, r57e, h⟩ := bind_some h
   refine xc Z (op_regLoad (i := 0) (av := .rp rg r57) Z isAgg73 (tm Z) Z (rLdP_eq r57e) Z ?_)
   obtain ⟨c58, h⟩ := need_of h
   refine xa (.rp rg r57) Z (pu_regCheck Z (tm Z) c58) (xa (.rp rg (rpAdd r57 2)) Z (pu_regField Z underlying75 Z sizeOf73 (by decide) (tm Z) c58 Z) ?_)
   obtain ⟨r59, r59e, h⟩ := bind_some h
   refine xc Z (op_regLoad (i := 0) (av := .rp rg r59) Z isAgg73 (tm Z) Z (rLdP_eq r59e) Z (xa (.rp rg r55) Z (pu_regCheck Z (tm Z) c56) ?_))
   obtain ⟨r60, r60e, h⟩ := bind_some h
   refine ac0 Z Z (op_regStore (i := 0) [.pt r59] Z sizeOf73 (tm Z) (v := .rp rg r59) (tm Z) Z Z Z r60e (xe (xr (xm Z Z Z ?_))))
   obtain ⟨c61, h⟩ := need_of h
   refine xa (.rp rg t_) Z (pu_regCheck Z (tm Z) c61) (xa (.rp rg (rpAdd t_ 7)) Z (pu_regField Z underlying46 Z sizeOf3 (by decide) (tm Z) c61 Z) ?_)
   obtain ⟨r62, r62e, h⟩ := bind_some h
   refine xc Z (op_regLoad (i := 0) (av := .i r62) Z isAgg3 (tm Z) Z (rLdI_eq r62e) Z (xa (.i (IntKind.wrap .i64 (r62 - 1))) Z (pu_int (v := .i (IntKind.wrap .i64 (r62 - 1))) Z Z (tm Z) (AEv.int _ _) Z) (xa (.rp rg t_) Z (pu_regCheck Z (tm Z) c61) (xa (.rp rg (rpAdd t_ 7)) Z (pu_regField Z underlying46 Z sizeOf3 (by decide) (tm Z) c61 Z) ?_))))
   obtain ⟨r63, r63e, h⟩ := bind_some h
   refine ac0 Z Z (op_regStore (i := 0) [.it .i64 (IntKind.wrap .i64 (r62 - 1))] Z sizeOf3 (tm Z) (v := .i (IntKind.wrap .i64 (r62 - 1))) (tm Z) Z Z Z r63e (xe ?_))
   obtain ⟨s82, s82e, h83⟩ := bind_some h
   refine aw_meet (ν := Unit) (fun v => []) (fun v => [(rg, .abs (regAbs s82))]) ?_ ?_
   ·have h := s82e
    refine xr (xm Z Z Z (xa (.rp rg t_) Z (pu_regCheck Z (tm Z) c61) (xa (.rp rg (rpAdd t_ 1)) Z (pu_regField Z underlying46 Z sizeOf44 (by decide) (tm Z) c61 Z) ?_)))
    obtain ⟨c85, h⟩ := need_of h
    obtain ⟨c86, h⟩ := need_of h
    refine xa (.rp rg (rpAdd (rpAdd t_ 1) 0)) Z (pu_regIndexA Z underlying44 sizeOf43 (tm Z) (AEv.int _ _) c85 c86) ?_
    obtain ⟨r87, r87e, h⟩ := bind_some h
    obtain ⟨r88, r88e, h⟩ := bind_some h
    refine xc Z (op_regLoadN (i := 0) (vs := [.it .i64 r87, .sc r88]) (avs := [.i r87, .rs rg r88]) Z isAgg43 sizeOf43 (tm Z) Z ⟨rLdI_eq r87e, rLdL_eq r88e, trivial⟩ Z (by decide) Z (xc Z (op_alloc (cs := [.i 0, .rs rg (none : RS)]) (v := .agg [.i 0, .rs rg (none : RS)]) Z zeroValue43 Z Z Z ?_)))
    intro p89
    refine ac0 Z Z (op_store (i := 0) (cs' := [.i r87, .rs rg r88]) Z sizeOf43 (tm Z) (v := .agg [.i r87, .rs rg r88]) (tm Z) Z Z Z (nb Z) Z (xe ?_))
    obtain ⟨s94, s94e, h95⟩ := bind_some h
    refine aw_meet (ν := Unit) (fun v => [(0, .rp rg t_), (6, .ptr p89 0), (57, .bool s94)]) (fun v => [(rg, .abs (regAbs r63)), (p89, .cells [.i r87, .rs rg r88])]) ?_ ?_
    ·have h := s94e
     obtain ⟨r97, r97e, h⟩ := bind_some h
     rcases Bool.eq_false_or_eq_true (!r97) with hb98 | hb98
     ·replace h := ite_t hb98 h
      rcases Bool.eq_false_or_eq_true (decide (2 < r87)) with hb99 | hb99
      ·replace h := ite_t (dec_t hb99) h
       obtain ⟨r100, r100e, h⟩ := bind_some h
       refine aw_planR (by decide +kernel) [[], [], [], [(1, 0, false)], [], [], [], [(0, 0, false)], [], [], [], [], [], [], [(1, 0, false)], [], [], [(0, 0, false)], [], [], []] [[], []] [[[(p89, .cells [.i r87, .rs rg r88])]], [[(rg, .abs (regAbs r63))]]] [.rp rg t_, .rp rg t_, .rp rg (rpAdd t_ 6), .bool r97, .bool (!r97), .bool true, .ptr p89 0, .i r87, .bool (decide (2 < r87)), .bool (decide (2 < r87)), .bool true, .rp rg t_, .rp rg t_, .rp rg (rpAdd t_ 7), .i r100, .i (IntKind.wrap .i64 (8 * r100)), .ptr p89 1, .rs rg r88, .i (rsLen r88 : Int), .bool (decide ((IntKind.wrap .i64 (8 * r100)) < (rsLen r88 : Int))), .bool (decide ((IntKind.wrap .i64 (8 * r100)) < (rsLen r88 : Int)))] (by decide +kernel) Z Z ?_ ?_
       ·exact ⟨ym Z Z Z, yp Z (pu_regCheck Z (tm Z) c61), yp Z (pu_regField Z underlying46 Z sizeOf4 (by decide) (tm Z) c61 Z), stepg_plain Z (op_regLoad (i := 0) (av := .bool r97) Z isAgg4 (tm Z) Z (rLdB_eq r97e) Z ⟨Z, Z⟩), yp Z (pu_not Z (tm Z)), AStepG.cast (ym Z Z Z) (congrArg AV.bool hb98), yq Z Z (fa Z underlying43 Z sizeOf3 Z Z Z), yg Z Z (op_load1 (i := 0) Z isAgg3 (tm Z) Z Z ⟨Z, Z⟩), yq Z Z (pu_int (v := .bool (decide (2 < r87))) Z Z (tm Z) (AEv.int _ _) Z), yp Z (pu_pick (b := true) Z (tm Z) (fun _ => (tm Z)) (fun h => nomatch h)), AStepG.cast (ym Z Z Z) (congrArg AV.bool hb99), yq Z Z (pu_move Z (tm Z)), yq Z Z (pu_regCheck Z (tm Z) c61), yq Z Z (pu_regField Z underlying46 Z sizeOf3 (by decide) (tm Z) c61 Z), yg Z Z (op_regLoad (i := 0) (av := .i r100) Z isAgg3 (tm Z) Z (rLdI_eq r100e) Z ⟨Z, Z⟩), yq Z Z (pu_int (v := .i (IntKind.wrap .i64 (8 * r100))) Z Z (AEv.int _ _) (tm Z) Z), yq Z Z (fa Z underlying43 Z sizeOf41 Z Z Z), yg Z Z (op_load1 (i := 0) Z isAgg41 (tm Z) Z Z ⟨Z, Z⟩), yq Z Z (pu_regLen Z underlying41 (tm Z)), yq Z Z (pu_int (v := .bool (decide ((IntKind.wrap .i64 (8 * r100)) < (rsLen r88 : Int)))) Z Z (tm Z) (tm Z) Z), yp Z (pu_pick (b := true) Z (tm Z) (fun _ => (tm Z)) (fun h => nomatch h)), trivial⟩
       obtain rfl := some_of h
       exact ⟨(), Weak.mkL [1, 0] (by decide) ⟨⟨_, Z, Z⟩, ⟨_, Z, cr, Z⟩, trivial⟩ ⟨tm Z, tm Z, (AEv.le (tm Z) vr), trivial⟩⟩
      ·replace h := ite_f (dec_f hb99) h
       refine aw_planR (by decide +kernel) [[], [], [], [(1, 0, false)], [], [], [], [(0, 0, false)], [], [], [], [], [], [], [], [], [], [], [], [], []] [[], []] [[[(p89, .cells [.i r87, .rs rg r88])]], [[(rg, .abs (regAbs r63))]]] [.rp rg t_, .rp rg t_, .rp rg (rpAdd t_ 6), .bool r97, .bool (!r97), .bool true, .ptr p89 0, .i r87, .bool (decide (2 < r87)), .bool (decide (2 < r87)), .bool false, .lit undef, .lit undef, .lit undef, .lit undef, .lit undef, .lit undef, .lit undef, .lit undef, .lit undef, .bool false] (by decide +kernel) Z Z ?_ ?_
       ·exact ⟨ym Z Z Z, yp Z (pu_regCheck Z (tm Z) c61), yp Z (pu_regField Z underlying46 Z sizeOf4 (by decide) (tm Z) c61 Z), stepg_plain Z (op_regLoad (i := 0) (av := .bool r97) Z isAgg4 (tm Z) Z (rLdB_eq r97e) Z ⟨Z, Z⟩), yp Z (pu_not Z (tm Z)), AStepG.cast (ym Z Z Z) (congrArg AV.bool hb98), yq Z Z (fa Z underlying43 Z sizeOf3 Z Z Z), yg Z Z (op_load1 (i := 0) Z isAgg3 (tm Z) Z Z ⟨Z, Z⟩), yq Z Z (pu_int (v := .bool (decide (2 < r87))) Z Z (tm Z) (AEv.int _ _) Z), yp Z (pu_pick (b := true) Z (tm Z) (fun _ => (tm Z)) (fun h => nomatch h)), AStepG.cast (ym Z Z Z) (congrArg AV.bool hb99), yx Z Z Z, yx Z Z Z, yx Z Z Z, yx Z Z Z, yx Z Z Z, yx Z Z Z, yx Z Z Z, yx Z Z Z, yx Z Z Z, yp Z (pu_pick (b := false) Z (tm Z) (fun h => nomatch h) (fun _ => (AEv.bool _))), trivial⟩
       obtain rfl := some_of h
       exact ⟨(), Weak.mkL [1, 0] (by decide) ⟨⟨_, Z, Z⟩, ⟨_, Z, cr, Z⟩, trivial⟩ ⟨tm Z, tm Z, tm Z, trivial⟩⟩
     ·replace h := ite_fb hb98 h
      refine aw_planR (by decide +kernel) [[], [], [], [(1, 0, false)], [], [], [], [], [], [], [], [], [], [], [], [], [], [], [], [], []] [[], []] [[[(p89, .cells [.i r87, .rs rg r88])]], [[(rg, .abs (regAbs r63))]]] [.rp rg t_, .rp rg t_, .rp rg (rpAdd t_ 6), .bool r97, .bool (!r97), .bool false, .lit undef, .lit undef, .lit undef, .bool false, .bool false, .lit undef, .lit undef, .lit undef, .lit undef, .lit undef, .lit undef, .lit undef, .lit undef, .lit undef, .bool false] (by decide +kernel) Z Z ?_ ?_
      ·exact ⟨ym Z Z Z, yp Z (pu_regCheck Z (tm Z) c61), yp Z (pu_regField Z underlying46 Z sizeOf4 (by decide) (tm Z) c61 Z), stepg_plain Z (op_regLoad (i := 0) (av := .bool r97) Z isAgg4 (tm Z) Z (rLdB_eq r97e) Z ⟨Z, Z⟩), yp Z (pu_not Z (tm Z)), AStepG.cast (ym Z Z Z) (congrArg AV.bool hb98), yx Z Z Z, yx Z Z Z, yx Z Z Z, yp Z (pu_pick (b := false) Z (tm Z) (fun h => nomatch h) (fun _ => (AEv.bool _))), ym Z Z Z, yx Z Z Z, yx Z Z Z, yx Z Z Z, yx Z Z Z, yx Z Z Z, yx Z Z Z, yx Z Z Z, yx Z Z Z, yx Z Z Z, yp Z (pu_pick (b := false) Z (tm Z) (fun h => nomatch h) (fun _ => (AEv.bool _))), trivial⟩
      obtain rfl := some_of h
      exact ⟨(), Weak.mkL [1, 0] (by decide) ⟨⟨_, Z, Z⟩, ⟨_, Z, cr, Z⟩, trivial⟩ ⟨tm Z, tm Z, tm Z, trivial⟩⟩
    ·intro _
     have h := h95
     refine aw_cond (b := s94) (tm Z) (fun hb102 => ?_) (fun hb102 => ?_)
     ·replace h := ite_t hb102 h
      refine aw_region (xm Z Z Z (xa (.ptr p89 0) Z (fa Z underlying43 Z sizeOf3 Z Z Z) (xc Z (op_load1 (i := 1) Z isAgg3 (tm Z) Z Z (xa (.i (IntKind.wrap .i64 (r87 - 1))) Z (pu_int (v := .i (IntKind.wrap .i64 (r87 - 1))) Z Z (tm Z) (AEv.int _ _) Z) ?_)))))
      obtain ⟨r101, r101e, h⟩ := bind_some h
      refine xc Z (op_call (vs := [.rp rg t_, .i (IntKind.wrap .i64 (r87 - 1))]) (H := [(rg, .abs (regAbs r63))]) Z call43 ⟨(tm Z), (tm Z), trivial⟩ (List.Perm.refl _) (dict.Table_int.part.ok r101e rg) ?_)
      rintro _ _ ⟨rfl, rfl⟩
      refine xe ?_
      obtain rfl := some_of h
      exact ⟨(), Weak.mkL [0] (by decide) ⟨⟨_, Z, Z⟩, trivial⟩ trivial⟩
     ·replace h := ite_fb hb102 h
      refine aw_skip ?_
      obtain rfl := some_of h
      exact ⟨(), Weak.mkL [0] (by decide) ⟨⟨_, Z, Z⟩, trivial⟩ trivial⟩
   ·intro _
    have h := h83
    refine xr (xa (.bool true) Z (pu_assign Z (AEv.bool _)) (xe (aw_ret ?_)))
    obtain rfl := some_of h
    exact ⟨[.bool true], _, [(rg, .abs (regAbs s82))], ⟨(tm Z), trivial⟩, vr, Weak.mkL [0] (by decide) ⟨⟨_, Z, Z⟩, trivial⟩ trivial, ⟨Z, Z⟩⟩

theorem dict.Table_int.Chain.ok {t_ : RP} {old : Bool} {place : Int} {mem : Reg} {r : (List (List UInt8)) × Reg} (h : dict.Table_int.Chain t_ old place mem = some r) (rg : Nat) : Go.Lift.Spec prog 23 [.rp rg t_, .bool old, .i place] [(rg, .abs (regAbs mem))] (fun v H => ∃ n0, v = .sl (.own n0) 1 (r.1.map AV.str) ∧ H = [(rg, .abs (regAbs r.2)), (n0, .spare)]) := by
 unfold dict.Table_int.Chain at h
 refine Go.Lift.Spec.of_body (rs := [.tmp 6]) func23 Z Z (nb Z) Z (xr (xa (.sl .full 1 (([] : List (List UInt8)).map AV.str)) Z (pu_assign Z (AEv.nil 1 (by decide))) (xe (xr (xa (.sl .full 1 (([] : List (List UInt8)).map AV.str)) Z (pu_assign Z (AEv.nil 1 (by decide))) (xe (aw_seq ?_)))))))
 obtain ⟨s105, s105e, h106⟩ := bind_some h
 refine aw_meet (ν := Unit) (fun v => [(0, .rp rg t_), (1, .bool old), (2, .i place), (7, .sl .full 1 (([] : List (List UInt8)).map AV.str)), (23, .bool s105.1)]) (fun v => [(rg, .abs (regAbs s105.2))]) ?_ ?_
 ·have h := s105e
  refine aw_region (xm Z Z Z ?_)
  obtain ⟨r108, r108e, h⟩ := bind_some h
  refine xc Z (op_call (vs := [.rp rg t_]) (H := [(rg, .abs (regAbs mem))]) Z call39 ⟨(tm Z), trivial⟩ (List.Perm.refl _) (dict.Table_int.ready.ok r108e rg) ?_)
  rintro _ _ ⟨rfl, rfl⟩
  refine xa (.bool (!r108.1)) Z (pu_not Z (tm Z)) (xm Z Z Z ?_)
  rcases Bool.eq_false_or_eq_true (!r108.1) with hb109 | hb109
  ·replace h := ite_t hb109 h
   refine aops_known 13 Z hb109 (xn Z Z Z (xn Z Z Z (xn Z Z Z (xv Z Z (xv Z Z (xv Z Z (xv Z Z (xv Z Z (xn Z Z Z ?_)))))))))
   refine xa (.bool true) Z (pu_pick (b := true) Z (tm Z) (fun _ => (AEv.bool _)) (fun h => nomatch h)) (xe ?_)
   obtain rfl := some_of h
   exact ⟨(), Weak.mkL [0] (by decide) ⟨⟨_, Z, Z⟩, trivial⟩ ⟨tm Z, tm Z, tm Z, tm Z, tm Z, trivial⟩⟩
  ·replace h := ite_fb hb109 h
   refine aops_known 13 Z hb109 (xq Z Z Z Z (xp (.bool (!old)) Z Z (pu_not Z (tm Z)) (xq Z Z Z Z ?_)))
   rcases Bool.eq_false_or_eq_true (!old) with hb110 | hb110
   ·replace h := ite_t hb110 h
    refine aops_known 16 Z hb110 (xq Z Z Z Z ?_)
    obtain ⟨c111, h⟩ := need_of h
    refine xp (.rp rg t_) Z Z (pu_regCheck Z (tm Z) c111) (xp (.rp rg (rpAdd t_ 6)) Z Z (pu_regField Z underlying46 Z sizeOf4 (by decide) (tm Z) c111 Z) ?_)
    obtain ⟨r112, r112e, h⟩ := bind_some h
    refine xg Z Z (op_regLoad (i := 0) (av := .bool r112) Z isAgg4 (tm Z) Z (rLdB_eq r112e) Z (xp (.bool (!r112)) Z Z (pu_not Z (tm Z)) (xp (.bool (!r112)) Z Z (pu_pick (b := true) Z (tm Z) (fun _ => (tm Z)) (fun h => nomatch h)) (xa (.bool (!r112)) Z (pu_pick (b := false) Z (tm Z) (fun h => nomatch h) (fun _ => (tm Z))) (xe ?_)))))
    obtain rfl := some_of h
    exact ⟨(), Weak.mkL [0] (by decide) ⟨⟨_, Z, Z⟩, trivial⟩ ⟨tm Z, tm Z, tm Z, tm Z, tm Z, trivial⟩⟩
   ·replace h := ite_fb hb110 h
    refine aops_known 16 Z hb110 (xn Z Z Z (xn Z Z Z (xn Z Z Z (xn Z Z Z (xn Z Z Z (xp (.bool false) Z Z (pu_pick (b := false) Z (tm Z) (fun h => nomatch h) (fun _ => (AEv.bool _))) (xa (.bool false) Z (pu_pick (b := false) Z (tm Z) (fun h => nomatch h) (fun _ => (tm Z))) (xe ?_))))))))
    obtain rfl := some_of h
    exact ⟨(), Weak.mkL [0] (by decide) ⟨⟨_, Z, Z⟩, trivial⟩ ⟨tm Z, tm Z, tm Z, tm Z, tm Z, trivial⟩⟩
 ·intro _
  have h := h106
  refine aw_cond (b := s105.1) (tm Z) (fun hb200 => ?_) (fun hb200 => ?_)
  ·replace h := ite_t hb200 h
   refine xr (xm Z Z Z (xm Z Z Z (xe (aw_claim 6 (tm Z) fun t113 => (aw_ret ?_)))))
   obtain rfl := some_of h
   exact ⟨[.sl (.own t113) 1 (([] : List (List UInt8)).map AV.str)], _, [(rg, .abs (regAbs s105.2)), (t113, .spare)], ⟨(tm Z), trivial⟩, vr, Weak.mkL [1, 0] (by decide) ⟨⟨_, Z, Z⟩, ⟨_, Z, Z⟩, trivial⟩ trivial, ⟨t113, Z, Z⟩⟩
  ·replace h := ite_fb hb200 h
   refine aw_skip (xr (xm Z Z Z ?_))
   obtain ⟨c114, h⟩ := need_of h
   refine xa (.rp rg t_) Z (pu_regCheck Z (tm Z) c114) (xa (.rp rg (rpAdd t_ 1)) Z (pu_regField Z underlying46 Z sizeOf44 (by decide) (tm Z) c114 Z) ?_)
   obtain ⟨c115, h⟩ := need_of h
   obtain ⟨c116, h⟩ := need_of h
   refine xa (.rp rg (rpAdd (rpAdd t_ 1) 0)) Z (pu_regIndexA Z underlying44 sizeOf43 (tm Z) (AEv.int _ _) c115 c116) ?_
   obtain ⟨r117, r117e, h⟩ := bind_some h
   obtain ⟨r118, r118e, h⟩ := bind_some h
   refine xc Z (op_regLoadN (i := 0) (vs := [.it .i64 r117, .sc r118]) (avs := [.i r117, .rs rg r118]) Z isAgg43 sizeOf43 (tm Z) Z ⟨rLdI_eq r117e, rLdL_eq r118e, trivial⟩ Z (by decide) Z (xc Z (op_alloc (cs := [.i 0, .rs rg (none : RS)]) (v := .agg [.i 0, .rs rg (none : RS)]) Z zeroValue43 Z Z Z ?_)))
   intro p119
   refine ac0 Z Z (op_store (i := 0) (cs' := [.i r117, .rs rg r118]) Z sizeOf43 (tm Z) (v := .agg [.i r117, .rs rg r118]) (tm Z) Z Z Z (nb Z) Z (xe ?_))
   obtain ⟨s124, s124e, h125⟩ := bind_some h
   refine aw_meet (ν := Unit) (fun v => [(2, .i place), (7, .sl .full 1 (([] : List (List UInt8)).map AV.str)), (8, .ptr p119 0)]) (fun v => [(p119, .cells [.i s124.1, .rs rg s124.2]), (rg, .abs (regAbs s105.2))]) ?_ ?_
   ·have h := s124e
    refine xr (xm Z Z Z (xa (.bool (!old)) Z (pu_not Z (tm Z)) (xe (aw_cond (b := (!old)) (tm Z) (fun hb130 => ?_) (fun hb130 => ?_)))))
    ·replace h := ite_t hb130 h
     refine aw_region (xm Z Z Z (xa (.rp rg t_) Z (pu_regCheck Z (tm Z) c114) (xa (.rp rg (rpAdd t_ 1)) Z (pu_regField Z underlying46 Z sizeOf44 (by decide) (tm Z) c114 Z) ?_)))
     obtain ⟨c127, h⟩ := need_of h
     refine xa (.rp rg (rpAdd (rpAdd t_ 1) 2)) Z (pu_regIndexA Z underlying44 sizeOf43 (tm Z) (AEv.int _ _) c115 c127) ?_
     obtain ⟨r128, r128e, h⟩ := bind_some h
     obtain ⟨r129, r129e, h⟩ := bind_some h
     refine xc Z (op_regLoadN (i := 1) (vs := [.it .i64 r128, .sc r129]) (avs := [.i r128, .rs rg r129]) Z isAgg43 sizeOf43 (tm Z) Z ⟨rLdI_eq r128e, rLdL_eq r129e, trivial⟩ Z (by decide) Z (ac0 Z Z (op_store (i := 0) (cs' := [.i r128, .rs rg r129]) Z sizeOf43 (tm Z) (v := .agg [.i r128, .rs rg r129]) (tm Z) Z Z Z (nb Z) Z (xe ?_))))
     obtain rfl := some_of h
     exact ⟨(), Weak.mkL [0, 1] (by decide) ⟨⟨_, Z, cr, Z⟩, ⟨_, Z, Z⟩, trivial⟩ ⟨tm Z, tm Z, tm Z, trivial⟩⟩
    ·replace h := ite_fb hb130 h
     refine aw_skip ?_
     obtain rfl := some_of h
     exact ⟨(), Weak.mkL [0, 1] (by decide) ⟨⟨_, Z, cr, Z⟩, ⟨_, Z, Z⟩, trivial⟩ ⟨tm Z, tm Z, tm Z, trivial⟩⟩
   ·intro _
    have h := h125
    refine aw_seq ?_
    obtain ⟨s132, s132e, h133⟩ := letO_of h
    refine aw_meet (ν := Unit) (fun v => [(2, .i place), (7, .sl .full 1 (([] : List (List UInt8)).map AV.str)), (8, .ptr p119 0), (45, .bool s132)]) (fun v => [(p119, .cells [.i s124.1, .rs rg s124.2]), (rg, .abs (regAbs s105.2))]) ?_ ?_
    ·have h := s132e.symm
     refine aw_region (xm Z Z Z (xa (.bool (decide (place < 0))) Z (pu_int (v := .bool (decide (place < 0))) Z Z (tm Z) (AEv.int _ _) Z) (xm Z Z Z ?_)))
     rcases Bool.eq_false_or_eq_true (decide (place < 0)) with hb135 | hb135
     ·replace h := ite_t (dec_t hb135) h
      refine aops_known 39 Z hb135 (xn Z Z Z (xn Z Z Z (xn Z Z Z (xn Z Z Z (xn Z Z Z (xa (.bool true) Z (pu_pick (b := true) Z (tm Z) (fun _ => (AEv.bool _)) (fun h => nomatch h)) (xe ?_)))))))
      subst h
      exact ⟨(), Weak.mkL [0, 1] (by decide) ⟨⟨_, Z, cr, Z⟩, ⟨_, Z, Z⟩, trivial⟩ ⟨tm Z, tm Z, tm Z, tm Z, trivial⟩⟩
     ·replace h := ite_f (dec_f hb135) h
      refine aops_known 39 Z hb135 (xq Z Z Z Z (xp (.ptr p119 1) Z Z (fa Z underlying43 Z sizeOf41 Z Z Z) (xg Z Z (op_load1 (i := 0) Z isAgg41 (tm Z) Z Z (xp (.i (rsLen s124.2 : Int)) Z Z (pu_regLen Z underlying41 (tm Z)) (xp (.bool (decide ((rsLen s124.2 : Int) ≤ place))) Z Z (pu_int (v := .bool (decide ((rsLen s124.2 : Int) ≤ place))) Z Z (tm Z) (tm Z) Z) (xa (.bool (decide ((rsLen s124.2 : Int) ≤ place))) Z (pu_pick (b := false) Z (tm Z) (fun h => nomatch h) (fun _ => (tm Z))) (xe ?_))))))))
      subst h
      exact ⟨(), Weak.mkL [0, 1] (by decide) ⟨⟨_, Z, cr, Z⟩, ⟨_, Z, Z⟩, trivial⟩ ⟨tm Z, tm Z, tm Z, (AEv.le (tm Z) vr), trivial⟩⟩
    ·intro _
     have h := h133
     refine aw_cond (b := s132) (tm Z) (fun hb199 => ?_) (fun hb199 => ?_)
     ·replace h := ite_t hb199 h
      refine xr (xm Z Z Z (xm Z Z Z (xe (aw_claim 6 (tm Z) fun t136 => (aw_ret ?_)))))
      obtain rfl := some_of h
      exact ⟨[.sl (.own t136) 1 (([] : List (List UInt8)).map AV.str)], _, [(rg, .abs (regAbs s105.2)), (t136, .spare)], ⟨(tm Z), trivial⟩, vr, Weak.mkL [2, 0] (by decide) ⟨⟨_, Z, Z⟩, ⟨_, Z, Z⟩, trivial⟩ trivial, ⟨t136, Z, Z⟩⟩
     ·replace h := ite_fb hb199 h
      refine aw_skip ?_
      obtain ⟨s166, s166e, h168⟩ := bind_some h
      refine aw_meet (ν := Nat) (fun v => [(7, .sl (.own v) 1 (s166.map AV.str))]) (fun v => [(v, .spare), (rg, .abs (regAbs s105.2))]) ?_ ?_
      ·have h := s166e
       refine xr (xa (.ptr p119 1) Z (fa Z underlying43 Z sizeOf41 Z Z Z) (xc Z (op_load1 (i := 0) Z isAgg41 (tm Z) Z Z (xm Z Z Z ?_))))
       obtain ⟨c170, h⟩ := need_of h
       refine xa (.rp rg (rsPtr s124.2 place 1)) Z (pu_regIndexS Z underlying41 sizeOf73 (tm Z) (tm Z) c170) ?_
       obtain ⟨r171, r171e, h⟩ := bind_some h
       refine xc Z (op_regLoad (i := 1) (av := .rp rg r171) Z isAgg73 (tm Z) Z (rLdP_eq r171e) Z (xm Z Z Z (xe (aw_block (aw_claim 7 (tm Z) fun t198 => (aw_while (σ := dict.Table_int.Chain.S0) (ν := Nat) (dict.Table_int.Chain.body0 s105) (fun s187 v => [(7, .sl (.own v) 1 (s187.out.map AV.str)), (9, .rp rg s187.x)]) (fun s187 v => [(v, .spare), (rg, .abs (regAbs s105.2))]) ⟨([] : List (List UInt8)), r171⟩ t198 _ h (Weak.mkL [0, 2] (by decide) ⟨⟨_, Z, Z⟩, ⟨_, Z, Z⟩, trivial⟩ ⟨tm Z, tm Z, trivial⟩) ?_))))))
       rintro s187 n188 x190 h hx189
       unfold dict.Table_int.Chain.body0 at h
       refine aw_seq (xr (xm Z Z Z (xa (.bool s187.x.isSome) Z (pu_regNotNil Z underlying73 (tm Z) AEv.nilp) (xe (aw_cond (b := s187.x.isSome) (tm Z) (fun hb197 => ?_) (fun hb197 => ?_))))))
       ·replace h := ite_t hb197 h
        refine aw_skip (aw_seq (aw_block (aw_region (xm Z Z Z (xm Z Z Z ?_)))))
        obtain ⟨c192, h⟩ := need_of h
        refine xa (.rp rg s187.x) Z (pu_regCheck Z (tm Z) c192) (xa (.rp rg (rpAdd s187.x 0)) Z (pu_regField Z underlying75 Z sizeOf9 (by decide) (tm Z) c192 Z) ?_)
        obtain ⟨r193, r193e, h⟩ := bind_some h
        refine xc Z (op_regLoad (i := 1) (av := .str r193) Z isAgg9 (tm Z) Z (rLdS_eq r193e) Z (xc Z (op_buildSlice (xs := ([r193] : List (List UInt8)).map AV.str) (aparts := [(0, .str r193)]) Z underlying35 sizeOf9 zeroValue9 (by decide) (by decide) ⟨Z, (tm Z), trivial⟩ Z Z Z ?_)))
        obtain ⟨c194, h⟩ := need_of h
        refine xc Z (op_appendOM (q := 0) Z underlying35 underlying35 (.inl Z) typeInfo9 Z Z Z (by decide) (tm Z) Z (given_sl (tm Z)) c194 ?_)
        intro t195
        refine xm Z Z Z (xe (aw_region (xm Z Z Z (xa (.rp rg s187.x) Z (pu_regCheck Z (tm Z) c192) (xa (.rp rg (rpAdd s187.x 2)) Z (pu_regField Z underlying75 Z sizeOf73 (by decide) (tm Z) c192 Z) ?_)))))
        obtain ⟨r196, r196e, h⟩ := bind_some h
        refine xc Z (op_regLoad (i := 1) (av := .rp rg r196) Z isAgg73 (tm Z) Z (rLdP_eq r196e) Z (xm Z Z Z (xe ?_)))
        obtain rfl := some_of h
        exact ⟨_, t195, Z, Weak.mkL [0, 1] (by decide) ⟨⟨_, Z, Z⟩, ⟨_, Z, Z⟩, trivial⟩ ⟨(AEv.le (tm Z) vr), tm Z, trivial⟩⟩
       ·replace h := ite_fb hb197 h
        refine aw_exit ?_
        obtain rfl := some_of h
        have h := congrArg some (hx189 _ rfl)
        obtain rfl := some_of h
        exact ⟨n188, Weak.mkL [0, 1] (by decide) ⟨⟨_, Z, Z⟩, ⟨_, Z, Z⟩, trivial⟩ ⟨tm Z, trivial⟩⟩
      ·intro n167
       have h := h168
       refine xr (xm Z Z Z (xm Z Z Z (xe (aw_ret ?_))))
       obtain rfl := some_of h
       exact ⟨[.sl (.own n167) 1 (s166.map AV.str)], _, [(rg, .abs (regAbs s105.2)), (n167, .spare)], ⟨(tm Z), trivial⟩, vr, Weak.mkL [1, 0] (by decide) ⟨⟨_, Z, Z⟩, ⟨_, Z, Z⟩, trivial⟩ trivial, ⟨n167, Z, Z⟩⟩

theorem dict.Table_int.Keys.ok {t_ : RP} {mem : Reg} {r : (List (List UInt8)) × Reg} (h : dict.Table_int.Keys t_ mem = some r) (rg : Nat) : Go.Lift.Spec prog 17 [.rp rg t_] [(rg, .abs (regAbs mem))] (fun v H => ∃ n0, v = .sl (.own n0) 1 (r.1.map AV.str) ∧ H = [(rg, .abs (regAbs r.2)), (n0, .spare)]) := by
 unfold dict.Table_int.Keys at h
 refine Go.Lift.Spec.of_body (rs := [.tmp 2]) func17 Z Z (nb Z) Z (xr (xa (.sl .full 1 (([] : List (List UInt8)).map AV.str)) Z (pu_assign Z (AEv.nil 1 (by decide))) (xe (xr (xa (.sl .full 1 (([] : List (List UInt8)).map AV.str)) Z (pu_assign Z (AEv.nil 1 (by decide))) (xe (aw_seq ?_)))))))
 refine xr (xm Z Z Z (xa (.bool t_.isNone) Z (pu_regNil Z underlying26 (tm Z) AEv.nilp) (xe (aw_cond (b := t_.isNone) (tm Z) (fun hb787 => ?_) (fun hb787 => ?_)))))
 ·replace h := ite_t hb787 h
  refine xr (xm Z Z Z (xm Z Z Z (xe (aw_claim 2 (tm Z) fun t394 => (aw_ret ?_)))))
  obtain rfl := some_of h
  exact ⟨[.sl (.own t394) 1 (([] : List (List UInt8)).map AV.str)], _, [(rg, .abs (regAbs mem)), (t394, .spare)], ⟨(tm Z), trivial⟩, vr, Weak.mkL [1, 0] (by decide) ⟨⟨_, Z, Z⟩, ⟨_, Z, Z⟩, trivial⟩ trivial, ⟨t394, Z, Z⟩⟩
 ·replace h := ite_fb hb787 h
  refine aw_skip ?_
  obtain ⟨s589, s589e, h591⟩ := bind_some h
  refine aw_meet (ν := Nat) (fun v => [(3, .sl (.own v) 1 (s589.1.map AV.str))]) (fun v => [(v, .spare), (rg, .abs (regAbs s589.2))]) ?_ ?_
  ·have h := s589e
   refine xr (xa (.i 0) Z (pu_move Z (AEv.int _ _)) (xe (aw_block (aw_claim 3 (tm Z) fun t786 => (aw_while (σ := dict.Table_int.Keys.S0) (ν := Nat) (dict.Table_int.Keys.body0 t_) (fun s720 v => [(0, .rp rg t_), (3, .sl (.own v) 1 (s720.out.map AV.str)), (9, .i s720.t9)]) (fun s720 v => [(rg, .abs (regAbs s720.mem)), (v, .spare)]) ⟨([] : List (List UInt8)), 0, mem⟩ t786 _ h (Weak.mkL [1, 0] (by decide) ⟨⟨_, Z, Z⟩, ⟨_, Z, Z⟩, trivial⟩ ⟨tm Z, tm Z, tm Z, trivial⟩) ?_)))))
   rintro s720 n721 x723 h hx722
   unfold dict.Table_int.Keys.body0 at h
   refine xr (xa (.bool (decide (s720.t9 < 2))) Z (pu_int (v := .bool (decide (s720.t9 < 2))) Z Z (tm Z) (AEv.int _ _) Z) (xe (aw_seq (aw_cond (b := decide (s720.t9 < 2)) (tm Z) (fun hb785 => ?_) (fun hb785 => ?_)))))
   ·replace h := ite_t (dec_t hb785) h
    refine aw_skip ?_
    obtain ⟨s753, s753e, h755⟩ := bind_some h
    refine aw_meet (ν := Nat) (fun v => [(0, .rp rg t_), (3, .sl (.own v) 1 (s753.1.map AV.str)), (9, .i s720.t9)]) (fun v => [(rg, .abs (regAbs s753.2)), (v, .spare)]) ?_ ?_
    ·have h := s753e
     refine aw_block (xr (xm Z Z Z (xm Z Z Z (xe (xr (xm Z Z Z (xm Z Z Z ?_)))))))
     obtain ⟨c757, h⟩ := need_of h
     refine xa (.rp rg t_) Z (pu_regCheck Z (tm Z) c757) (xa (.rp rg (rpAdd t_ 1)) Z (pu_regField Z underlying46 Z sizeOf44 (by decide) (tm Z) c757 Z) ?_)
     obtain ⟨c758, h⟩ := need_of h
     obtain ⟨c759, h⟩ := need_of h
     refine xa (.rp rg (rpAdd (rpAdd t_ 1) (Int.toNat s720.t9 * 2))) Z (pu_regIndexA Z underlying44 sizeOf43 (tm Z) (tm Z) c758 c759) ?_
     obtain ⟨c760, h⟩ := need_of h
     refine xa (.rp rg (rpAdd (rpAdd (rpAdd t_ 1) (Int.toNat s720.t9 * 2)) 1)) Z (pu_regField Z underlying43 Z sizeOf41 (by decide) (tm Z) c760 Z) ?_
     obtain ⟨r761, r761e, h⟩ := bind_some h
     refine xc Z (op_regLoad (i := 0) (av := .rs rg r761) Z isAgg41 (tm Z) Z (rLdL_eq r761e) Z (xa (.i (rsLen r761 : Int)) Z (pu_regLen Z underlying41 (tm Z)) (xa (.i 0) Z (pu_move Z (AEv.int _ _)) (xe (aw_block (aw_while (σ := dict.Table_int.Keys.S2) (ν := Nat) (dict.Table_int.Keys.body2 r761 t_ s720) (fun s775 v => [(0, .rp rg t_), (3, .sl (.own v) 1 (s775.out.map AV.str)), (4, .i s720.t9), (9, .i s720.t9), (19, .i (rsLen r761 : Int)), (20, .i s775.t20)]) (fun s775 v => [(rg, .abs (regAbs s775.mem)), (v, .spare)]) ⟨s720.out, 0, s720.mem⟩ n721 _ h (Weak.mkL [0, 1] (by decide) ⟨⟨_, Z, Z⟩, ⟨_, Z, Z⟩, trivial⟩ ⟨tm Z, tm Z, tm Z, tm Z, tm Z, tm Z, trivial⟩) ?_))))))
     rintro s775 n776 x778 h hx777
     unfold dict.Table_int.Keys.body2 at h
     refine xr (xa (.bool (decide (s775.t20 < (rsLen r761 : Int)))) Z (pu_int (v := .bool (decide (s775.t20 < (rsLen r761 : Int)))) Z Z (tm Z) (tm Z) Z) (xe (aw_seq (aw_cond (b := decide (s775.t20 < (rsLen r761 : Int))) (tm Z) (fun hb784 => ?_) (fun hb784 => ?_)))))
     ·replace h := ite_t (dec_t hb784) h
      refine aw_skip (aw_seq (aw_block (xr (xm Z Z Z (xm Z Z Z (xe (aw_region (xm Z Z Z ?_))))))))
      refine xm Z Z Z (xm Z Z Z (xa (.bool (decide (s720.t9 = 0))) Z (pu_int (v := .bool (decide (s720.t9 = 0))) Z Z (tm Z) (AEv.int _ _) Z) (xm Z Z Z ?_)))
      obtain ⟨r780, r780e, h⟩ := bind_some h
      refine xc Z (op_call (vs := [.rp rg t_, .bool (decide (s720.t9 = 0)), .i s775.t20]) (H := [(rg, .abs (regAbs s775.mem))]) Z call23 ⟨(tm Z), (tm Z), (tm Z), trivial⟩ (List.Perm.refl _) (dict.Table_int.Chain.ok r780e rg) ?_)
      rintro _ _ ⟨t781, rfl, rfl⟩
      obtain ⟨c782, h⟩ := need_of h
      refine xc Z (op_appendOM (q := 2) Z underlying35 underlying35 (.inl Z) typeInfo9 Z Z Z (by decide) (tm Z) Z (given_sl (tm Z)) c782 ?_)
      intro t783
      refine xm Z Z Z (xe (aw_region (xa (.i (IntKind.wrap .i64 (s775.t20 + 1))) Z (pu_int (v := .i (IntKind.wrap .i64 (s775.t20 + 1))) Z Z (tm Z) (AEv.int _ _) Z) (xm Z Z Z (xe ?_)))))
      obtain rfl := some_of h
      exact ⟨_, t783, Z, Weak.mkL [0, 2] (by decide) ⟨⟨_, Z, Z⟩, ⟨_, Z, Z⟩, trivial⟩ ⟨tm Z, (AEv.le (tm Z) vr), tm Z, tm Z, tm Z, (AEv.le (tm Z) vr), trivial⟩⟩
     ·replace h := ite_f (dec_f hb784) h
      refine aw_exit ?_
      obtain rfl := some_of h
      have h := congrArg some (hx777 _ rfl)
      obtain rfl := some_of h
      exact ⟨n776, Weak.mkL [0, 1] (by decide) ⟨⟨_, Z, Z⟩, ⟨_, Z, Z⟩, trivial⟩ ⟨tm Z, tm Z, tm Z, trivial⟩⟩
    ·intro n754
     have h := h755
     refine aw_region (xa (.i (IntKind.wrap .i64 (s720.t9 + 1))) Z (pu_int (v := .i (IntKind.wrap .i64 (s720.t9 + 1))) Z Z (tm Z) (AEv.int _ _) Z) (xm Z Z Z (xe ?_)))
     obtain rfl := some_of h
     exact ⟨_, n754, Z, Weak.mkL [0, 1] (by decide) ⟨⟨_, Z, Z⟩, ⟨_, Z, Z⟩, trivial⟩ ⟨tm Z, tm Z, (AEv.le (tm Z) vr), trivial⟩⟩
   ·replace h := ite_f (dec_f hb785) h
    refine aw_exit ?_
    obtain rfl := some_of h
    have h := congrArg some (hx722 _ rfl)
    obtain rfl := some_of h
    exact ⟨n721, Weak.mkL [1, 0] (by decide) ⟨⟨_, Z, Z⟩, ⟨_, Z, Z⟩, trivial⟩ ⟨tm Z, trivial⟩⟩
  ·intro n590
   have h := h591
   refine xr (xm Z Z Z (xm Z Z Z (xe (aw_ret ?_))))
   obtain rfl := some_of h
   exact ⟨[.sl (.own n590) 1 (s589.1.map AV.str)], _, [(rg, .abs (regAbs s589.2)), (n590, .spare)], ⟨(tm Z), trivial⟩, vr, Weak.mkL [1, 0] (by decide) ⟨⟨_, Z, Z⟩, ⟨_, Z, Z⟩, trivial⟩ trivial, ⟨n590, Z, Z⟩⟩

theorem dict.Table_int.Toward.ok {t_ : RP} {mem : Reg} {r : Int} (h : dict.Table_int.Toward t_ mem = some r) (rg : Nat) : Go.Lift.Spec prog 22 [.rp rg t_] [(rg, .abs (regAbs mem))] (fun v H => v = .i r ∧ H = [(rg, .abs (regAbs mem))]) := by
 unfold dict.Table_int.Toward at h
 refine Go.Lift.Spec.of_body (rs := [.tmp 2]) func22 Z Z (nb Z) Z (xr (xa (.i 0) Z (pu_assign Z (AEv.int _ _)) (xe (aw_seq ?_))))
 obtain ⟨s19, s19e, h20⟩ := bind_some h
 refine aw_meet (ν := Unit) (fun v => [(0, .rp rg t_), (11, .bool s19)]) (fun v => [(rg, .abs (regAbs mem))]) ?_ ?_
 ·have h := s19e
  refine aw_region (xm Z Z Z (xa (.bool t_.isNone) Z (pu_regNil Z underlying26 (tm Z) AEv.nilp) (xm Z Z Z ?_)))
  rcases Bool.eq_false_or_eq_true t_.isNone with hb22 | hb22
  ·replace h := ite_t hb22 h
   refine aops_known 5 Z hb22 (xn Z Z Z (xn Z Z Z (xn Z Z Z (xn Z Z Z (xn Z Z Z (xa (.bool true) Z (pu_pick (b := true) Z (tm Z) (fun _ => (AEv.bool _)) (fun h => nomatch h)) (xe ?_)))))))
   obtain rfl := some_of h
   exact ⟨(), Weak.mkL [0] (by decide) ⟨⟨_, Z, Z⟩, trivial⟩ ⟨tm Z, tm Z, trivial⟩⟩
  ·replace h := ite_fb hb22 h
   refine aops_known 5 Z hb22 (xq Z Z Z Z ?_)
   obtain ⟨c23, h⟩ := need_of h
   refine xp (.rp rg t_) Z Z (pu_regCheck Z (tm Z) c23) (xp (.rp rg (rpAdd t_ 6)) Z Z (pu_regField Z underlying46 Z sizeOf4 (by decide) (tm Z) c23 Z) ?_)
   obtain ⟨r24, r24e, h⟩ := bind_some h
   refine xg Z Z (op_regLoad (i := 0) (av := .bool r24) Z isAgg4 (tm Z) Z (rLdB_eq r24e) Z (xp (.bool (!r24)) Z Z (pu_not Z (tm Z)) (xa (.bool (!r24)) Z (pu_pick (b := false) Z (tm Z) (fun h => nomatch h) (fun _ => (tm Z))) (xe ?_))))
   obtain rfl := some_of h
   exact ⟨(), Weak.mkL [0] (by decide) ⟨⟨_, Z, Z⟩, trivial⟩ ⟨tm Z, tm Z, trivial⟩⟩
 ·intro _
  have h := h20
  refine aw_cond (b := s19) (tm Z) (fun hb30 => ?_) (fun hb30 => ?_)
  ·replace h := ite_t hb30 h
   refine xr (xa (.i (-1)) Z (pu_assign Z (AEv.int _ _)) (xe (aw_ret ?_)))
   obtain rfl := some_of h
   exact ⟨[.i (-1)], _, [(rg, .abs (regAbs mem))], ⟨(tm Z), trivial⟩, vr, Weak.mkL [0] (by decide) ⟨⟨_, Z, Z⟩, trivial⟩ trivial, ⟨Z, Z⟩⟩
  ·replace h := ite_fb hb30 h
   refine aw_skip (xr (xm Z Z Z ?_))
   obtain ⟨c25, h⟩ := need_of h
   refine xa (.rp rg t_) Z (pu_regCheck Z (tm Z) c25) (xa (.rp rg (rpAdd t_ 1)) Z (pu_regField Z underlying46 Z sizeOf44 (by decide) (tm Z) c25 Z) ?_)
   obtain ⟨c26, h⟩ := need_of h
   obtain ⟨c27, h⟩ := need_of h
   refine xa (.rp rg (rpAdd (rpAdd t_ 1) 2)) Z (pu_regIndexA Z underlying44 sizeOf43 (tm Z) (AEv.int _ _) c26 c27) ?_
   obtain ⟨c28, h⟩ := need_of h
   refine xa (.rp rg (rpAdd (rpAdd (rpAdd t_ 1) 2) 0)) Z (pu_regField Z underlying43 Z sizeOf3 (by decide) (tm Z) c28 Z) ?_
   obtain ⟨r29, r29e, h⟩ := bind_some h
   refine xc Z (op_regLoad (i := 0) (av := .i r29) Z isAgg3 (tm Z) Z (rLdI_eq r29e) Z (xm Z Z Z (xe (aw_ret ?_))))
   obtain rfl := some_of h
   exact ⟨[.i r29], _, [(rg, .abs (regAbs mem))], ⟨(tm Z), trivial⟩, vr, Weak.mkL [0] (by decide) ⟨⟨_, Z, Z⟩, trivial⟩ trivial, ⟨Z, Z⟩⟩

theorem bits.ReverseBytes64.ok {x_ : Int} {r : Int} (h : bits.ReverseBytes64 x_ = some r) : Go.Lift.Spec prog 69 [.int .u64 x_] [] (fun v H => v = .int .u64 r ∧ H = []) := by
 unfold bits.ReverseBytes64 at h
 refine Go.Lift.Spec.of_body (rs := [.tmp 2]) func69 Z Z (nb Z) Z (xr (xa (.int .u64 0) Z (pu_assign Z (AEv.int _ _)) (xe (xr (xm Z Z Z (xa (.int .u64 (x_ / 2 ^ min (Int.toNat 8) (IntKind.bits .u64))) Z (pu_shr Z (tm Z) (AEv.int _ _) (by decide)) (xa (.int .u64 (Go.bits .and .u64 (x_ / 2 ^ min (Int.toNat 8) (IntKind.bits .u64)) 71777214294589695)) Z (pu_int (v := .int .u64 (Go.bits .and .u64 (x_ / 2 ^ min (Int.toNat 8) (IntKind.bits .u64)) 71777214294589695)) Z Z (tm Z) (AEv.int _ _) Z) ?_)))))))
 refine xm Z Z Z (xa (.int .u64 (Go.bits .and .u64 x_ 71777214294589695)) Z (pu_int (v := .int .u64 (Go.bits .and .u64 x_ 71777214294589695)) Z Z (tm Z) (AEv.int _ _) Z) (xa (.int .u64 (IntKind.wrap .u64 ((Go.bits .and .u64 x_ 71777214294589695) * 2 ^ min (Int.toNat 8) (IntKind.bits .u64)))) Z (pu_shl Z (tm Z) (AEv.int _ _) (by decide)) ?_))
 obtain ⟨x4, x4e, h⟩ := letO_of h
 refine xa (.int .u64 x4) Z (APure.eq (pu_int (v := .int .u64 (Go.bits .or .u64 (Go.bits .and .u64 (x_ / 2 ^ min (Int.toNat 8) (IntKind.bits .u64)) 71777214294589695) (IntKind.wrap .u64 ((Go.bits .and .u64 x_ 71777214294589695) * 2 ^ min (Int.toNat 8) (IntKind.bits .u64))))) Z Z (tm Z) (tm Z) Z) (congrArg (AV.int .u64) x4e.symm)) (xm Z Z Z (xe (xr (xm Z Z Z (xa (.int .u64 (x4 / 2 ^ min (Int.toNat 16) (IntKind.bits .u64))) Z (pu_shr Z (tm Z) (AEv.int _ _) (by decide)) (xa (.int .u64 (Go.bits .and .u64 (x4 / 2 ^ min (Int.toNat 16) (IntKind.bits .u64)) 281470681808895)) Z (pu_int (v := .int .u64 (Go.bits .and .u64 (x4 / 2 ^ min (Int.toNat 16) (IntKind.bits .u64)) 281470681808895)) Z Z (tm Z) (AEv.int _ _) Z) (xm Z Z Z (xa (.int .u64 (Go.bits .and .u64 x4 281470681808895)) Z (pu_int (v := .int .u64 (Go.bits .and .u64 x4 281470681808895)) Z Z (tm Z) (AEv.int _ _) Z) ?_))))))))
 refine xa (.int .u64 (IntKind.wrap .u64 ((Go.bits .and .u64 x4 281470681808895) * 2 ^ min (Int.toNat 16) (IntKind.bits .u64)))) Z (pu_shl Z (tm Z) (AEv.int _ _) (by decide)) ?_
 obtain ⟨x5, x5e, h⟩ := letO_of h
 refine xa (.int .u64 x5) Z (APure.eq (pu_int (v := .int .u64 (Go.bits .or .u64 (Go.bits .and .u64 (x4 / 2 ^ min (Int.toNat 16) (IntKind.bits .u64)) 281470681808895) (IntKind.wrap .u64 ((Go.bits .and .u64 x4 281470681808895) * 2 ^ min (Int.toNat 16) (IntKind.bits .u64))))) Z Z (tm Z) (tm Z) Z) (congrArg (AV.int .u64) x5e.symm)) (xm Z Z Z (xe (xr (xm Z Z Z (xa (.int .u64 (x5 / 2 ^ min (Int.toNat 32) (IntKind.bits .u64))) Z (pu_shr Z (tm Z) (AEv.int _ _) (by decide)) (xm Z Z Z (xa (.int .u64 (IntKind.wrap .u64 (x5 * 2 ^ min (Int.toNat 32) (IntKind.bits .u64)))) Z (pu_shl Z (tm Z) (AEv.int _ _) (by decide)) ?_)))))))
 obtain ⟨x6, x6e, h⟩ := letO_of h
 refine xa (.int .u64 x6) Z (APure.eq (pu_int (v := .int .u64 (Go.bits .or .u64 (x5 / 2 ^ min (Int.toNat 32) (IntKind.bits .u64)) (IntKind.wrap .u64 (x5 * 2 ^ min (Int.toNat 32) (IntKind.bits .u64))))) Z Z (tm Z) (tm Z) Z) (congrArg (AV.int .u64) x6e.symm)) (xm Z Z Z (xe (aw_ret ?_)))
 obtain rfl := some_of h
 exact ⟨[.int .u64 x6], _, [], ⟨(tm Z), trivial⟩, vr, Weak.mkL [] (by decide) trivial trivial, ⟨Z, Z⟩⟩

theorem bits.Reverse64.ok {x_ : Int} {r : Int} (h : bits.Reverse64 x_ = some r) : Go.Lift.Spec prog 67 [.int .u64 x_] [] (fun v H => v = .int .u64 r ∧ H = []) := by
 unfold bits.Reverse64 at h
 refine Go.Lift.Spec.of_body (rs := [.tmp 2]) func67 Z Z (nb Z) Z (xr (xa (.int .u64 0) Z (pu_assign Z (AEv.int _ _)) (xe (xr (xm Z Z Z (xa (.int .u64 (x_ / 2 ^ min (Int.toNat 1) (IntKind.bits .u64))) Z (pu_shr Z (tm Z) (AEv.int _ _) (by decide)) (xa (.int .u64 (Go.bits .and .u64 (x_ / 2 ^ min (Int.toNat 1) (IntKind.bits .u64)) 6148914691236517205)) Z (pu_int (v := .int .u64 (Go.bits .and .u64 (x_ / 2 ^ min (Int.toNat 1) (IntKind.bits .u64)) 6148914691236517205)) Z Z (tm Z) (AEv.int _ _) Z) ?_)))))))
 refine xm Z Z Z (xa (.int .u64 (Go.bits .and .u64 x_ 6148914691236517205)) Z (pu_int (v := .int .u64 (Go.bits .and .u64 x_ 6148914691236517205)) Z Z (tm Z) (AEv.int _ _) Z) (xa (.int .u64 (IntKind.wrap .u64 ((Go.bits .and .u64 x_ 6148914691236517205) * 2 ^ min (Int.toNat 1) (IntKind.bits .u64)))) Z (pu_shl Z (tm Z) (AEv.int _ _) (by decide)) ?_))
 obtain ⟨x5, x5e, h⟩ := letO_of h
 refine xa (.int .u64 x5) Z (APure.eq (pu_int (v := .int .u64 (Go.bits .or .u64 (Go.bits .and .u64 (x_ / 2 ^ min (Int.toNat 1) (IntKind.bits .u64)) 6148914691236517205) (IntKind.wrap .u64 ((Go.bits .and .u64 x_ 6148914691236517205) * 2 ^ min (Int.toNat 1) (IntKind.bits .u64))))) Z Z (tm Z) (tm Z) Z) (congrArg (AV.int .u64) x5e.symm)) (xm Z Z Z (xe (xr (xm Z Z Z (xa (.int .u64 (x5 / 2 ^ min (Int.toNat 2) (IntKind.bits .u64))) Z (pu_shr Z (tm Z) (AEv.int _ _) (by decide)) (xa (.int .u64 (Go.bits .and .u64 (x5 / 2 ^ min (Int.toNat 2) (IntKind.bits .u64)) 3689348814741910323)) Z (pu_int (v := .int .u64 (Go.bits .and .u64 (x5 / 2 ^ min (Int.toNat 2) (IntKind.bits .u64)) 3689348814741910323)) Z Z (tm Z) (AEv.int _ _) Z) (xm Z Z Z (xa (.int .u64 (Go.bits .and .u64 x5 3689348814741910323)) Z (pu_int (v := .int .u64 (Go.bits .and .u64 x5 3689348814741910323)) Z Z (tm Z) (AEv.int _ _) Z) ?_))))))))
 refine xa (.int .u64 (IntKind.wrap .u64 ((Go.bits .and .u64 x5 3689348814741910323) * 2 ^ min (Int.toNat 2) (IntKind.bits .u64)))) Z (pu_shl Z (tm Z) (AEv.int _ _) (by decide)) ?_
 obtain ⟨x6, x6e, h⟩ := letO_of h
 refine xa (.int .u64 x6) Z (APure.eq (pu_int (v := .int .u64 (Go.bits .or .u64 (Go.bits .and .u64 (x5 / 2 ^ min (Int.toNat 2) (IntKind.bits .u64)) 3689348814741910323) (IntKind.wrap .u64 ((Go.bits .and .u64 x5 3689348814741910323) * 2 ^ min (Int.toNat 2) (IntKind.bits .u64))))) Z Z (tm Z) (tm Z) Z) (congrArg (AV.int .u64) x6e.symm)) (xm Z Z Z (xe (xr (xm Z Z Z (xa (.int .u64 (x6 / 2 ^ min (Int.toNat 4) (IntKind.bits .u64))) Z (pu_shr Z (tm Z) (AEv.int _ _) (by decide)) (xa (.int .u64 (Go.bits .and .u64 (x6 / 2 ^ min (Int.toNat 4) (IntKind.bits .u64)) 1085102592571150095)) Z (pu_int (v := .int .u64 (Go.bits .and .u64 (x6 / 2 ^ min (Int.toNat 4) (IntKind.bits .u64)) 1085102592571150095)) Z Z (tm Z) (AEv.int _ _) Z) (xm Z Z Z (xa (.int .u64 (Go.bits .and .u64 x6 1085102592571150095)) Z (pu_int (v := .int .u64 (Go.bits .and .u64 x6 1085102592571150095)) Z Z (tm Z) (AEv.int _ _) Z) ?_))))))))
 refine xa (.int .u64 (IntKind.wrap .u64 ((Go.bits .and .u64 x6 1085102592571150095) * 2 ^ min (Int.toNat 4) (IntKind.bits .u64)))) Z (pu_shl Z (tm Z) (AEv.int _ _) (by decide)) ?_
 obtain ⟨x7, x7e, h⟩ := letO_of h
 refine xa (.int .u64 x7) Z (APure.eq (pu_int (v := .int .u64 (Go.bits .or .u64 (Go.bits .and .u64 (x6 / 2 ^ min (Int.toNat 4) (IntKind.bits .u64)) 1085102592571150095) (IntKind.wrap .u64 ((Go.bits .and .u64 x6 1085102592571150095) * 2 ^ min (Int.toNat 4) (IntKind.bits .u64))))) Z Z (tm Z) (tm Z) Z) (congrArg (AV.int .u64) x7e.symm)) (xm Z Z Z (xe (xr (xm Z Z Z ?_))))
 obtain ⟨r8, r8e, h⟩ := bind_some h
 refine xc Z (op_call (vs := [.int .u64 x7]) (H := []) Z call69 ⟨(tm Z), trivial⟩ (List.Perm.refl _) (bits.ReverseBytes64.ok r8e) ?_)
 rintro _ _ ⟨rfl, rfl⟩
 refine xm Z Z Z (xe (aw_ret ?_))
 obtain rfl := some_of h
 exact ⟨[.int .u64 r8], _, [], ⟨(tm Z), trivial⟩, vr, Weak.mkL [] (by decide) trivial trivial, ⟨Z, Z⟩⟩

theorem hash.Turn.ok {n_ : Int} {b : Int} {r : Int} (h : hash.Turn n_ b = some r) : Go.Lift.Spec prog 56 [.int .u64 n_, .i b] [] (fun v H => v = .int .u64 r ∧ H = []) := by
 unfold hash.Turn at h
 refine Go.Lift.Spec.of_body (rs := [.tmp 4]) func56 Z Z (nb Z) Z (xr (xa (.int .u64 0) Z (pu_assign Z (AEv.int _ _)) (xe (aw_seq (xr (xm Z Z Z ?_))))))
 obtain ⟨r7, r7e, h⟩ := bind_some h
 refine xc Z (op_call (vs := [.i b]) (H := []) Z call66 ⟨(tm Z), trivial⟩ (List.Perm.refl _) (hash.size.ok r7e) ?_)
 rintro _ _ ⟨rfl, rfl⟩
 refine xa (.bool (decide (r7 = 0))) Z (pu_int (v := .bool (decide (r7 = 0))) Z Z (tm Z) (AEv.int _ _) Z) (xe (aw_cond (b := decide (r7 = 0)) (tm Z) (fun hb12 => ?_) (fun hb12 => ?_)))
 ·replace h := ite_t (dec_t hb12) h
  refine xr (xa (.int .u64 0) Z (pu_assign Z (AEv.int _ _)) (xe (aw_ret ?_)))
  obtain rfl := some_of h
  exact ⟨[.int .u64 0], _, [], ⟨(tm Z), trivial⟩, vr, Weak.mkL [] (by decide) trivial trivial, ⟨Z, Z⟩⟩
 ·replace h := ite_f (dec_f hb12) h
  refine aw_skip (xr (xm Z Z Z (xm Z Z Z ?_)))
  obtain ⟨r8, r8e, h⟩ := bind_some h
  refine xc Z (op_call (vs := [.int .u64 n_, .i b]) (H := []) Z call57 ⟨(tm Z), (tm Z), trivial⟩ (List.Perm.refl _) (hash.low.ok r8e) ?_)
  rintro _ _ ⟨rfl, rfl⟩
  obtain ⟨r9, r9e, h⟩ := bind_some h
  refine xc Z (op_call (vs := [.int .u64 r8]) (H := []) Z call67 ⟨(tm Z), trivial⟩ (List.Perm.refl _) (bits.Reverse64.ok r9e) ?_)
  rintro _ _ ⟨rfl, rfl⟩
  refine xm Z Z Z ?_
  obtain ⟨r10, r10e, h⟩ := bind_some h
  refine xc Z (op_call (vs := [.i b]) (H := []) Z call66 ⟨(tm Z), trivial⟩ (List.Perm.refl _) (hash.size.ok r10e) ?_)
  rintro _ _ ⟨rfl, rfl⟩
  refine xa (.i (IntKind.wrap .i64 (64 - r10))) Z (pu_int (v := .i (IntKind.wrap .i64 (64 - r10))) Z Z (AEv.int _ _) (tm Z) Z) ?_
  obtain ⟨c11, h⟩ := need_of h
  refine xa (.int .u64 (r9 / 2 ^ min (Int.toNat (IntKind.wrap .i64 (64 - r10))) (IntKind.bits .u64))) Z (pu_shr Z (tm Z) (tm Z) c11) (xm Z Z Z (xe (aw_ret ?_)))
  obtain rfl := some_of h
  exact ⟨[.int .u64 (r9 / 2 ^ min (Int.toNat (IntKind.wrap .i64 (64 - r10))) (IntKind.bits .u64))], _, [], ⟨(tm Z), trivial⟩, vr, Weak.mkL [] (by decide) trivial trivial, ⟨Z, Z⟩⟩

theorem hash.Next.ok {cursor : Int} {b : Int} {r : Int} (h : hash.Next cursor b = some r) : Go.Lift.Spec prog 44 [.int .u64 cursor, .i b] [] (fun v H => v = .int .u64 r ∧ H = []) := by
 unfold hash.Next at h
 refine Go.Lift.Spec.of_body (rs := [.tmp 4]) func44 Z Z (nb Z) Z (xr (xa (.int .u64 0) Z (pu_assign Z (AEv.int _ _)) (xe (xr (xm Z Z Z (xm Z Z Z ?_))))))
 obtain ⟨r3, r3e, h⟩ := bind_some h
 refine xc Z (op_call (vs := [.int .u64 cursor, .i b]) (H := []) Z call56 ⟨(tm Z), (tm Z), trivial⟩ (List.Perm.refl _) (hash.Turn.ok r3e) ?_)
 rintro _ _ ⟨rfl, rfl⟩
 refine xa (.int .u64 (IntKind.wrap .u64 (r3 + 1))) Z (pu_int (v := .int .u64 (IntKind.wrap .u64 (r3 + 1))) Z Z (tm Z) (AEv.int _ _) Z) (xm Z Z Z ?_)
 obtain ⟨r4, r4e, h⟩ := bind_some h
 refine xc Z (op_call (vs := [.int .u64 (IntKind.wrap .u64 (r3 + 1)), .i b]) (H := []) Z call56 ⟨(tm Z), (tm Z), trivial⟩ (List.Perm.refl _) (hash.Turn.ok r4e) ?_)
 rintro _ _ ⟨rfl, rfl⟩
 refine xm Z Z Z (xe (aw_ret ?_))
 obtain rfl := some_of h
 exact ⟨[.int .u64 r4], _, [], ⟨(tm Z), trivial⟩, vr, Weak.mkL [] (by decide) trivial trivial, ⟨Z, Z⟩⟩

theorem scan.Turn_int.ok {t_ : RP} {cursor : Int} {mem : Reg} {r : Int × (List (List UInt8)) × Reg} (h : scan.Turn_int t_ cursor mem = some r) (rg : Nat) : Go.Lift.Spec prog 25 [.rp rg t_, .int .u64 cursor] [(rg, .abs (regAbs mem))] (fun v H => ∃ n0, v = .tup [.int .u64 r.1, .sl (.own n0) 1 (r.2.1.map AV.str)] ∧ H = [(rg, .abs (regAbs r.2.2)), (n0, .spare)]) := by
 unfold scan.Turn_int at h
 refine Go.Lift.Spec.of_body (rs := [.tmp 4, .tmp 5]) func25 Z Z (nb Z) Z (xr (xa (.int .u64 0) Z (pu_assign Z (AEv.int _ _)) (xa (.sl .full 1 (([] : List (List UInt8)).map AV.str)) Z (pu_assign Z (AEv.nil 1 (by decide))) (xe (aw_seq (xr (xm Z Z Z ?_)))))))
 refine xa (.bool t_.isNone) Z (pu_regNil Z underlying26 (tm Z) AEv.nilp) (xe (aw_cond (b := t_.isNone) (tm Z) (fun hb141 => ?_) (fun hb141 => ?_)))
 ·replace h := ite_t hb141 h
  refine xr (xa (.int .u64 0) Z (pu_assign Z (AEv.int _ _)) (xa (.sl .full 1 (([] : List (List UInt8)).map AV.str)) Z (pu_assign Z (AEv.nil 1 (by decide))) (xe (aw_claim 5 (tm Z) fun t71 => (aw_ret ?_)))))
  obtain rfl := some_of h
  exact ⟨[.int .u64 0, .sl (.own t71) 1 (([] : List (List UInt8)).map AV.str)], _, [(rg, .abs (regAbs mem)), (t71, .spare)], ⟨(tm Z), (tm Z), trivial⟩, vr, Weak.mkL [1, 0] (by decide) ⟨⟨_, Z, Z⟩, ⟨_, Z, Z⟩, trivial⟩ trivial, ⟨t71, Z, Z⟩⟩
 ·replace h := ite_fb hb141 h
  refine aw_skip (xr (xm Z Z Z ?_))
  obtain ⟨r72, r72e, h⟩ := bind_some h
  refine xc Z (op_call (vs := [.rp rg t_]) (H := [(rg, .abs (regAbs mem))]) Z call21 ⟨(tm Z), trivial⟩ (List.Perm.refl _) (dict.Table_int.Size.ok r72e rg) ?_)
  rintro _ _ ⟨rfl, rfl⟩
  refine xm Z Z Z ?_
  obtain ⟨r73, r73e, h⟩ := bind_some h
  refine xc Z (op_call (vs := [.rp rg t_]) (H := [(rg, .abs (regAbs r72.2))]) Z call22 ⟨(tm Z), trivial⟩ (List.Perm.refl _) (dict.Table_int.Toward.ok r73e rg) ?_)
  rintro _ _ ⟨rfl, rfl⟩
  refine xm Z Z Z (xm Z Z Z (xe (aw_seq (xr (xm Z Z Z (xa (.bool (decide (r73 < 0))) Z (pu_int (v := .bool (decide (r73 < 0))) Z Z (tm Z) (AEv.int _ _) Z) (xe (aw_cond (b := decide (r73 < 0)) (tm Z) (fun hb140 => ?_) (fun hb140 => ?_)))))))))
  ·replace h := ite_t (dec_t hb140) h
   refine xr (xm Z Z Z (xm Z Z Z ?_))
   obtain ⟨r74, r74e, h⟩ := bind_some h
   refine xc Z (op_call (vs := [.int .u64 cursor, .i r72.1]) (H := []) Z call44 ⟨(tm Z), (tm Z), trivial⟩ (List.Perm.refl _) (hash.Next.ok r74e) ?_)
   rintro _ _ ⟨rfl, rfl⟩
   refine xm Z Z Z (xm Z Z Z (xm Z Z Z ?_))
   obtain ⟨r75, r75e, h⟩ := bind_some h
   refine xc Z (op_call (vs := [.int .u64 cursor, .i r72.1]) (H := []) Z call45 ⟨(tm Z), (tm Z), trivial⟩ (List.Perm.refl _) (hash.Place.ok r75e) ?_)
   rintro _ _ ⟨rfl, rfl⟩
   obtain ⟨r76, r76e, h⟩ := bind_some h
   refine xc Z (op_call (vs := [.rp rg t_, .bool true, .i r75]) (H := [(rg, .abs (regAbs r72.2))]) Z call23 ⟨(tm Z), (AEv.bool _), (tm Z), trivial⟩ (List.Perm.refl _) (dict.Table_int.Chain.ok r76e rg) ?_)
   rintro _ _ ⟨t77, rfl, rfl⟩
   refine xm Z Z Z (xm Z Z Z (xe (aw_ret ?_)))
   obtain rfl := some_of h
   exact ⟨[.int .u64 r74, .sl (.own t77) 1 (r76.1.map AV.str)], _, [(rg, .abs (regAbs r76.2)), (t77, .spare)], ⟨(tm Z), (tm Z), trivial⟩, vr, Weak.mkL [0, 1] (by decide) ⟨⟨_, Z, Z⟩, ⟨_, Z, Z⟩, trivial⟩ trivial, ⟨t77, Z, Z⟩⟩
  ·replace h := ite_f (dec_f hb140) h
   refine aw_skip (xr (xm Z Z Z (xm Z Z Z (xa (.i (if r73 < r72.1 then r73 else r72.1)) Z (pu_min2 Z (tm Z) (tm Z)) (xm Z Z Z (xe (aw_seq (aw_region ?_))))))))
   refine xm Z Z Z (xm Z Z Z ?_)
   obtain ⟨r78, r78e, h⟩ := bind_some h
   refine xc Z (op_call (vs := [.int .u64 cursor, .i (if r73 < r72.1 then r73 else r72.1)]) (H := []) Z call45 ⟨(tm Z), (tm Z), trivial⟩ (List.Perm.refl _) (hash.Place.ok r78e) ?_)
   rintro _ _ ⟨rfl, rfl⟩
   refine xm Z Z Z (xe (xr (xm Z Z Z (xm Z Z Z (xm Z Z Z (xa (.bool (decide ((if r73 < r72.1 then r73 else r72.1) = r72.1))) Z (pu_int (v := .bool (decide ((if r73 < r72.1 then r73 else r72.1) = r72.1))) Z Z (tm Z) (tm Z) Z) (xm Z Z Z ?_)))))))
   obtain ⟨r79, r79e, h⟩ := bind_some h
   refine xc Z (op_call (vs := [.rp rg t_, .bool (decide ((if r73 < r72.1 then r73 else r72.1) = r72.1)), .i r78]) (H := [(rg, .abs (regAbs r72.2))]) Z call23 ⟨(tm Z), (tm Z), (tm Z), trivial⟩ (List.Perm.refl _) (dict.Table_int.Chain.ok r79e rg) ?_)
   rintro _ _ ⟨t80, rfl, rfl⟩
   refine xm Z Z Z (xe ?_)
   obtain ⟨s108, s108e, h110⟩ := bind_some h
   refine aw_meet (ν := Nat) (fun v => [(1, .int .u64 cursor), (8, .i (if r73 < r72.1 then r73 else r72.1)), (10, .sl (.own v) 1 (s108.1.map AV.str))]) (fun v => [(v, .spare), (rg, .abs (regAbs s108.2))]) ?_ ?_
   ·have h := s108e
    refine xr (xm Z Z Z (xm Z Z Z (xm Z Z Z ?_)))
    obtain ⟨c112, h⟩ := need_of h
    refine xa (.i (IntKind.wrap .i64 (1 * 2 ^ min (Int.toNat (if r73 < r72.1 then r73 else r72.1)) (IntKind.bits .i64)))) Z (pu_shl Z (AEv.int _ _) (tm Z) c112) (xa (.i (IntKind.wrap .i64 (r78 + (IntKind.wrap .i64 (1 * 2 ^ min (Int.toNat (if r73 < r72.1 then r73 else r72.1)) (IntKind.bits .i64)))))) Z (pu_int (v := .i (IntKind.wrap .i64 (r78 + (IntKind.wrap .i64 (1 * 2 ^ min (Int.toNat (if r73 < r72.1 then r73 else r72.1)) (IntKind.bits .i64)))))) Z Z (tm Z) (tm Z) Z) (xa (.agg [.i r78, .i (IntKind.wrap .i64 (r78 + (IntKind.wrap .i64 (1 * 2 ^ min (Int.toNat (if r73 < r72.1 then r73 else r72.1)) (IntKind.bits .i64)))))]) Z (pu_buildArr (zs := [.i 0, .i 0]) (aparts := [(0, .i r78), (1, .i (IntKind.wrap .i64 (r78 + (IntKind.wrap .i64 (1 * 2 ^ min (Int.toNat (if r73 < r72.1 then r73 else r72.1)) (IntKind.bits .i64))))))]) (cs := [.i r78, .i (IntKind.wrap .i64 (r78 + (IntKind.wrap .i64 (1 * 2 ^ min (Int.toNat (if r73 < r72.1 then r73 else r72.1)) (IntKind.bits .i64)))))]) Z underlying81 sizeOf3 zeroValue81 Z ⟨Z, (tm Z), ⟨Z, (tm Z), trivial⟩⟩ Z) (xa (.i 0) Z (pu_move Z (AEv.int _ _)) (xe (aw_block (aw_while (σ := scan.Turn_int.S0) (ν := Nat) (scan.Turn_int.body0 t_ r73 r72 r78) (fun s128 v => [(0, .rp rg t_), (1, .int .u64 cursor), (6, .i r72.1), (8, .i (if r73 < r72.1 then r73 else r72.1)), (10, .sl (.own v) 1 (s128.l.map AV.str)), (46, .agg [.i r78, .i (IntKind.wrap .i64 (r78 + (IntKind.wrap .i64 (1 * 2 ^ min (Int.toNat (if r73 < r72.1 then r73 else r72.1)) (IntKind.bits .i64)))))]), (47, .i s128.t47)]) (fun s128 v => [(rg, .abs (regAbs s128.mem)), (v, .spare)]) ⟨r79.1, 0, r79.2⟩ t80 _ h (Weak.mkL [0, 1] (by decide) ⟨⟨_, Z, Z⟩, ⟨_, Z, Z⟩, trivial⟩ ⟨tm Z, tm Z, tm Z, tm Z, tm Z, tm Z, tm Z, trivial⟩) ?_))))))
    rintro s128 n129 x131 h hx130
    unfold scan.Turn_int.body0 at h
    refine xr (xa (.bool (decide (s128.t47 < 2))) Z (pu_int (v := .bool (decide (s128.t47 < 2))) Z Z (tm Z) (AEv.int _ _) Z) (xe (aw_seq (aw_cond (b := decide (s128.t47 < 2)) (tm Z) (fun hb138 => ?_) (fun hb138 => ?_)))))
    ·replace h := ite_t (dec_t hb138) h
     refine aw_skip (aw_seq (aw_block (aw_seq (aw_region ?_))))
     obtain ⟨c133, h⟩ := need_of h
     refine xa (.i (ix ([r78, IntKind.wrap .i64 (r78 + (IntKind.wrap .i64 (1 * 2 ^ min (Int.toNat (if r73 < r72.1 then r73 else r72.1)) (IntKind.bits .i64))))] : List Int) s128.t47)) Z (pu_idxArrM (f := (AV.int .i64)) (ys := ([r78, IntKind.wrap .i64 (r78 + (IntKind.wrap .i64 (1 * 2 ^ min (Int.toNat (if r73 < r72.1 then r73 else r72.1)) (IntKind.bits .i64))))] : List Int)) Z underlying81 sizeOf3 isAgg3 (tm Z) (tm Z) Z Z c133) (xm Z Z Z (xe (aw_region (xm Z Z Z (xm Z Z Z (xm Z Z Z (xm Z Z Z (xa (.bool (!decide ((if r73 < r72.1 then r73 else r72.1) = r72.1))) Z (pu_int (v := .bool (!decide ((if r73 < r72.1 then r73 else r72.1) = r72.1))) Z Z (tm Z) (tm Z) Z) (xm Z Z Z ?_)))))))))
     obtain ⟨r134, r134e, h⟩ := bind_some h
     refine xc Z (op_call (vs := [.rp rg t_, .bool (!decide ((if r73 < r72.1 then r73 else r72.1) = r72.1)), .i (ix ([r78, IntKind.wrap .i64 (r78 + (IntKind.wrap .i64 (1 * 2 ^ min (Int.toNat (if r73 < r72.1 then r73 else r72.1)) (IntKind.bits .i64))))] : List Int) s128.t47)]) (H := [(rg, .abs (regAbs s128.mem))]) Z call23 ⟨(tm Z), (tm Z), (tm Z), trivial⟩ (List.Perm.refl _) (dict.Table_int.Chain.ok r134e rg) ?_)
     rintro _ _ ⟨t135, rfl, rfl⟩
     obtain ⟨c136, h⟩ := need_of h
     refine xc Z (op_appendOM (q := 2) Z underlying35 underlying35 (.inl Z) typeInfo9 Z Z Z (by decide) (tm Z) Z (given_sl (tm Z)) c136 ?_)
     intro t137
     refine xm Z Z Z (xe (aw_region (xa (.i (IntKind.wrap .i64 (s128.t47 + 1))) Z (pu_int (v := .i (IntKind.wrap .i64 (s128.t47 + 1))) Z Z (tm Z) (AEv.int _ _) Z) (xm Z Z Z (xe ?_)))))
     obtain rfl := some_of h
     exact ⟨_, t137, Z, Weak.mkL [0, 2] (by decide) ⟨⟨_, Z, Z⟩, ⟨_, Z, Z⟩, trivial⟩ ⟨tm Z, tm Z, tm Z, tm Z, (AEv.le (tm Z) vr), tm Z, (AEv.le (tm Z) vr), trivial⟩⟩
    ·replace h := ite_f (dec_f hb138) h
     refine aw_exit ?_
     obtain rfl := some_of h
     have h := congrArg some (hx130 _ rfl)
     obtain rfl := some_of h
     exact ⟨n129, Weak.mkL [1, 0] (by decide) ⟨⟨_, Z, Z⟩, ⟨_, Z, Z⟩, trivial⟩ ⟨tm Z, tm Z, tm Z, trivial⟩⟩
   ·intro n109
    have h := h110
    refine xr (xm Z Z Z (xm Z Z Z ?_))
    obtain ⟨r139, r139e, h⟩ := bind_some h
    refine xc Z (op_call (vs := [.int .u64 cursor, .i (if r73 < r72.1 then r73 else r72.1)]) (H := []) Z call44 ⟨(tm Z), (tm Z), trivial⟩ (List.Perm.refl _) (hash.Next.ok r139e) ?_)
    rintro _ _ ⟨rfl, rfl⟩
    refine xm Z Z Z (xm Z Z Z (xm Z Z Z (xe (aw_ret ?_))))
    obtain rfl := some_of h
    exact ⟨[.int .u64 r139, .sl (.own n109) 1 (s108.1.map AV.str)], _, [(rg, .abs (regAbs s108.2)), (n109, .spare)], ⟨(tm Z), (tm Z), trivial⟩, vr, Weak.mkL [1, 0] (by decide) ⟨⟨_, Z, Z⟩, ⟨_, Z, Z⟩, trivial⟩ trivial, ⟨n109, Z, Z⟩⟩

end Go.Pu
