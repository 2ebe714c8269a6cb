/- Printed by lift.py: the functions come to them. -/
import Derived.Test.YtahccieomaopeaaLiftW
import Derived.Test.YtahccieomaopeaaDKK0
set_option maxRecDepth 100000
set_option maxHeartbeats 0
namespace Go.Pu
open Go.Lift Go.Proofs.Try

theorem dict.Table_int.Keys.ok {t_ : RP} {mem : Reg} {r : (List (List UInt8)) × Reg} (h : dict.Table_int.Keys t_ mem = some r) (rg : Nat) : Go.Lift.Spec prog 17 [.rp rg t_] [(rg, .abs (regAbs mem))] (fun v H => ∃ n0, v = .sl (.own n0) 1 (r.1.map AV.str) ∧ H = [(rg, .abs (regAbs r.2)), (n0, .spare)]) := by
 unfold dict.Table_int.Keys at h
 refine Go.Lift.Spec.of_body (rs := [.tmp 2]) func17 Z Z (nb Z) Z (xr (xa (.sl .full 1 (([] : List (List UInt8)).map AV.str)) Z (pu_assign Z (AEv.nil 1 (by decide))) (xe (xr (xa (.sl .full 1 (([] : List (List UInt8)).map AV.str)) Z (pu_assign Z (AEv.nil 1 (by decide))) (xe (aw_seq ?_)))))))
 refine xr (xm Z Z Z (xa (.bool t_.isNone) Z (pu_regNil Z underlying26 (tm Z) AEv.nilp) (xe (aw_cond (b := t_.isNone) (tm Z) (fun hb787 => ?_) (fun hb787 => ?_)))))
 ·replace h := ite_t hb787 h
  refine xr (xm Z Z Z (xm Z Z Z (xe (aw_claim 2 (tm Z) fun t394 => (aw_ret ?_)))))
  obtain rfl := some_of h
  exact ⟨[.sl (.own t394) 1 (([] : List (List UInt8)).map AV.str)], _, [(rg, .abs (regAbs mem)), (t394, .spare)], ⟨(tm Z), trivial⟩, vr, Weak.mkL [1, 0] (by decide) ⟨⟨_, Z, Z⟩, ⟨_, Z, Z⟩, trivial⟩ trivial, ⟨t394, Z, Z⟩⟩
 ·replace h := ite_fb hb787 h
  refine aw_skip ?_
  obtain ⟨s589, s589e, h591⟩ := bind_some h
  refine aw_meet (ν := Nat) (fun v => [(3, .sl (.own v) 1 (s589.1.map AV.str))]) (fun v => [(v, .spare), (rg, .abs (regAbs s589.2))]) ?_ ?_
  ·have h := s589e
   refine xr (xa (.i 0) Z (pu_move Z (AEv.int _ _)) (xe (aw_block (aw_claim 3 (tm Z) fun t786 => (aw_while (σ := dict.Table_int.Keys.S0) (ν := Nat) (dict.Table_int.Keys.body0 t_) (fun s720 v => [(0, .rp rg t_), (3, .sl (.own v) 1 (s720.out.map AV.str)), (9, .i s720.t9)]) (fun s720 v => [(rg, .abs (regAbs s720.mem)), (v, .spare)]) ⟨([] : List (List UInt8)), 0, mem⟩ t786 _ h (Weak.mkL [1, 0] (by decide) ⟨⟨_, Z, Z⟩, ⟨_, Z, Z⟩, trivial⟩ ⟨tm Z, tm Z, tm Z, trivial⟩) ?_)))))
   rintro s720 n721 x723 h hx722
   unfold dict.Table_int.Keys.body0 at h
   refine xr (xa (.bool (decide (s720.t9 < 2))) Z (pu_int (v := .bool (decide (s720.t9 < 2))) Z Z (tm Z) (AEv.int _ _) Z) (xe (aw_seq (aw_cond (b := decide (s720.t9 < 2)) (tm Z) (fun hb785 => ?_) (fun hb785 => ?_)))))
   ·replace h := ite_t (dec_t hb785) h
    refine aw_skip ?_
    obtain ⟨s753, s753e, h755⟩ := bind_some h
    refine aw_meet (ν := Nat) (fun v => [(0, .rp rg t_), (3, .sl (.own v) 1 (s753.1.map AV.str)), (9, .i s720.t9)]) (fun v => [(rg, .abs (regAbs s753.2)), (v, .spare)]) ?_ ?_
    ·have h := s753e
     refine aw_block (xr (xm Z Z Z (xm Z Z Z (xe (xr (xm Z Z Z (xm Z Z Z ?_)))))))
     obtain ⟨c757, h⟩ := need_of h
     refine xa (.rp rg t_) Z (pu_regCheck Z (tm Z) c757) (xa (.rp rg (rpAdd t_ 1)) Z (pu_regField Z underlying46 Z sizeOf44 (by decide) (tm Z) c757 Z) ?_)
     obtain ⟨c758, h⟩ := need_of h
     obtain ⟨c759, h⟩ := need_of h
     refine xa (.rp rg (rpAdd (rpAdd t_ 1) (Int.toNat s720.t9 * 2))) Z (pu_regIndexA Z underlying44 sizeOf43 (tm Z) (tm Z) c758 c759) ?_
     obtain ⟨c760, h⟩ := need_of h
     refine xa (.rp rg (rpAdd (rpAdd (rpAdd t_ 1) (Int.toNat s720.t9 * 2)) 1)) Z (pu_regField Z underlying43 Z sizeOf41 (by decide) (tm Z) c760 Z) ?_
     obtain ⟨r761, r761e, h⟩ := bind_some h
     refine xc Z (op_regLoad (i := 0) (av := .rs rg r761) Z isAgg41 (tm Z) Z (rLdL_eq r761e) Z (xa (.i (rsLen r761 : Int)) Z (pu_regLen Z underlying41 (tm Z)) (xa (.i 0) Z (pu_move Z (AEv.int _ _)) (xe (aw_block (aw_while (σ := dict.Table_int.Keys.S2) (ν := Nat) (dict.Table_int.Keys.body2 r761 t_ s720) (fun s775 v => [(0, .rp rg t_), (3, .sl (.own v) 1 (s775.out.map AV.str)), (4, .i s720.t9), (9, .i s720.t9), (19, .i (rsLen r761 : Int)), (20, .i s775.t20)]) (fun s775 v => [(rg, .abs (regAbs s775.mem)), (v, .spare)]) ⟨s720.out, 0, s720.mem⟩ n721 _ h (Weak.mkL [0, 1] (by decide) ⟨⟨_, Z, Z⟩, ⟨_, Z, Z⟩, trivial⟩ ⟨tm Z, tm Z, tm Z, tm Z, tm Z, tm Z, trivial⟩) ?_))))))
     rintro s775 n776 x778 h hx777
     unfold dict.Table_int.Keys.body2 at h
     refine xr (xa (.bool (decide (s775.t20 < (rsLen r761 : Int)))) Z (pu_int (v := .bool (decide (s775.t20 < (rsLen r761 : Int)))) Z Z (tm Z) (tm Z) Z) (xe (aw_seq (aw_cond (b := decide (s775.t20 < (rsLen r761 : Int))) (tm Z) (fun hb784 => ?_) (fun hb784 => ?_)))))
     ·replace h := ite_t (dec_t hb784) h
      refine aw_skip (aw_seq (aw_block (xr (xm Z Z Z (xm Z Z Z (xe (aw_region (xm Z Z Z ?_))))))))
      refine xm Z Z Z (xm Z Z Z (xa (.bool (decide (s720.t9 = 0))) Z (pu_int (v := .bool (decide (s720.t9 = 0))) Z Z (tm Z) (AEv.int _ _) Z) (xm Z Z Z ?_)))
      obtain ⟨r780, r780e, h⟩ := bind_some h
      refine xc Z (op_call (vs := [.rp rg t_, .bool (decide (s720.t9 = 0)), .i s775.t20]) (H := [(rg, .abs (regAbs s775.mem))]) Z call23 ⟨(tm Z), (tm Z), (tm Z), trivial⟩ (List.Perm.refl _) (dict.Table_int.Chain.ok r780e rg) ?_)
      rintro _ _ ⟨t781, rfl, rfl⟩
      obtain ⟨c782, h⟩ := need_of h
      refine xc Z (op_appendOM (q := 2) Z underlying35 underlying35 (.inl Z) typeInfo9 Z Z Z (by decide) (tm Z) Z (given_sl (tm Z)) c782 ?_)
      intro t783
      refine xm Z Z Z (xe (aw_region (xa (.i (IntKind.wrap .i64 (s775.t20 + 1))) Z (pu_int (v := .i (IntKind.wrap .i64 (s775.t20 + 1))) Z Z (tm Z) (AEv.int _ _) Z) (xm Z Z Z (xe ?_)))))
      obtain rfl := some_of h
      exact ⟨_, t783, Z, Weak.mkL [0, 2] (by decide) ⟨⟨_, Z, Z⟩, ⟨_, Z, Z⟩, trivial⟩ ⟨tm Z, (AEv.le (tm Z) vr), tm Z, tm Z, tm Z, (AEv.le (tm Z) vr), trivial⟩⟩
     ·replace h := ite_f (dec_f hb784) h
      refine aw_exit ?_
      obtain rfl := some_of h
      have h := congrArg some (hx777 _ rfl)
      obtain rfl := some_of h
      exact ⟨n776, Weak.mkL [0, 1] (by decide) ⟨⟨_, Z, Z⟩, ⟨_, Z, Z⟩, trivial⟩ ⟨tm Z, tm Z, tm Z, trivial⟩⟩
    ·intro n754
     have h := h755
     refine aw_region (xa (.i (IntKind.wrap .i64 (s720.t9 + 1))) Z (pu_int (v := .i (IntKind.wrap .i64 (s720.t9 + 1))) Z Z (tm Z) (AEv.int _ _) Z) (xm Z Z Z (xe ?_)))
     obtain rfl := some_of h
     exact ⟨_, n754, Z, Weak.mkL [0, 1] (by decide) ⟨⟨_, Z, Z⟩, ⟨_, Z, Z⟩, trivial⟩ ⟨tm Z, tm Z, (AEv.le (tm Z) vr), trivial⟩⟩
   ·replace h := ite_f (dec_f hb785) h
    refine aw_exit ?_
    obtain rfl := some_of h
    have h := congrArg some (hx722 _ rfl)
    obtain rfl := some_of h
    exact ⟨n721, Weak.mkL [1, 0] (by decide) ⟨⟨_, Z, Z⟩, ⟨_, Z, Z⟩, trivial⟩ ⟨tm Z, trivial⟩⟩
  ·intro n590
   have h := h591
   refine xr (xm Z Z Z (xm Z Z Z (xe (aw_ret ?_))))
   obtain rfl := some_of h
   exact ⟨[.sl (.own n590) 1 (s589.1.map AV.str)], _, [(rg, .abs (regAbs s589.2)), (n590, .spare)], ⟨(tm Z), trivial⟩, vr, Weak.mkL [1, 0] (by decide) ⟨⟨_, Z, Z⟩, ⟨_, Z, Z⟩, trivial⟩ trivial, ⟨n590, Z, Z⟩⟩

theorem mewslaw07.DictKeeps.ok {seed : Int} {l : List mewslaw07.Op} {key : List UInt8} {r : Bool} (h : mewslaw07.DictKeeps seed l key = some r) : Go.Lift.Spec prog 3 [.int .u64 seed, .sl .no 3 (l.map mewslaw07.Op.av), .str key] [] (fun v H => v = .bool r ∧ H = []) := by
 unfold mewslaw07.DictKeeps at h
 refine Go.Lift.Spec.of_body (rs := [.tmp 6]) func3 Z Z (nb Z) Z (aw_regNew fun rg => (xr (xa (.bool false) Z (pu_assign Z (AEv.bool _)) (xe (aw_seq ?_)))))
 obtain ⟨s900, s900e, h901⟩ := bind_some h
 refine aw_meet (ν := Unit) (fun v => [(0, .int .u64 seed), (1, .sl .no 3 (l.map mewslaw07.Op.av)), (2, .str key), (23, .bool s900)]) (fun v => [(rg, .abs (regAbs ([] : Reg)))]) ?_ ?_
 ·have h := s900e
  refine aw_region (xm Z Z Z ?_)
  obtain ⟨r903, r903e, h⟩ := bind_some h
  refine xc Z (op_call (vs := [.sl .no 3 (l.map mewslaw07.Op.av)]) (H := []) Z call10 ⟨(tm Z), trivial⟩ (List.Perm.refl _) (mewslaw07.far.ok r903e) ?_)
  rintro _ _ ⟨rfl, rfl⟩
  refine xm Z Z Z ?_
  rcases Bool.eq_false_or_eq_true r903 with hb904 | hb904
  ·replace h := ite_t hb904 h
   refine aops_known 19 Z hb904 (xn Z Z Z (xn Z Z Z (xn Z Z Z (xa (.bool true) Z (pu_pick (b := true) Z (tm Z) (fun _ => (AEv.bool _)) (fun h => nomatch h)) (xe ?_)))))
   obtain rfl := some_of h
   exact ⟨(), Weak.mkL [0] (by decide) ⟨⟨_, Z, Z⟩, trivial⟩ ⟨tm Z, tm Z, tm Z, tm Z, trivial⟩⟩
  ·replace h := ite_fb hb904 h
   refine aops_known 19 Z hb904 (xq Z Z Z Z (xp (.i (key.length : Int)) Z Z (pu_strLen Z underlying9 (tm Z)) (xp (.bool (decide (200 < (key.length : Int)))) Z Z (pu_int (v := .bool (decide (200 < (key.length : Int)))) Z Z (tm Z) (AEv.int _ _) Z) (xa (.bool (decide (200 < (key.length : Int)))) Z (pu_pick (b := false) Z (tm Z) (fun h => nomatch h) (fun _ => (tm Z))) (xe ?_)))))
   obtain rfl := some_of h
   exact ⟨(), Weak.mkL [0] (by decide) ⟨⟨_, Z, Z⟩, trivial⟩ ⟨tm Z, tm Z, tm Z, (AEv.le (tm Z) vr), trivial⟩⟩
 ·intro _
  have h := h901
  refine aw_cond (b := s900) (tm Z) (fun hb1794 => ?_) (fun hb1794 => ?_)
  ·replace h := ite_t hb1794 h
   refine aw_seq (aw_region ?_)
   obtain ⟨r905, r905e, h⟩ := bind_some h
   refine xc Z (op_call (vs := []) (H := []) Z call11 trivial (List.Perm.refl _) (mewslaw07.alive.ok r905e) ?_)
   rintro _ _ ⟨rfl, rfl⟩
   refine xm Z Z Z (xe (aw_ret ?_))
   obtain rfl := some_of h
   exact ⟨[.bool r905], _, [], ⟨(tm Z), trivial⟩, vr, Weak.mkL [] (by decide) trivial trivial, ⟨Z, Z⟩⟩
  ·replace h := ite_fb hb1794 h
   refine aw_skip (xr (xm Z Z Z ?_))
   obtain ⟨r906, r906e, h⟩ := bind_some h
   refine xc Z (op_call (vs := [.int .u64 seed]) (H := [(rg, .abs (regAbs ([] : Reg)))]) Z call12 ⟨(tm Z), trivial⟩ (List.Perm.refl _) (dict.New_int.ok r906e rg) ?_)
   rintro _ _ ⟨rfl, rfl⟩
   refine xm Z Z Z (xe (xr (xa (.bool false) Z (pu_assign Z (AEv.bool _)) (xa (.i 0) Z (pu_assign Z (AEv.int _ _)) (xe ?_)))))
   obtain ⟨s1793, s1793e, h1349⟩ := bind_some h
   refine aw_join (σ := Reg) (ν := Unit) (fun u v => []) (fun u v => [(rg, .abs (regAbs u))]) (fun u => s1793 = .inl u) ?_ ?_
   ·intro s1348
    intro _
    rintro rfl
    have h := onSum_inl h1349
    refine aw_seq (aw_region ?_)
    obtain ⟨r1792, r1792e, h⟩ := bind_some h
    refine xc Z (op_call (vs := []) (H := []) Z call11 trivial (List.Perm.refl _) (mewslaw07.alive.ok r1792e) ?_)
    rintro _ _ ⟨rfl, rfl⟩
    refine xm Z Z Z (xe (aw_ret ?_))
    obtain rfl := some_of h
    exact ⟨[.bool r1792], _, [], ⟨(tm Z), trivial⟩, vr, Weak.mkL [] (by decide) trivial trivial, ⟨Z, Z⟩⟩
   ·have h := s1793e
    refine xr (xm Z Z Z (xa (.i (l.length : Int)) Z (pu_lenM Z underlying23 (tm Z)) (xa (.i 0) Z (pu_move Z (AEv.int _ _)) (xe (aw_block (aw_while (σ := mewslaw07.DictKeeps.S0) (ν := Unit) (mewslaw07.DictKeeps.body0 l r906 key) (fun s1643 v => [(2, .str key), (7, .rp rg r906.1), (8, .bool s1643.has), (9, .i s1643.want), (27, .sl .no 3 (l.map mewslaw07.Op.av)), (28, .i (l.length : Int)), (29, .i s1643.t29)]) (fun s1643 v => [(rg, .abs (regAbs s1643.mem))]) ⟨false, 0, 0, r906.2⟩ () _ h (Weak.mkL [0] (by decide) ⟨⟨_, Z, Z⟩, trivial⟩ ⟨tm Z, tm Z, tm Z, tm Z, tm Z, tm Z, tm Z, trivial⟩) ?_))))))
    rintro s1643 _ x1645 h hx1644
    unfold mewslaw07.DictKeeps.body0 at h
    refine xr (xa (.bool (decide (s1643.t29 < (l.length : Int)))) Z (pu_int (v := .bool (decide (s1643.t29 < (l.length : Int)))) Z Z (tm Z) (tm Z) Z) (xe (aw_seq (aw_cond (b := decide (s1643.t29 < (l.length : Int))) (tm Z) (fun hb1791 => ?_) (fun hb1791 => ?_)))))
    ·replace h := ite_t (dec_t hb1791) h
     refine aw_skip (aw_seq (aw_block (aw_seq (aw_region ?_))))
     obtain ⟨c1647, h⟩ := need_of h
     refine xa (.vptr [.i (ix l s1643.t29).Kind, .str (ix l s1643.t29).Key, .i (ix l s1643.t29).V]) Z (pu_indexAddrM Z underlying23 sizeOf29 (tm Z) (tm Z) c1647 Z) (xc Z (op_loadVN Z isAgg29 sizeOf29 (tm Z) (nb Z) Z (xc Z (op_alloc (cs := [.i 0, .str ([] : List UInt8), .i 0]) (v := .agg [.i 0, .str ([] : List UInt8), .i 0]) Z zeroValue29 Z Z Z ?_))))
     intro p1648
     refine ac0 Z Z (op_store (i := 0) (cs' := [.i (ix l s1643.t29).Kind, .str (ix l s1643.t29).Key, .i (ix l s1643.t29).V]) Z sizeOf29 (tm Z) (v := .agg [.i (ix l s1643.t29).Kind, .str (ix l s1643.t29).Key, .i (ix l s1643.t29).V]) (tm Z) Z Z Z (nb Z) Z (xe ?_))
     obtain ⟨s1790, s1790e, h1676⟩ := bind_some h
     refine aw_join (σ := Bool × Int × Reg) (ν := Unit) (fun u v => [(2, .str key), (7, .rp rg r906.1), (8, .bool u.1), (9, .i u.2.1), (27, .sl .no 3 (l.map mewslaw07.Op.av)), (28, .i (l.length : Int)), (29, .i s1643.t29)]) (fun u v => [(rg, .abs (regAbs u.2.2))]) (fun u => s1790 = .inl u) ?_ ?_
     ·intro s1675
      intro _
      rintro rfl
      have h := onSum_inl h1676
      refine xr (xm Z Z Z (xm Z Z Z ?_))
      obtain ⟨r1704, r1704e, h⟩ := bind_some h
      refine xc Z (op_call (vs := [.rp rg r906.1, .str key]) (H := [(rg, .abs (regAbs s1675.2.2))]) Z call16 ⟨(tm Z), (tm Z), trivial⟩ (List.Perm.refl _) (dict.Table_int.Get.ok r1704e rg) ?_)
      rintro _ _ ⟨rfl, rfl⟩
      refine xm Z Z Z (xa (.i r1704.1) Z (pu_extract Z (tm Z) (nb Z) Z) (xa (.bool r1704.2) Z (pu_extract Z (tm Z) (nb Z) Z) (xm Z Z Z (xm Z Z Z (xe (xr (xa (.i 0) Z (pu_assign Z (AEv.int _ _)) (xe ?_))))))))
      obtain ⟨s1737, s1737e, h1738⟩ := bind_some h
      refine aw_meet (ν := Unit) (fun v => [(2, .str key), (7, .rp rg r906.1), (8, .bool s1675.1), (9, .i s1675.2.1), (12, .i r1704.1), (13, .bool r1704.2), (14, .i s1737.1), (27, .sl .no 3 (l.map mewslaw07.Op.av)), (28, .i (l.length : Int)), (29, .i s1643.t29)]) (fun v => [(rg, .abs (regAbs s1737.2))]) ?_ ?_
      ·have h := s1737e
       refine xr (xm Z Z Z ?_)
       obtain ⟨r1740, r1740e, h⟩ := bind_some h
       refine xc Z (op_call (vs := [.rp rg r906.1]) (H := [(rg, .abs (regAbs s1675.2.2))]) Z call17 ⟨(tm Z), trivial⟩ (List.Perm.refl _) (dict.Table_int.Keys.ok r1740e rg) ?_)
       rintro _ _ ⟨t1741, rfl, rfl⟩
       refine xa (.i (r1740.1.length : Int)) Z (pu_lenM Z underlying35 (tm Z)) (xa (.i 0) Z (pu_move Z (AEv.int _ _)) (xe (aw_block (aw_while (σ := mewslaw07.DictKeeps.S3) (ν := Unit) (mewslaw07.DictKeeps.body3 r1740 key) (fun s1760 v => [(2, .str key), (7, .rp rg r906.1), (8, .bool s1675.1), (9, .i s1675.2.1), (12, .i r1704.1), (13, .bool r1704.2), (14, .i s1760.n), (27, .sl .no 3 (l.map mewslaw07.Op.av)), (28, .i (l.length : Int)), (29, .i s1643.t29), (95, .sl (.own t1741) 1 (r1740.1.map AV.str)), (96, .i (r1740.1.length : Int)), (97, .i s1760.t97)]) (fun s1760 v => [(rg, .abs (regAbs r1740.2)), (t1741, .spare)]) ⟨0, 0⟩ () _ h (Weak.mkL [0, 1] (by decide) ⟨⟨_, Z, Z⟩, ⟨_, Z, Z⟩, trivial⟩ ⟨tm Z, tm Z, tm Z, tm Z, tm Z, tm Z, tm Z, tm Z, tm Z, tm Z, tm Z, tm Z, tm Z, trivial⟩) ?_))))
       rintro s1760 _ x1762 h hx1761
       unfold mewslaw07.DictKeeps.body3 at h
       refine xr (xa (.bool (decide (s1760.t97 < (r1740.1.length : Int)))) Z (pu_int (v := .bool (decide (s1760.t97 < (r1740.1.length : Int)))) Z Z (tm Z) (tm Z) Z) (xe (aw_seq (aw_cond (b := decide (s1760.t97 < (r1740.1.length : Int))) (tm Z) (fun hb1771 => ?_) (fun hb1771 => ?_)))))
       ·replace h := ite_t (dec_t hb1771) h
        refine aw_skip ?_
        obtain ⟨s1766, s1766e, h1767⟩ := bind_some h
        refine aw_meet (ν := Unit) (fun v => [(2, .str key), (7, .rp rg r906.1), (8, .bool s1675.1), (9, .i s1675.2.1), (12, .i r1704.1), (13, .bool r1704.2), (14, .i s1766), (27, .sl .no 3 (l.map mewslaw07.Op.av)), (28, .i (l.length : Int)), (29, .i s1643.t29), (95, .sl (.own t1741) 1 (r1740.1.map AV.str)), (96, .i (r1740.1.length : Int)), (97, .i s1760.t97)]) (fun v => [(rg, .abs (regAbs r1740.2)), (t1741, .spare)]) ?_ ?_
        ·have h := s1766e
         refine aw_block (aw_seq (aw_region ?_))
         obtain ⟨c1769, h⟩ := need_of h
         refine xa (.vptr [.str (ix r1740.1 s1760.t97)]) Z (pu_indexAddrM Z underlying35 sizeOf9 (tm Z) (tm Z) c1769 Z) (xc Z (op_loadV1 Z isAgg9 (tm Z) Z (xm Z Z Z (xe (xr (xm Z Z Z (xm Z Z Z (xa (.bool (decide ((ix r1740.1 s1760.t97) = key))) Z (pu_str (v := .bool (decide ((ix r1740.1 s1760.t97) = key))) Z Z (tm Z) (tm Z) Z) (xe ?_)))))))))
         refine aw_cond (b := decide ((ix r1740.1 s1760.t97) = key)) (tm Z) (fun hb1770 => ?_) (fun hb1770 => ?_)
         ·replace h := ite_t (dec_t hb1770) h
          refine aw_region (xm Z Z Z (xa (.i (IntKind.wrap .i64 (s1760.n + 1))) Z (pu_int (v := .i (IntKind.wrap .i64 (s1760.n + 1))) Z Z (tm Z) (AEv.int _ _) Z) (xm Z Z Z (xe ?_))))
          obtain rfl := some_of h
          exact ⟨(), Weak.mkL [0, 1] (by decide) ⟨⟨_, Z, Z⟩, ⟨_, Z, Z⟩, trivial⟩ ⟨tm Z, tm Z, tm Z, tm Z, tm Z, tm Z, (AEv.le (tm Z) vr), tm Z, tm Z, tm Z, tm Z, tm Z, tm Z, trivial⟩⟩
         ·replace h := ite_f (dec_f hb1770) h
          refine aw_skip ?_
          obtain rfl := some_of h
          exact ⟨(), Weak.mkL [0, 1] (by decide) ⟨⟨_, Z, Z⟩, ⟨_, Z, Z⟩, trivial⟩ ⟨tm Z, tm Z, tm Z, tm Z, tm Z, tm Z, tm Z, tm Z, tm Z, tm Z, tm Z, tm Z, tm Z, trivial⟩⟩
        ·intro _
         have h := h1767
         refine aw_region (xa (.i (IntKind.wrap .i64 (s1760.t97 + 1))) Z (pu_int (v := .i (IntKind.wrap .i64 (s1760.t97 + 1))) Z Z (tm Z) (AEv.int _ _) Z) (xm Z Z Z (xe ?_)))
         obtain rfl := some_of h
         exact ⟨_, (), Z, Weak.mkL [0, 1] (by decide) ⟨⟨_, Z, Z⟩, ⟨_, Z, Z⟩, trivial⟩ ⟨tm Z, tm Z, tm Z, tm Z, tm Z, tm Z, tm Z, tm Z, tm Z, tm Z, tm Z, tm Z, (AEv.le (tm Z) vr), trivial⟩⟩
       ·replace h := ite_f (dec_f hb1771) h
        refine aw_exit ?_
        obtain rfl := some_of h
        have h := congrArg some (hx1761 _ rfl)
        obtain rfl := some_of h
        exact ⟨(), Weak.mkL [0] (by decide) ⟨⟨_, Z, Z⟩, trivial⟩ ⟨tm Z, tm Z, tm Z, tm Z, tm Z, tm Z, tm Z, tm Z, tm Z, tm Z, trivial⟩⟩
      ·intro _
       have h := h1738
       obtain ⟨s1779, s1779e, h1780⟩ := bind_some h
       refine aw_meet (ν := Unit) (fun v => [(2, .str key), (7, .rp rg r906.1), (8, .bool s1675.1), (9, .i s1675.2.1), (27, .sl .no 3 (l.map mewslaw07.Op.av)), (28, .i (l.length : Int)), (29, .i s1643.t29), (132, .bool s1779.1)]) (fun v => [(rg, .abs (regAbs s1779.2))]) ?_ ?_
       ·have h := s1779e
        refine aw_region (xm Z Z Z (xm Z Z Z (xa (.bool (!decide (r1704.1 = s1675.2.1))) Z (pu_int (v := .bool (!decide (r1704.1 = s1675.2.1))) Z Z (tm Z) (tm Z) Z) (xm Z Z Z ?_))))
        rcases Bool.eq_false_or_eq_true (!decide (r1704.1 = s1675.2.1)) with hb1782 | hb1782
        ·replace h := ite_f (ndec_t hb1782) h
         refine aops_known 110 Z hb1782 (xn Z Z Z (xn Z Z Z (xn Z Z Z (xa (.bool true) Z (pu_pick (b := true) Z (tm Z) (fun _ => (AEv.bool _)) (fun h => nomatch h)) (xm Z Z Z (xn Z Z Z (xn Z Z Z (xn Z Z Z (xn Z Z Z ?_)))))))))
         refine xa (.bool true) Z (pu_pick (b := true) Z (tm Z) (fun _ => (AEv.bool _)) (fun h => nomatch h)) (xm Z Z Z (xn Z Z Z (xn Z Z Z (xa (.bool true) Z (pu_pick (b := true) Z (tm Z) (fun _ => (AEv.bool _)) (fun h => nomatch h)) (xm Z Z Z (xn Z Z Z (xn Z Z Z (xn Z Z Z (xn Z Z Z ?_)))))))))
         refine xn Z Z Z (xn Z Z Z (xa (.bool true) Z (pu_pick (b := true) Z (tm Z) (fun _ => (AEv.bool _)) (fun h => nomatch h)) (xe ?_)))
         obtain rfl := some_of h
         exact ⟨(), Weak.mkL [0] (by decide) ⟨⟨_, Z, Z⟩, trivial⟩ ⟨tm Z, tm Z, tm Z, tm Z, tm Z, tm Z, tm Z, tm Z, trivial⟩⟩
        ·replace h := ite_t (ndec_f hb1782) h
         refine aops_known 110 Z hb1782 (xq Z Z Z Z (xq Z Z Z Z (xp (.bool (!(r1704.2 == s1675.1))) Z Z (pu_boolNe Z underlying4 (tm Z) (tm Z)) (xa (.bool (!(r1704.2 == s1675.1))) Z (pu_pick (b := false) Z (tm Z) (fun h => nomatch h) (fun _ => (tm Z))) (xm Z Z Z ?_)))))
         rcases Bool.eq_false_or_eq_true (!(r1704.2 == s1675.1)) with hb1783 | hb1783
         ·replace h := ite_t hb1783 h
          refine aops_known 115 Z hb1783 (xn Z Z Z (xn Z Z Z (xn Z Z Z (xn Z Z Z (xa (.bool true) Z (pu_pick (b := true) Z (tm Z) (fun _ => (AEv.bool _)) (fun h => nomatch h)) (xm Z Z Z (xn Z Z Z (xn Z Z Z (xa (.bool true) Z (pu_pick (b := true) Z (tm Z) (fun _ => (AEv.bool _)) (fun h => nomatch h)) ?_)))))))))
          refine xm Z Z Z (xn Z Z Z (xn Z Z Z (xn Z Z Z (xn Z Z Z (xn Z Z Z (xn Z Z Z (xa (.bool true) Z (pu_pick (b := true) Z (tm Z) (fun _ => (AEv.bool _)) (fun h => nomatch h)) (xe ?_))))))))
          obtain rfl := some_of h
          exact ⟨(), Weak.mkL [0] (by decide) ⟨⟨_, Z, Z⟩, trivial⟩ ⟨tm Z, tm Z, tm Z, tm Z, tm Z, tm Z, tm Z, tm Z, trivial⟩⟩
         ·replace h := ite_fb hb1783 h
          refine aops_known 115 Z hb1783 (xq Z Z Z Z (xp (.bool (decide (s1737.1 = 1))) Z Z (pu_int (v := .bool (decide (s1737.1 = 1))) Z Z (tm Z) (AEv.int _ _) Z) (xq Z Z Z Z (xp (.bool (!((decide (s1737.1 = 1)) == s1675.1))) Z Z (pu_boolNe Z underlying4 (tm Z) (tm Z)) (xa (.bool (!((decide (s1737.1 = 1)) == s1675.1))) Z (pu_pick (b := false) Z (tm Z) (fun h => nomatch h) (fun _ => (tm Z))) (xm Z Z Z ?_))))))
          rcases Bool.eq_false_or_eq_true (!((decide (s1737.1 = 1)) == s1675.1)) with hb1784 | hb1784
          ·replace h := ite_t hb1784 h
           refine aops_known 121 Z hb1784 (xn Z Z Z (xn Z Z Z (xa (.bool true) Z (pu_pick (b := true) Z (tm Z) (fun _ => (AEv.bool _)) (fun h => nomatch h)) (xm Z Z Z (xn Z Z Z (xn Z Z Z (xn Z Z Z (xn Z Z Z (xn Z Z Z ?_)))))))))
           refine xn Z Z Z (xa (.bool true) Z (pu_pick (b := true) Z (tm Z) (fun _ => (AEv.bool _)) (fun h => nomatch h)) (xe ?_))
           obtain rfl := some_of h
           exact ⟨(), Weak.mkL [0] (by decide) ⟨⟨_, Z, Z⟩, trivial⟩ ⟨tm Z, tm Z, tm Z, tm Z, tm Z, tm Z, tm Z, tm Z, trivial⟩⟩
          ·replace h := ite_fb hb1784 h
           refine aops_known 121 Z hb1784 (xq Z Z Z Z (xp (.bool (decide (1 < s1737.1))) Z Z (pu_int (v := .bool (decide (1 < s1737.1))) Z Z (tm Z) (AEv.int _ _) Z) (xa (.bool (decide (1 < s1737.1))) Z (pu_pick (b := false) Z (tm Z) (fun h => nomatch h) (fun _ => (tm Z))) (xm Z Z Z ?_))))
           rcases Bool.eq_false_or_eq_true (decide (1 < s1737.1)) with hb1785 | hb1785
           ·replace h := ite_t (dec_t hb1785) h
            refine aops_known 125 Z hb1785 (xn Z Z Z (xn Z Z Z (xn Z Z Z (xn Z Z Z (xn Z Z Z (xn Z Z Z (xa (.bool true) Z (pu_pick (b := true) Z (tm Z) (fun _ => (AEv.bool _)) (fun h => nomatch h)) (xe ?_))))))))
            obtain rfl := some_of h
            exact ⟨(), Weak.mkL [0] (by decide) ⟨⟨_, Z, Z⟩, trivial⟩ ⟨tm Z, tm Z, tm Z, tm Z, tm Z, tm Z, tm Z, tm Z, trivial⟩⟩
           ·replace h := ite_f (dec_f hb1785) h
            refine aops_known 125 Z hb1785 (xq Z Z Z Z ?_)
            obtain ⟨r1786, r1786e, h⟩ := bind_some h
            refine xg Z Z (op_call (vs := [.rp rg r906.1]) (H := [(rg, .abs (regAbs s1737.2))]) Z call17 ⟨(tm Z), trivial⟩ (List.Perm.refl _) (dict.Table_int.Keys.ok r1786e rg) ?_)
            rintro _ _ ⟨t1787, rfl, rfl⟩
            refine xp (.i (r1786.1.length : Int)) Z Z (pu_lenM Z underlying35 (tm Z)) (xq Z Z Z Z ?_)
            obtain ⟨r1788, r1788e, h⟩ := bind_some h
            refine xg Z Z (op_call (vs := [.rp rg r906.1]) (H := [(rg, .abs (regAbs r1786.2))]) Z call18 ⟨(tm Z), trivial⟩ (List.Perm.refl _) (dict.Table_int.Len.ok r1788e rg) ?_)
            rintro _ _ ⟨rfl, rfl⟩
            refine xp (.bool (!decide ((r1786.1.length : Int) = r1788))) Z Z (pu_int (v := .bool (!decide ((r1786.1.length : Int) = r1788))) Z Z (tm Z) (tm Z) Z) (xa (.bool (!decide ((r1786.1.length : Int) = r1788))) Z (pu_pick (b := false) Z (tm Z) (fun h => nomatch h) (fun _ => (tm Z))) (xe ?_))
            obtain rfl := some_of h
            exact ⟨(), Weak.mkL [0] (by decide) ⟨⟨_, Z, Z⟩, trivial⟩ ⟨tm Z, tm Z, tm Z, tm Z, tm Z, tm Z, tm Z, tm Z, trivial⟩⟩
       ·intro _
        have h := h1780
        refine aw_cond (b := s1779.1) (tm Z) (fun hb1789 => ?_) (fun hb1789 => ?_)
        ·replace h := ite_t hb1789 h
         refine xr (xa (.bool false) Z (pu_assign Z (AEv.bool _)) (xe (aw_ret ?_)))
         obtain rfl := some_of h
         have h := congrArg some (hx1644 _ rfl)
         obtain rfl := some_of h
         have h := onSum_inr h1349
         obtain rfl := some_of h
         exact ⟨[.bool false], _, [], ⟨(tm Z), trivial⟩, vr, Weak.mkL [] (by decide) trivial trivial, ⟨Z, Z⟩⟩
        ·replace h := ite_fb hb1789 h
         refine aw_skip (aw_region (xa (.i (IntKind.wrap .i64 (s1643.t29 + 1))) Z (pu_int (v := .i (IntKind.wrap .i64 (s1643.t29 + 1))) Z Z (tm Z) (AEv.int _ _) Z) (xm Z Z Z (xe ?_))))
         obtain rfl := some_of h
         exact ⟨_, (), Z, Weak.mkL [0] (by decide) ⟨⟨_, Z, Z⟩, trivial⟩ ⟨tm Z, tm Z, tm Z, tm Z, tm Z, tm Z, (AEv.le (tm Z) vr), trivial⟩⟩
     ·have h := s1790e
      refine xr (xa (.ptr p1648 0) Z (fa Z underlying29 Z sizeOf3 Z Z Z) (xc Z (op_load1 (i := 0) Z isAgg3 (tm Z) Z Z (xe (aw_block (xr (xa (.bool (decide ((ix l s1643.t29).Kind = 0))) Z (pu_int (v := .bool (decide ((ix l s1643.t29).Kind = 0))) Z Z (tm Z) (AEv.int _ _) Z) (xm Z Z Z ?_))))))))
      refine xe (aw_cond (b := decide ((ix l s1643.t29).Kind = 0)) (tm Z) (fun hb1703 => ?_) (fun hb1703 => ?_))
      ·replace h := ite_t (dec_t hb1703) h
       refine aw_seq ?_
       obtain ⟨s1682, s1682e, h1683⟩ := bind_some h
       refine aw_meet (ν := Unit) (fun v => [(2, .str key), (7, .rp rg r906.1), (8, .bool s1643.has), (9, .i s1643.want), (11, .ptr p1648 0), (27, .sl .no 3 (l.map mewslaw07.Op.av)), (28, .i (l.length : Int)), (29, .i s1643.t29), (60, .bool s1682.1)]) (fun v => [(rg, .abs (regAbs s1682.2)), (p1648, .cells [.i (ix l s1643.t29).Kind, .str (ix l s1643.t29).Key, .i (ix l s1643.t29).V])]) ?_ ?_
       ·have h := s1682e
        obtain ⟨r1685, r1685e, h⟩ := bind_some h
        rcases Bool.eq_false_or_eq_true (decide ((ix l s1643.t29).Key = key)) with hb1686 | hb1686
        ·replace h := ite_t (dec_t hb1686) h
         rcases Bool.eq_false_or_eq_true (r1685.1 == s1643.has) with hb1687 | hb1687
         ·replace h := ite_t hb1687 h
          refine aw_planR (by decide +kernel) [[], [], [(0, 0, false)], [], [(0, 0, false)], [(1, 0, true)], [], [(0, 0, false)], [], [], [], [], [], [], [], [], [(0, 0, false)], [], [], []] [[], [5]] [[[(p1648, .cells [.i (ix l s1643.t29).Kind, .str (ix l s1643.t29).Key, .i (ix l s1643.t29).V])]], [[(rg, .abs (regAbs s1643.mem))], [(rg, .abs (regAbs r1685.2))]]] [.rp rg r906.1, .ptr p1648 1, .str (ix l s1643.t29).Key, .ptr p1648 2, .i (ix l s1643.t29).V, .bool r1685.1, .ptr p1648 1, .str (ix l s1643.t29).Key, .str key, .bool (decide ((ix l s1643.t29).Key = key)), .bool true, .bool s1643.has, .bool s1643.has, .bool (r1685.1 == s1643.has), .bool true, .ptr p1648 1, .str (ix l s1643.t29).Key, .str key, .bool (decide ((ix l s1643.t29).Key = key)), .bool (decide ((ix l s1643.t29).Key = key))] (by decide +kernel) Z Z ?_ ?_
          ·exact ⟨ym Z Z Z, yp Z (fa Z underlying29 Z sizeOf9 Z Z Z), stepg_plain Z (op_load1 (i := 0) Z isAgg9 (tm Z) Z Z ⟨Z, Z⟩), yp Z (fa Z underlying29 Z sizeOf3 Z Z Z), stepg_plain Z (op_load1 (i := 0) Z isAgg3 (tm Z) Z Z ⟨Z, Z⟩), stepg_plain Z (op_call (vs := [.rp rg r906.1, .str (ix l s1643.t29).Key, .i (ix l s1643.t29).V]) (H := [(rg, .abs (regAbs s1643.mem))]) Z call13 ⟨(tm Z), (tm Z), (tm Z), trivial⟩ (R := []) (List.Perm.refl _) (dict.Table_int.Put.ok r1685e rg) (by rintro _ _ ⟨rfl, rfl⟩; exact ⟨Z, Z⟩)), yp Z (fa Z underlying29 Z sizeOf9 Z Z Z), stepg_plain Z (op_load1 (i := 0) Z isAgg9 (tm Z) Z Z ⟨Z, Z⟩), ym Z Z Z, yp Z (pu_str (v := .bool (decide ((ix l s1643.t29).Key = key))) Z Z (tm Z) (tm Z) Z), AStepG.cast (ym Z Z Z) (congrArg AV.bool hb1686), yq Z Z (pu_move Z (tm Z)), yp Z (pu_pick (b := true) Z (tm Z) (fun _ => (tm Z)) (fun h => nomatch h)), yp Z (pu_boolEq Z underlying4 (tm Z) (tm Z)), AStepG.cast (ym Z Z Z) (congrArg AV.bool hb1687), yq Z Z (fa Z underlying29 Z sizeOf9 Z Z Z), yg Z Z (op_load1 (i := 0) Z isAgg9 (tm Z) Z Z ⟨Z, Z⟩), yq Z Z (pu_move Z (tm Z)), yq Z Z (pu_str (v := .bool (decide ((ix l s1643.t29).Key = key))) Z Z (tm Z) (tm Z) Z), yp Z (pu_pick (b := true) Z (tm Z) (fun _ => (tm Z)) (fun h => nomatch h)), trivial⟩
          obtain rfl := some_of h
          exact ⟨(), Weak.mkL [1, 0] (by decide) ⟨⟨_, Z, Z⟩, ⟨_, Z, cr, Z⟩, trivial⟩ ⟨tm Z, tm Z, tm Z, tm Z, tm Z, tm Z, tm Z, tm Z, (AEv.le (tm Z) vr), trivial⟩⟩
         ·replace h := ite_fb hb1687 h
          refine aw_planR (by decide +kernel) [[], [], [(0, 0, false)], [], [(0, 0, false)], [(1, 0, true)], [], [(0, 0, false)], [], [], [], [], [], [], [], [], [], [], [], []] [[], [5]] [[[(p1648, .cells [.i (ix l s1643.t29).Kind, .str (ix l s1643.t29).Key, .i (ix l s1643.t29).V])]], [[(rg, .abs (regAbs s1643.mem))], [(rg, .abs (regAbs r1685.2))]]] [.rp rg r906.1, .ptr p1648 1, .str (ix l s1643.t29).Key, .ptr p1648 2, .i (ix l s1643.t29).V, .bool r1685.1, .ptr p1648 1, .str (ix l s1643.t29).Key, .str key, .bool (decide ((ix l s1643.t29).Key = key)), .bool true, .bool s1643.has, .bool s1643.has, .bool (r1685.1 == s1643.has), .bool false, .lit undef, .lit undef, .lit undef, .lit undef, .bool false] (by decide +kernel) Z Z ?_ ?_
          ·exact ⟨ym Z Z Z, yp Z (fa Z underlying29 Z sizeOf9 Z Z Z), stepg_plain Z (op_load1 (i := 0) Z isAgg9 (tm Z) Z Z ⟨Z, Z⟩), yp Z (fa Z underlying29 Z sizeOf3 Z Z Z), stepg_plain Z (op_load1 (i := 0) Z isAgg3 (tm Z) Z Z ⟨Z, Z⟩), stepg_plain Z (op_call (vs := [.rp rg r906.1, .str (ix l s1643.t29).Key, .i (ix l s1643.t29).V]) (H := [(rg, .abs (regAbs s1643.mem))]) Z call13 ⟨(tm Z), (tm Z), (tm Z), trivial⟩ (R := []) (List.Perm.refl _) (dict.Table_int.Put.ok r1685e rg) (by rintro _ _ ⟨rfl, rfl⟩; exact ⟨Z, Z⟩)), yp Z (fa Z underlying29 Z sizeOf9 Z Z Z), stepg_plain Z (op_load1 (i := 0) Z isAgg9 (tm Z) Z Z ⟨Z, Z⟩), ym Z Z Z, yp Z (pu_str (v := .bool (decide ((ix l s1643.t29).Key = key))) Z Z (tm Z) (tm Z) Z), AStepG.cast (ym Z Z Z) (congrArg AV.bool hb1686), yq Z Z (pu_move Z (tm Z)), yp Z (pu_pick (b := true) Z (tm Z) (fun _ => (tm Z)) (fun h => nomatch h)), yp Z (pu_boolEq Z underlying4 (tm Z) (tm Z)), AStepG.cast (ym Z Z Z) (congrArg AV.bool hb1687), yx Z Z Z, yx Z Z Z, yx Z Z Z, yx Z Z Z, yp Z (pu_pick (b := false) Z (tm Z) (fun h => nomatch h) (fun _ => (AEv.bool _))), trivial⟩
          obtain rfl := some_of h
          exact ⟨(), Weak.mkL [1, 0] (by decide) ⟨⟨_, Z, Z⟩, ⟨_, Z, cr, Z⟩, trivial⟩ ⟨tm Z, tm Z, tm Z, tm Z, tm Z, tm Z, tm Z, tm Z, tm Z, trivial⟩⟩
        ·replace h := ite_f (dec_f hb1686) h
         rcases Bool.eq_false_or_eq_true (r1685.1 == false) with hb1688 | hb1688
         ·replace h := ite_t hb1688 h
          refine aw_planR (by decide +kernel) [[], [], [(0, 0, false)], [], [(0, 0, false)], [(1, 0, true)], [], [(0, 0, false)], [], [], [], [], [], [], [], [], [(0, 0, false)], [], [], []] [[], [5]] [[[(p1648, .cells [.i (ix l s1643.t29).Kind, .str (ix l s1643.t29).Key, .i (ix l s1643.t29).V])]], [[(rg, .abs (regAbs s1643.mem))], [(rg, .abs (regAbs r1685.2))]]] [.rp rg r906.1, .ptr p1648 1, .str (ix l s1643.t29).Key, .ptr p1648 2, .i (ix l s1643.t29).V, .bool r1685.1, .ptr p1648 1, .str (ix l s1643.t29).Key, .str key, .bool (decide ((ix l s1643.t29).Key = key)), .bool false, .lit undef, .bool false, .bool (r1685.1 == false), .bool true, .ptr p1648 1, .str (ix l s1643.t29).Key, .str key, .bool (decide ((ix l s1643.t29).Key = key)), .bool (decide ((ix l s1643.t29).Key = key))] (by decide +kernel) Z Z ?_ ?_
          ·exact ⟨ym Z Z Z, yp Z (fa Z underlying29 Z sizeOf9 Z Z Z), stepg_plain Z (op_load1 (i := 0) Z isAgg9 (tm Z) Z Z ⟨Z, Z⟩), yp Z (fa Z underlying29 Z sizeOf3 Z Z Z), stepg_plain Z (op_load1 (i := 0) Z isAgg3 (tm Z) Z Z ⟨Z, Z⟩), stepg_plain Z (op_call (vs := [.rp rg r906.1, .str (ix l s1643.t29).Key, .i (ix l s1643.t29).V]) (H := [(rg, .abs (regAbs s1643.mem))]) Z call13 ⟨(tm Z), (tm Z), (tm Z), trivial⟩ (R := []) (List.Perm.refl _) (dict.Table_int.Put.ok r1685e rg) (by rintro _ _ ⟨rfl, rfl⟩; exact ⟨Z, Z⟩)), yp Z (fa Z underlying29 Z sizeOf9 Z Z Z), stepg_plain Z (op_load1 (i := 0) Z isAgg9 (tm Z) Z Z ⟨Z, Z⟩), ym Z Z Z, yp Z (pu_str (v := .bool (decide ((ix l s1643.t29).Key = key))) Z Z (tm Z) (tm Z) Z), AStepG.cast (ym Z Z Z) (congrArg AV.bool hb1686), yx Z Z Z, yp Z (pu_pick (b := false) Z (tm Z) (fun h => nomatch h) (fun _ => (AEv.bool _))), yp Z (pu_boolEq Z underlying4 (tm Z) (tm Z)), AStepG.cast (ym Z Z Z) (congrArg AV.bool hb1688), yq Z Z (fa Z underlying29 Z sizeOf9 Z Z Z), yg Z Z (op_load1 (i := 0) Z isAgg9 (tm Z) Z Z ⟨Z, Z⟩), yq Z Z (pu_move Z (tm Z)), yq Z Z (pu_str (v := .bool (decide ((ix l s1643.t29).Key = key))) Z Z (tm Z) (tm Z) Z), yp Z (pu_pick (b := true) Z (tm Z) (fun _ => (tm Z)) (fun h => nomatch h)), trivial⟩
          obtain rfl := some_of h
          exact ⟨(), Weak.mkL [1, 0] (by decide) ⟨⟨_, Z, Z⟩, ⟨_, Z, cr, Z⟩, trivial⟩ ⟨tm Z, tm Z, tm Z, tm Z, tm Z, tm Z, tm Z, tm Z, (AEv.le (tm Z) vr), trivial⟩⟩
         ·replace h := ite_fb hb1688 h
          refine aw_planR (by decide +kernel) [[], [], [(0, 0, false)], [], [(0, 0, false)], [(1, 0, true)], [], [(0, 0, false)], [], [], [], [], [], [], [], [], [], [], [], []] [[], [5]] [[[(p1648, .cells [.i (ix l s1643.t29).Kind, .str (ix l s1643.t29).Key, .i (ix l s1643.t29).V])]], [[(rg, .abs (regAbs s1643.mem))], [(rg, .abs (regAbs r1685.2))]]] [.rp rg r906.1, .ptr p1648 1, .str (ix l s1643.t29).Key, .ptr p1648 2, .i (ix l s1643.t29).V, .bool r1685.1, .ptr p1648 1, .str (ix l s1643.t29).Key, .str key, .bool (decide ((ix l s1643.t29).Key = key)), .bool false, .lit undef, .bool false, .bool (r1685.1 == false), .bool false, .lit undef, .lit undef, .lit undef, .lit undef, .bool false] (by decide +kernel) Z Z ?_ ?_
          ·exact ⟨ym Z Z Z, yp Z (fa Z underlying29 Z sizeOf9 Z Z Z), stepg_plain Z (op_load1 (i := 0) Z isAgg9 (tm Z) Z Z ⟨Z, Z⟩), yp Z (fa Z underlying29 Z sizeOf3 Z Z Z), stepg_plain Z (op_load1 (i := 0) Z isAgg3 (tm Z) Z Z ⟨Z, Z⟩), stepg_plain Z (op_call (vs := [.rp rg r906.1, .str (ix l s1643.t29).Key, .i (ix l s1643.t29).V]) (H := [(rg, .abs (regAbs s1643.mem))]) Z call13 ⟨(tm Z), (tm Z), (tm Z), trivial⟩ (R := []) (List.Perm.refl _) (dict.Table_int.Put.ok r1685e rg) (by rintro _ _ ⟨rfl, rfl⟩; exact ⟨Z, Z⟩)), yp Z (fa Z underlying29 Z sizeOf9 Z Z Z), stepg_plain Z (op_load1 (i := 0) Z isAgg9 (tm Z) Z Z ⟨Z, Z⟩), ym Z Z Z, yp Z (pu_str (v := .bool (decide ((ix l s1643.t29).Key = key))) Z Z (tm Z) (tm Z) Z), AStepG.cast (ym Z Z Z) (congrArg AV.bool hb1686), yx Z Z Z, yp Z (pu_pick (b := false) Z (tm Z) (fun h => nomatch h) (fun _ => (AEv.bool _))), yp Z (pu_boolEq Z underlying4 (tm Z) (tm Z)), AStepG.cast (ym Z Z Z) (congrArg AV.bool hb1688), yx Z Z Z, yx Z Z Z, yx Z Z Z, yx Z Z Z, yp Z (pu_pick (b := false) Z (tm Z) (fun h => nomatch h) (fun _ => (AEv.bool _))), trivial⟩
          obtain rfl := some_of h
          exact ⟨(), Weak.mkL [1, 0] (by decide) ⟨⟨_, Z, Z⟩, ⟨_, Z, cr, Z⟩, trivial⟩ ⟨tm Z, tm Z, tm Z, tm Z, tm Z, tm Z, tm Z, tm Z, tm Z, trivial⟩⟩
       ·intro _
        have h := h1683
        refine aw_cond (b := s1682.1) (tm Z) (fun hb1690 => ?_) (fun hb1690 => ?_)
        ·replace h := ite_t hb1690 h
         refine xr (xa (.bool false) Z (pu_assign Z (AEv.bool _)) (xe (aw_ret ?_)))
         obtain rfl := some_of h
         have h := onSum_inr h1676
         obtain rfl := some_of h
         have h := congrArg some (hx1644 _ rfl)
         obtain rfl := some_of h
         have h := onSum_inr h1349
         obtain rfl := some_of h
         exact ⟨[.bool false], _, [], ⟨(tm Z), trivial⟩, vr, Weak.mkL [] (by decide) trivial trivial, ⟨Z, Z⟩⟩
        ·replace h := ite_fb hb1690 h
         refine aw_skip (xr (xa (.ptr p1648 1) Z (fa Z underlying29 Z sizeOf9 Z Z Z) (xc Z (op_load1 (i := 1) Z isAgg9 (tm Z) Z Z (xm Z Z Z (xa (.bool (decide ((ix l s1643.t29).Key = key))) Z (pu_str (v := .bool (decide ((ix l s1643.t29).Key = key))) Z Z (tm Z) (tm Z) Z) (xe (aw_cond (b := decide ((ix l s1643.t29).Key = key)) (tm Z) (fun hb1689 => ?_) (fun hb1689 => ?_)))))))))
         ·replace h := ite_t (dec_t hb1689) h
          refine aw_planR (by decide +kernel) [[], [(1, 0, false)], [], []] [[], []] [[[(rg, .abs (regAbs s1682.2))]], [[(p1648, .cells [.i (ix l s1643.t29).Kind, .str (ix l s1643.t29).Key, .i (ix l s1643.t29).V])]]] [.ptr p1648 2, .i (ix l s1643.t29).V, .bool true, .i (ix l s1643.t29).V] (by decide +kernel) Z Z ?_ ?_
          ·exact ⟨yp Z (fa Z underlying29 Z sizeOf3 Z Z Z), stepg_plain Z (op_load1 (i := 0) Z isAgg3 (tm Z) Z Z ⟨Z, Z⟩), yp Z (pu_assign Z (AEv.bool _)), ym Z Z Z, trivial⟩
          exact ⟨(true, (ix l s1643.t29).V, s1682.2), (), (some_of h).symm, Weak.mkL [0] (by decide) ⟨⟨_, Z, Z⟩, trivial⟩ ⟨tm Z, tm Z, tm Z, tm Z, tm Z, tm Z, tm Z, trivial⟩⟩
         ·replace h := ite_f (dec_f hb1689) h
          refine aw_skip ?_
          exact ⟨(s1643.has, s1643.want, s1682.2), (), (some_of h).symm, Weak.mkL [0] (by decide) ⟨⟨_, Z, Z⟩, trivial⟩ ⟨tm Z, tm Z, tm Z, tm Z, tm Z, tm Z, tm Z, trivial⟩⟩
      ·replace h := ite_f (dec_f hb1703) h
       refine xr (xa (.bool (decide ((ix l s1643.t29).Kind = 1))) Z (pu_int (v := .bool (decide ((ix l s1643.t29).Kind = 1))) Z Z (tm Z) (AEv.int _ _) Z) (xm Z Z Z (xe (aw_cond (b := decide ((ix l s1643.t29).Kind = 1)) (tm Z) (fun hb1702 => ?_) (fun hb1702 => ?_)))))
       ·replace h := ite_t (dec_t hb1702) h
        refine aw_seq ?_
        obtain ⟨s1693, s1693e, h1694⟩ := bind_some h
        refine aw_meet (ν := Unit) (fun v => [(2, .str key), (7, .rp rg r906.1), (8, .bool s1643.has), (9, .i s1643.want), (11, .ptr p1648 0), (27, .sl .no 3 (l.map mewslaw07.Op.av)), (28, .i (l.length : Int)), (29, .i s1643.t29), (79, .bool s1693.1)]) (fun v => [(rg, .abs (regAbs s1693.2)), (p1648, .cells [.i (ix l s1643.t29).Kind, .str (ix l s1643.t29).Key, .i (ix l s1643.t29).V])]) ?_ ?_
        ·have h := s1693e
         refine aw_region (xa (.ptr p1648 1) Z (fa Z underlying29 Z sizeOf9 Z Z Z) (xc Z (op_load1 (i := 0) Z isAgg9 (tm Z) Z Z (xm Z Z Z (xa (.bool (decide ((ix l s1643.t29).Key = key))) Z (pu_str (v := .bool (decide ((ix l s1643.t29).Key = key))) Z Z (tm Z) (tm Z) Z) (xm Z Z Z ?_))))))
         rcases Bool.eq_false_or_eq_true (decide ((ix l s1643.t29).Key = key)) with hb1696 | hb1696
         ·replace h := ite_t (dec_t hb1696) h
          refine aops_known 73 Z hb1696 (xq Z Z Z Z (xq Z Z Z Z ?_))
          obtain ⟨r1697, r1697e, h⟩ := bind_some h
          refine aops_weak (weak_pick [1, 0] (by decide) Z) (xg Z Z (op_call (vs := [.rp rg r906.1, .str key]) (H := [(rg, .abs (regAbs s1643.mem))]) Z call14 ⟨(tm Z), (tm Z), trivial⟩ (List.Perm.refl _) (dict.Table_int.Drop.ok r1697e rg) ?_))
          rintro _ _ ⟨rfl, rfl⟩
          refine xq Z Z Z Z (xp (.bool (!(r1697.1 == s1643.has))) Z Z (pu_boolNe Z underlying4 (tm Z) (tm Z)) (xa (.bool (!(r1697.1 == s1643.has))) Z (pu_pick (b := true) Z (tm Z) (fun _ => (tm Z)) (fun h => nomatch h)) (xe ?_)))
          obtain rfl := some_of h
          exact ⟨(), Weak.mkL [0, 1] (by decide) ⟨⟨_, Z, Z⟩, ⟨_, Z, cr, Z⟩, trivial⟩ ⟨tm Z, tm Z, tm Z, tm Z, tm Z, tm Z, tm Z, tm Z, tm Z, trivial⟩⟩
         ·replace h := ite_f (dec_f hb1696) h
          refine aops_known 73 Z hb1696 (xn Z Z Z (xn Z Z Z (xn Z Z Z (xn Z Z Z (xn Z Z Z (xa (.bool false) Z (pu_pick (b := false) Z (tm Z) (fun h => nomatch h) (fun _ => (AEv.bool _))) (xe ?_)))))))
          obtain rfl := some_of h
          exact ⟨(), Weak.mkL [1, 0] (by decide) ⟨⟨_, Z, Z⟩, ⟨_, Z, cr, Z⟩, trivial⟩ ⟨tm Z, tm Z, tm Z, tm Z, tm Z, tm Z, tm Z, tm Z, tm Z, trivial⟩⟩
        ·intro _
         have h := h1694
         refine aw_cond (b := s1693.1) (tm Z) (fun hb1700 => ?_) (fun hb1700 => ?_)
         ·replace h := ite_t hb1700 h
          refine xr (xa (.bool false) Z (pu_assign Z (AEv.bool _)) (xe (aw_ret ?_)))
          obtain rfl := some_of h
          have h := onSum_inr h1676
          obtain rfl := some_of h
          have h := congrArg some (hx1644 _ rfl)
          obtain rfl := some_of h
          have h := onSum_inr h1349
          obtain rfl := some_of h
          exact ⟨[.bool false], _, [], ⟨(tm Z), trivial⟩, vr, Weak.mkL [] (by decide) trivial trivial, ⟨Z, Z⟩⟩
         ·replace h := ite_fb hb1700 h
          refine aw_skip (xr (xa (.ptr p1648 1) Z (fa Z underlying29 Z sizeOf9 Z Z Z) (xc Z (op_load1 (i := 1) Z isAgg9 (tm Z) Z Z (xm Z Z Z (xa (.bool (decide ((ix l s1643.t29).Key = key))) Z (pu_str (v := .bool (decide ((ix l s1643.t29).Key = key))) Z Z (tm Z) (tm Z) Z) (xe (aw_cond (b := decide ((ix l s1643.t29).Key = key)) (tm Z) (fun hb1699 => ?_) (fun hb1699 => ?_)))))))))
          ·replace h := ite_t (dec_t hb1699) h
           refine aw_region (xa (.bool false) Z (pu_assign Z (AEv.bool _)) (xa (.i 0) Z (pu_assign Z (AEv.int _ _)) (xe ?_)))
           exact ⟨(false, 0, s1693.2), (), (some_of h).symm, Weak.mkL [0] (by decide) ⟨⟨_, Z, Z⟩, trivial⟩ ⟨tm Z, tm Z, tm Z, tm Z, tm Z, tm Z, tm Z, trivial⟩⟩
          ·replace h := ite_f (dec_f hb1699) h
           refine aw_region (xm Z Z Z (xa (.ptr p1648 1) Z (fa Z underlying29 Z sizeOf9 Z Z Z) (xc Z (op_load1 (i := 1) Z isAgg9 (tm Z) Z Z ?_))))
           obtain ⟨r1698, r1698e, h⟩ := bind_some h
           refine xc Z (op_call (vs := [.rp rg r906.1, .str (ix l s1643.t29).Key]) (H := [(rg, .abs (regAbs s1693.2))]) Z call14 ⟨(tm Z), (tm Z), trivial⟩ (List.Perm.refl _) (dict.Table_int.Drop.ok r1698e rg) ?_)
           rintro _ _ ⟨rfl, rfl⟩
           refine xe ?_
           exact ⟨(s1643.has, s1643.want, r1698.2), (), (some_of h).symm, Weak.mkL [0] (by decide) ⟨⟨_, Z, Z⟩, trivial⟩ ⟨tm Z, tm Z, tm Z, tm Z, tm Z, tm Z, tm Z, trivial⟩⟩
       ·replace h := ite_f (dec_f hb1702) h
        refine aw_region (xm Z Z Z (xa (.ptr p1648 2) Z (fa Z underlying29 Z sizeOf3 Z Z Z) (xc Z (op_load1 (i := 0) Z isAgg3 (tm Z) Z Z ?_))))
        obtain ⟨r1701, r1701e, h⟩ := bind_some h
        refine aops_weak (weak_pick [1, 0] (by decide) Z) (xc Z (op_call (vs := [.rp rg r906.1, .i (ix l s1643.t29).V]) (H := [(rg, .abs (regAbs s1643.mem))]) Z call15 ⟨(tm Z), (tm Z), trivial⟩ (List.Perm.refl _) (dict.Table_int.Step.ok r1701e rg) ?_))
        rintro _ _ ⟨rfl, rfl⟩
        refine xe ?_
        exact ⟨(s1643.has, s1643.want, r1701.2), (), (some_of h).symm, Weak.mkL [0] (by decide) ⟨⟨_, Z, Z⟩, trivial⟩ ⟨tm Z, tm Z, tm Z, tm Z, tm Z, tm Z, tm Z, trivial⟩⟩
    ·replace h := ite_f (dec_f hb1791) h
     refine aw_exit ?_
     obtain rfl := some_of h
     have h := congrArg some (hx1644 _ rfl)
     exact ⟨s1643.mem, (), (some_of h).symm, Weak.mkL [0] (by decide) ⟨⟨_, Z, Z⟩, trivial⟩ trivial⟩

theorem mewslaw07.DictSteps.ok {seed : Int} {l : List mewslaw07.Op} {r : Bool} (h : mewslaw07.DictSteps seed l = some r) : Go.Lift.Spec prog 4 [.int .u64 seed, .sl .no 3 (l.map mewslaw07.Op.av)] [] (fun v H => v = .bool r ∧ H = []) := by
 unfold mewslaw07.DictSteps at h
 refine Go.Lift.Spec.of_body (rs := [.tmp 4]) func4 Z Z (nb Z) Z (aw_regNew fun rg => (xr (xa (.bool false) Z (pu_assign Z (AEv.bool _)) (xe (aw_seq (xr (xm Z Z Z ?_)))))))
 obtain ⟨r319, r319e, h⟩ := bind_some h
 refine xc Z (op_call (vs := [.sl .no 3 (l.map mewslaw07.Op.av)]) (H := []) Z call10 ⟨(tm Z), trivial⟩ (List.Perm.refl _) (mewslaw07.far.ok r319e) ?_)
 rintro _ _ ⟨rfl, rfl⟩
 refine xe (aw_cond (b := r319) (tm Z) (fun hb636 => ?_) (fun hb636 => ?_))
 ·replace h := ite_t hb636 h
  refine aw_seq (aw_region ?_)
  obtain ⟨r320, r320e, h⟩ := bind_some h
  refine xc Z (op_call (vs := []) (H := []) Z call11 trivial (List.Perm.refl _) (mewslaw07.alive.ok r320e) ?_)
  rintro _ _ ⟨rfl, rfl⟩
  refine xm Z Z Z (xe (aw_ret ?_))
  obtain rfl := some_of h
  exact ⟨[.bool r320], _, [], ⟨(tm Z), trivial⟩, vr, Weak.mkL [] (by decide) trivial trivial, ⟨Z, Z⟩⟩
 ·replace h := ite_fb hb636 h
  refine aw_skip (xr (xm Z Z Z ?_))
  obtain ⟨r321, r321e, h⟩ := bind_some h
  refine xc Z (op_call (vs := [.int .u64 seed]) (H := [(rg, .abs (regAbs ([] : Reg)))]) Z call12 ⟨(tm Z), trivial⟩ (List.Perm.refl _) (dict.New_int.ok r321e rg) ?_)
  rintro _ _ ⟨rfl, rfl⟩
  refine xm Z Z Z (xa (.int .u64 (IntKind.wrap .u64 (seed + 1))) Z (pu_int (v := .int .u64 (IntKind.wrap .u64 (seed + 1))) Z Z (tm Z) (AEv.int _ _) Z) ?_)
  obtain ⟨r322, r322e, h⟩ := bind_some h
  refine xc Z (op_call (vs := [.int .u64 (IntKind.wrap .u64 (seed + 1))]) (H := [(rg, .abs (regAbs r321.2))]) Z call12 ⟨(tm Z), trivial⟩ (List.Perm.refl _) (dict.New_int.ok r322e rg) ?_)
  rintro _ _ ⟨rfl, rfl⟩
  refine xm Z Z Z (xm Z Z Z (xe ?_))
  obtain ⟨s635, s635e, h432⟩ := bind_some h
  refine aw_join (σ := Reg) (ν := Unit) (fun u v => [(5, .rp rg r321.1), (6, .rp rg r322.1)]) (fun u v => [(rg, .abs (regAbs u))]) (fun u => s635 = .inl u) ?_ ?_
  ·intro s431
   intro _
   rintro rfl
   have h := onSum_inl h432
   obtain ⟨s634, s634e, h587⟩ := bind_some h
   refine aw_join (σ := Reg) (ν := Unit) (fun u v => []) (fun u v => [(rg, .abs (regAbs u))]) (fun u => s634 = .inl u) ?_ ?_
   ·intro s586
    intro _
    rintro rfl
    have h := onSum_inl h587
    refine aw_seq (aw_region ?_)
    obtain ⟨r633, r633e, h⟩ := bind_some h
    refine xc Z (op_call (vs := []) (H := []) Z call11 trivial (List.Perm.refl _) (mewslaw07.alive.ok r633e) ?_)
    rintro _ _ ⟨rfl, rfl⟩
    refine xm Z Z Z (xe (aw_ret ?_))
    obtain rfl := some_of h
    exact ⟨[.bool r633], _, [], ⟨(tm Z), trivial⟩, vr, Weak.mkL [] (by decide) trivial trivial, ⟨Z, Z⟩⟩
   ·have h := s634e
    refine xr (xm Z Z Z ?_)
    obtain ⟨r589, r589e, h⟩ := bind_some h
    refine xc Z (op_call (vs := [.rp rg r321.1]) (H := [(rg, .abs (regAbs s431))]) Z call17 ⟨(tm Z), trivial⟩ (List.Perm.refl _) (dict.Table_int.Keys.ok r589e rg) ?_)
    rintro _ _ ⟨t590, rfl, rfl⟩
    refine xa (.i (r589.1.length : Int)) Z (pu_lenM Z underlying35 (tm Z)) (xa (.i 0) Z (pu_move Z (AEv.int _ _)) (xe (aw_block (aw_while (σ := mewslaw07.DictSteps.S2) (ν := Unit) (mewslaw07.DictSteps.body2 r589 r321 r322) (fun s617 v => [(5, .rp rg r321.1), (6, .rp rg r322.1), (68, .sl (.own t590) 1 (r589.1.map AV.str)), (69, .i (r589.1.length : Int)), (70, .i s617.t70)]) (fun s617 v => [(rg, .abs (regAbs r589.2)), (t590, .spare)]) ⟨0⟩ () _ h (Weak.mkL [0, 1] (by decide) ⟨⟨_, Z, Z⟩, ⟨_, Z, Z⟩, trivial⟩ ⟨tm Z, tm Z, tm Z, tm Z, tm Z, trivial⟩) ?_))))
    rintro s617 _ x619 h hx618
    unfold mewslaw07.DictSteps.body2 at h
    refine xr (xa (.bool (decide (s617.t70 < (r589.1.length : Int)))) Z (pu_int (v := .bool (decide (s617.t70 < (r589.1.length : Int)))) Z Z (tm Z) (tm Z) Z) (xe (aw_seq (aw_cond (b := decide (s617.t70 < (r589.1.length : Int))) (tm Z) (fun hb632 => ?_) (fun hb632 => ?_)))))
    ·replace h := ite_t (dec_t hb632) h
     refine aw_skip (aw_seq (aw_block (aw_seq (aw_region ?_))))
     obtain ⟨c621, h⟩ := need_of h
     refine xa (.vptr [.str (ix r589.1 s617.t70)]) Z (pu_indexAddrM Z underlying35 sizeOf9 (tm Z) (tm Z) c621 Z) (xc Z (op_loadV1 Z isAgg9 (tm Z) Z (xm Z Z Z (xe (xr (xm Z Z Z (xm Z Z Z ?_)))))))
     obtain ⟨r622, r622e, h⟩ := bind_some h
     refine xc Z (op_call (vs := [.rp rg r321.1, .str (ix r589.1 s617.t70)]) (H := [(rg, .abs (regAbs r589.2))]) Z call16 ⟨(tm Z), (tm Z), trivial⟩ (List.Perm.refl _) (dict.Table_int.Get.ok r622e rg) ?_)
     rintro _ _ ⟨rfl, rfl⟩
     refine xm Z Z Z (xa (.i r622.1) Z (pu_extract Z (tm Z) (nb Z) Z) (xa (.bool r622.2) Z (pu_extract Z (tm Z) (nb Z) Z) (xm Z Z Z (xm Z Z Z (xe (xr (xm Z Z Z (xm Z Z Z ?_))))))))
     obtain ⟨r623, r623e, h⟩ := bind_some h
     refine xc Z (op_call (vs := [.rp rg r322.1, .str (ix r589.1 s617.t70)]) (H := [(rg, .abs (regAbs r589.2))]) Z call16 ⟨(tm Z), (tm Z), trivial⟩ (List.Perm.refl _) (dict.Table_int.Get.ok r623e rg) ?_)
     rintro _ _ ⟨rfl, rfl⟩
     refine xm Z Z Z (xa (.i r623.1) Z (pu_extract Z (tm Z) (nb Z) Z) (xa (.bool r623.2) Z (pu_extract Z (tm Z) (nb Z) Z) (xm Z Z Z (xm Z Z Z (xe ?_)))))
     obtain ⟨s626, s626e, h627⟩ := letO_of h
     refine aw_meet (ν := Unit) (fun v => [(5, .rp rg r321.1), (6, .rp rg r322.1), (68, .sl (.own t590) 1 (r589.1.map AV.str)), (69, .i (r589.1.length : Int)), (70, .i s617.t70), (96, .bool s626)]) (fun v => [(rg, .abs (regAbs r589.2)), (t590, .spare)]) ?_ ?_
     ·have h := s626e.symm
      refine aw_region (xm Z Z Z (xm Z Z Z (xa (.bool (!decide (r622.1 = r623.1))) Z (pu_int (v := .bool (!decide (r622.1 = r623.1))) Z Z (tm Z) (tm Z) Z) (xm Z Z Z ?_))))
      rcases Bool.eq_false_or_eq_true (!decide (r622.1 = r623.1)) with hb629 | hb629
      ·replace h := ite_f (ndec_t hb629) h
       refine aops_known 89 Z hb629 (xn Z Z Z (xn Z Z Z (xa (.bool true) Z (pu_pick (b := true) Z (tm Z) (fun _ => (AEv.bool _)) (fun h => nomatch h)) (xm Z Z Z (xn Z Z Z (xn Z Z Z (xa (.bool true) Z (pu_pick (b := true) Z (tm Z) (fun _ => (AEv.bool _)) (fun h => nomatch h)) (xe ?_))))))))
       subst h
       exact ⟨(), Weak.mkL [0, 1] (by decide) ⟨⟨_, Z, Z⟩, ⟨_, Z, Z⟩, trivial⟩ ⟨tm Z, tm Z, tm Z, tm Z, tm Z, tm Z, trivial⟩⟩
      ·replace h := ite_t (ndec_f hb629) h
       refine aops_known 89 Z hb629 (xq Z Z Z Z (xp (.bool (!r622.2)) Z Z (pu_not Z (tm Z)) (xa (.bool (!r622.2)) Z (pu_pick (b := false) Z (tm Z) (fun h => nomatch h) (fun _ => (tm Z))) (xm Z Z Z ?_))))
       rcases Bool.eq_false_or_eq_true (!r622.2) with hb630 | hb630
       ·replace h := ite_t hb630 h
        refine aops_known 93 Z hb630 (xn Z Z Z (xn Z Z Z (xa (.bool true) Z (pu_pick (b := true) Z (tm Z) (fun _ => (AEv.bool _)) (fun h => nomatch h)) (xe ?_))))
        subst h
        exact ⟨(), Weak.mkL [0, 1] (by decide) ⟨⟨_, Z, Z⟩, ⟨_, Z, Z⟩, trivial⟩ ⟨tm Z, tm Z, tm Z, tm Z, tm Z, tm Z, trivial⟩⟩
       ·replace h := ite_fb hb630 h
        refine aops_known 93 Z hb630 (xq Z Z Z Z (xp (.bool (!r623.2)) Z Z (pu_not Z (tm Z)) (xa (.bool (!r623.2)) Z (pu_pick (b := false) Z (tm Z) (fun h => nomatch h) (fun _ => (tm Z))) (xe ?_))))
        subst h
        exact ⟨(), Weak.mkL [0, 1] (by decide) ⟨⟨_, Z, Z⟩, ⟨_, Z, Z⟩, trivial⟩ ⟨tm Z, tm Z, tm Z, tm Z, tm Z, tm Z, trivial⟩⟩
     ·intro _
      have h := h627
      refine aw_cond (b := s626) (tm Z) (fun hb631 => ?_) (fun hb631 => ?_)
      ·replace h := ite_t hb631 h
       refine xr (xa (.bool false) Z (pu_assign Z (AEv.bool _)) (xe (aw_ret ?_)))
       obtain rfl := some_of h
       have h := congrArg some (hx618 _ rfl)
       obtain rfl := some_of h
       have h := onSum_inr h587
       obtain rfl := some_of h
       exact ⟨[.bool false], _, [], ⟨(tm Z), trivial⟩, vr, Weak.mkL [] (by decide) trivial trivial, ⟨Z, Z⟩⟩
      ·replace h := ite_fb hb631 h
       refine aw_skip (aw_region (xa (.i (IntKind.wrap .i64 (s617.t70 + 1))) Z (pu_int (v := .i (IntKind.wrap .i64 (s617.t70 + 1))) Z Z (tm Z) (AEv.int _ _) Z) (xm Z Z Z (xe ?_))))
       obtain rfl := some_of h
       exact ⟨_, (), Z, Weak.mkL [0, 1] (by decide) ⟨⟨_, Z, Z⟩, ⟨_, Z, Z⟩, trivial⟩ ⟨tm Z, tm Z, tm Z, tm Z, (AEv.le (tm Z) vr), trivial⟩⟩
    ·replace h := ite_f (dec_f hb632) h
     refine aw_exit ?_
     obtain rfl := some_of h
     have h := congrArg some (hx618 _ rfl)
     exact ⟨r589.2, (), (some_of h).symm, Weak.mkL [0] (by decide) ⟨⟨_, Z, Z⟩, trivial⟩ trivial⟩
  ·have h := s635e
   refine xr (xm Z Z Z (xa (.i (l.length : Int)) Z (pu_lenM Z underlying23 (tm Z)) (xa (.i 0) Z (pu_move Z (AEv.int _ _)) (xe (aw_block (aw_while (σ := mewslaw07.DictSteps.S0) (ν := Unit) (mewslaw07.DictSteps.body0 l r321 r322) (fun s504 v => [(5, .rp rg r321.1), (6, .rp rg r322.1), (23, .sl .no 3 (l.map mewslaw07.Op.av)), (24, .i (l.length : Int)), (25, .i s504.t25)]) (fun s504 v => [(rg, .abs (regAbs s504.mem))]) ⟨0, r322.2⟩ () _ h (Weak.mkL [0] (by decide) ⟨⟨_, Z, Z⟩, trivial⟩ ⟨tm Z, tm Z, tm Z, tm Z, tm Z, trivial⟩) ?_))))))
   rintro s504 _ x506 h hx505
   unfold mewslaw07.DictSteps.body0 at h
   refine xr (xa (.bool (decide (s504.t25 < (l.length : Int)))) Z (pu_int (v := .bool (decide (s504.t25 < (l.length : Int)))) Z Z (tm Z) (tm Z) Z) (xe (aw_seq (aw_cond (b := decide (s504.t25 < (l.length : Int))) (tm Z) (fun hb541 => ?_) (fun hb541 => ?_)))))
   ·replace h := ite_t (dec_t hb541) h
    refine aw_skip (aw_seq (aw_block (aw_seq (aw_region ?_))))
    obtain ⟨c508, h⟩ := need_of h
    refine xa (.vptr [.i (ix l s504.t25).Kind, .str (ix l s504.t25).Key, .i (ix l s504.t25).V]) Z (pu_indexAddrM Z underlying23 sizeOf29 (tm Z) (tm Z) c508 Z) (xc Z (op_loadVN Z isAgg29 sizeOf29 (tm Z) (nb Z) Z (xc Z (op_alloc (cs := [.i 0, .str ([] : List UInt8), .i 0]) (v := .agg [.i 0, .str ([] : List UInt8), .i 0]) Z zeroValue29 Z Z Z ?_))))
    intro p509
    refine ac0 Z Z (op_store (i := 0) (cs' := [.i (ix l s504.t25).Kind, .str (ix l s504.t25).Key, .i (ix l s504.t25).V]) Z sizeOf29 (tm Z) (v := .agg [.i (ix l s504.t25).Kind, .str (ix l s504.t25).Key, .i (ix l s504.t25).V]) (tm Z) Z Z Z (nb Z) Z (xe ?_))
    obtain ⟨s540, s540e, h518⟩ := bind_some h
    refine aw_join (σ := Reg) (ν := Unit) (fun u v => [(5, .rp rg r321.1), (6, .rp rg r322.1), (23, .sl .no 3 (l.map mewslaw07.Op.av)), (24, .i (l.length : Int)), (25, .i s504.t25)]) (fun u v => [(rg, .abs (regAbs u))]) (fun u => s540 = .inl u) ?_ ?_
    ·intro s517
     intro _
     rintro rfl
     have h := onSum_inl h518
     refine xr (xm Z Z Z ?_)
     obtain ⟨r527, r527e, h⟩ := bind_some h
     refine xc Z (op_call (vs := [.rp rg r322.1, .i 1000]) (H := [(rg, .abs (regAbs s517))]) Z call15 ⟨(tm Z), (AEv.int _ _), trivial⟩ (List.Perm.refl _) (dict.Table_int.Step.ok r527e rg) ?_)
     rintro _ _ ⟨rfl, rfl⟩
     refine xe ?_
     obtain ⟨s532, s532e, h533⟩ := bind_some h
     refine aw_meet (ν := Unit) (fun v => [(5, .rp rg r321.1), (6, .rp rg r322.1), (23, .sl .no 3 (l.map mewslaw07.Op.av)), (24, .i (l.length : Int)), (25, .i s504.t25), (65, .bool s532)]) (fun v => [(rg, .abs (regAbs r527.2))]) ?_ ?_
     ·have h := s532e
      refine aw_region (xm Z Z Z ?_)
      obtain ⟨r535, r535e, h⟩ := bind_some h
      refine xc Z (op_call (vs := [.rp rg r321.1]) (H := [(rg, .abs (regAbs r527.2))]) Z call18 ⟨(tm Z), trivial⟩ (List.Perm.refl _) (dict.Table_int.Len.ok r535e rg) ?_)
      rintro _ _ ⟨rfl, rfl⟩
      refine xm Z Z Z ?_
      obtain ⟨r536, r536e, h⟩ := bind_some h
      refine xc Z (op_call (vs := [.rp rg r322.1]) (H := [(rg, .abs (regAbs r527.2))]) Z call18 ⟨(tm Z), trivial⟩ (List.Perm.refl _) (dict.Table_int.Len.ok r536e rg) ?_)
      rintro _ _ ⟨rfl, rfl⟩
      refine xa (.bool (!decide (r535 = r536))) Z (pu_int (v := .bool (!decide (r535 = r536))) Z Z (tm Z) (tm Z) Z) (xm Z Z Z ?_)
      rcases Bool.eq_false_or_eq_true (!decide (r535 = r536)) with hb537 | hb537
      ·replace h := ite_f (ndec_t hb537) h
       refine aops_known 61 Z hb537 (xn Z Z Z (xn Z Z Z (xn Z Z Z (xa (.bool true) Z (pu_pick (b := true) Z (tm Z) (fun _ => (AEv.bool _)) (fun h => nomatch h)) (xe ?_)))))
       obtain rfl := some_of h
       exact ⟨(), Weak.mkL [0] (by decide) ⟨⟨_, Z, Z⟩, trivial⟩ ⟨tm Z, tm Z, tm Z, tm Z, tm Z, tm Z, trivial⟩⟩
      ·replace h := ite_t (ndec_f hb537) h
       refine aops_known 61 Z hb537 (xq Z Z Z Z ?_)
       obtain ⟨r538, r538e, h⟩ := bind_some h
       refine xg Z Z (op_call (vs := [.rp rg r322.1]) (H := [(rg, .abs (regAbs r527.2))]) Z call19 ⟨(tm Z), trivial⟩ (List.Perm.refl _) (dict.Table_int.Moved.ok r538e rg) ?_)
       rintro _ _ ⟨rfl, rfl⟩
       refine xp (.bool (!decide (r538 = (-1)))) Z Z (pu_int (v := .bool (!decide (r538 = (-1)))) Z Z (tm Z) (AEv.int _ _) Z) (xa (.bool (!decide (r538 = (-1)))) Z (pu_pick (b := false) Z (tm Z) (fun h => nomatch h) (fun _ => (tm Z))) (xe ?_))
       obtain rfl := some_of h
       exact ⟨(), Weak.mkL [0] (by decide) ⟨⟨_, Z, Z⟩, trivial⟩ ⟨tm Z, tm Z, tm Z, tm Z, tm Z, tm Z, trivial⟩⟩
     ·intro _
      have h := h533
      refine aw_cond (b := s532) (tm Z) (fun hb539 => ?_) (fun hb539 => ?_)
      ·replace h := ite_t hb539 h
       refine xr (xa (.bool false) Z (pu_assign Z (AEv.bool _)) (xe (aw_ret ?_)))
       obtain rfl := some_of h
       have h := congrArg some (hx505 _ rfl)
       obtain rfl := some_of h
       have h := onSum_inr h432
       obtain rfl := some_of h
       exact ⟨[.bool false], _, [], ⟨(tm Z), trivial⟩, vr, Weak.mkL [] (by decide) trivial trivial, ⟨Z, Z⟩⟩
      ·replace h := ite_fb hb539 h
       refine aw_skip (aw_region (xa (.i (IntKind.wrap .i64 (s504.t25 + 1))) Z (pu_int (v := .i (IntKind.wrap .i64 (s504.t25 + 1))) Z Z (tm Z) (AEv.int _ _) Z) (xm Z Z Z (xe ?_))))
       obtain rfl := some_of h
       exact ⟨_, (), Z, Weak.mkL [0] (by decide) ⟨⟨_, Z, Z⟩, trivial⟩ ⟨tm Z, tm Z, tm Z, tm Z, (AEv.le (tm Z) vr), trivial⟩⟩
    ·have h := s540e
     refine xr (xa (.ptr p509 0) Z (fa Z underlying29 Z sizeOf3 Z Z Z) (xc Z (op_load1 (i := 0) Z isAgg3 (tm Z) Z Z (xa (.bool (decide ((ix l s504.t25).Kind = 1))) Z (pu_int (v := .bool (decide ((ix l s504.t25).Kind = 1))) Z Z (tm Z) (AEv.int _ _) Z) (xe (aw_cond (b := decide ((ix l s504.t25).Kind = 1)) (tm Z) (fun hb526 => ?_) (fun hb526 => ?_)))))))
     ·replace h := ite_t (dec_t hb526) h
      refine aw_seq ?_
      obtain ⟨r520, r520e, h⟩ := bind_some h
      obtain ⟨r521, r521e, h⟩ := bind_some h
      refine aw_planR (by decide +kernel) [[], [], [(0, 0, false)], [(1, 0, true)], [], [], [(0, 0, false)], [(1, 1, true)], []] [[], [3, 7]] [[[(p509, .cells [.i (ix l s504.t25).Kind, .str (ix l s504.t25).Key, .i (ix l s504.t25).V])]], [[(rg, .abs (regAbs s504.mem))], [(rg, .abs (regAbs r520.2))], [(rg, .abs (regAbs r521.2))]]] [.rp rg r321.1, .ptr p509 1, .str (ix l s504.t25).Key, .bool r520.1, .rp rg r322.1, .ptr p509 1, .str (ix l s504.t25).Key, .bool r521.1, .bool (!(r520.1 == r521.1))] (by decide +kernel) Z Z ?_ ?_
      ·exact ⟨ym Z Z Z, yp Z (fa Z underlying29 Z sizeOf9 Z Z Z), stepg_plain Z (op_load1 (i := 0) Z isAgg9 (tm Z) Z Z ⟨Z, Z⟩), stepg_plain Z (op_call (vs := [.rp rg r321.1, .str (ix l s504.t25).Key]) (H := [(rg, .abs (regAbs s504.mem))]) Z call14 ⟨(tm Z), (tm Z), trivial⟩ (R := []) (List.Perm.refl _) (dict.Table_int.Drop.ok r520e rg) (by rintro _ _ ⟨rfl, rfl⟩; exact ⟨Z, Z⟩)), ym Z Z Z, yp Z (fa Z underlying29 Z sizeOf9 Z Z Z), stepg_plain Z (op_load1 (i := 0) Z isAgg9 (tm Z) Z Z ⟨Z, Z⟩), stepg_plain Z (op_call (vs := [.rp rg r322.1, .str (ix l s504.t25).Key]) (H := [(rg, .abs (regAbs r520.2))]) Z call14 ⟨(tm Z), (tm Z), trivial⟩ (R := []) (List.Perm.refl _) (dict.Table_int.Drop.ok r521e rg) (by rintro _ _ ⟨rfl, rfl⟩; exact ⟨Z, Z⟩)), yp Z (pu_boolNe Z underlying4 (tm Z) (tm Z)), trivial⟩
      refine aw_cond (b := (!(r520.1 == r521.1))) (tm Z) (fun hb522 => ?_) (fun hb522 => ?_)
      ·replace h := ite_t hb522 h
       refine xr (xa (.bool false) Z (pu_assign Z (AEv.bool _)) (xe (aw_ret ?_)))
       obtain rfl := some_of h
       have h := onSum_inr h518
       obtain rfl := some_of h
       have h := congrArg some (hx505 _ rfl)
       obtain rfl := some_of h
       have h := onSum_inr h432
       obtain rfl := some_of h
       exact ⟨[.bool false], _, [], ⟨(tm Z), trivial⟩, vr, Weak.mkL [] (by decide) trivial trivial, ⟨Z, Z⟩⟩
      ·replace h := ite_fb hb522 h
       refine aw_skip ?_
       exact ⟨r521.2, (), (some_of h).symm, Weak.mkL [1] (by decide) ⟨⟨_, Z, Z⟩, trivial⟩ ⟨tm Z, tm Z, tm Z, tm Z, tm Z, trivial⟩⟩
     ·replace h := ite_f (dec_f hb526) h
      refine aw_seq ?_
      obtain ⟨r523, r523e, h⟩ := bind_some h
      obtain ⟨r524, r524e, h⟩ := bind_some h
      refine aw_planR (by decide +kernel) [[], [], [(0, 0, false)], [], [(0, 0, false)], [(1, 0, true)], [], [], [(0, 0, false)], [], [(0, 0, false)], [(1, 1, true)], []] [[], [5, 11]] [[[(p509, .cells [.i (ix l s504.t25).Kind, .str (ix l s504.t25).Key, .i (ix l s504.t25).V])]], [[(rg, .abs (regAbs s504.mem))], [(rg, .abs (regAbs r523.2))], [(rg, .abs (regAbs r524.2))]]] [.rp rg r321.1, .ptr p509 1, .str (ix l s504.t25).Key, .ptr p509 2, .i (ix l s504.t25).V, .bool r523.1, .rp rg r322.1, .ptr p509 1, .str (ix l s504.t25).Key, .ptr p509 2, .i (ix l s504.t25).V, .bool r524.1, .bool (!(r523.1 == r524.1))] (by decide +kernel) Z Z ?_ ?_
      ·exact ⟨ym Z Z Z, yp Z (fa Z underlying29 Z sizeOf9 Z Z Z), stepg_plain Z (op_load1 (i := 0) Z isAgg9 (tm Z) Z Z ⟨Z, Z⟩), yp Z (fa Z underlying29 Z sizeOf3 Z Z Z), stepg_plain Z (op_load1 (i := 0) Z isAgg3 (tm Z) Z Z ⟨Z, Z⟩), stepg_plain Z (op_call (vs := [.rp rg r321.1, .str (ix l s504.t25).Key, .i (ix l s504.t25).V]) (H := [(rg, .abs (regAbs s504.mem))]) Z call13 ⟨(tm Z), (tm Z), (tm Z), trivial⟩ (R := []) (List.Perm.refl _) (dict.Table_int.Put.ok r523e rg) (by rintro _ _ ⟨rfl, rfl⟩; exact ⟨Z, Z⟩)), ym Z Z Z, yp Z (fa Z underlying29 Z sizeOf9 Z Z Z), stepg_plain Z (op_load1 (i := 0) Z isAgg9 (tm Z) Z Z ⟨Z, Z⟩), yp Z (fa Z underlying29 Z sizeOf3 Z Z Z), stepg_plain Z (op_load1 (i := 0) Z isAgg3 (tm Z) Z Z ⟨Z, Z⟩), stepg_plain Z (op_call (vs := [.rp rg r322.1, .str (ix l s504.t25).Key, .i (ix l s504.t25).V]) (H := [(rg, .abs (regAbs r523.2))]) Z call13 ⟨(tm Z), (tm Z), (tm Z), trivial⟩ (R := []) (List.Perm.refl _) (dict.Table_int.Put.ok r524e rg) (by rintro _ _ ⟨rfl, rfl⟩; exact ⟨Z, Z⟩)), yp Z (pu_boolNe Z underlying4 (tm Z) (tm Z)), trivial⟩
      refine aw_cond (b := (!(r523.1 == r524.1))) (tm Z) (fun hb525 => ?_) (fun hb525 => ?_)
      ·replace h := ite_t hb525 h
       refine xr (xa (.bool false) Z (pu_assign Z (AEv.bool _)) (xe (aw_ret ?_)))
       obtain rfl := some_of h
       have h := onSum_inr h518
       obtain rfl := some_of h
       have h := congrArg some (hx505 _ rfl)
       obtain rfl := some_of h
       have h := onSum_inr h432
       obtain rfl := some_of h
       exact ⟨[.bool false], _, [], ⟨(tm Z), trivial⟩, vr, Weak.mkL [] (by decide) trivial trivial, ⟨Z, Z⟩⟩
      ·replace h := ite_fb hb525 h
       refine aw_skip ?_
       exact ⟨r524.2, (), (some_of h).symm, Weak.mkL [1] (by decide) ⟨⟨_, Z, Z⟩, trivial⟩ ⟨tm Z, tm Z, tm Z, tm Z, tm Z, trivial⟩⟩
   ·replace h := ite_f (dec_f hb541) h
    refine aw_exit ?_
    obtain rfl := some_of h
    have h := congrArg some (hx505 _ rfl)
    exact ⟨s504.mem, (), (some_of h).symm, Weak.mkL [0] (by decide) ⟨⟨_, Z, Z⟩, trivial⟩ ⟨tm Z, tm Z, trivial⟩⟩

theorem dict.Table_int.Clear.ok {t_ : RP} {mem : Reg} {r : Reg} (h : dict.Table_int.Clear t_ mem = some r) (rg : Nat) : Go.Lift.Spec prog 20 [.rp rg t_] [(rg, .abs (regAbs mem))] (fun v H => v = .tup [] ∧ H = [(rg, .abs (regAbs r))]) := by
 unfold dict.Table_int.Clear at h
 refine Go.Lift.Spec.of_body (rs := []) func20 Z Z (nb Z) Z (aw_upd (xr (xm Z Z Z (xa (.bool t_.isSome) Z (pu_regNotNil Z underlying26 (tm Z) AEv.nilp) (xe (aw_cond (b := t_.isSome) (tm Z) (fun hb28 => ?_) (fun hb28 => ?_)))))))
 ·replace h := ite_t hb28 h
  refine aw_region (xm Z Z Z (xm Z Z Z ?_))
  obtain ⟨c15, h⟩ := need_of h
  refine xa (.rp rg t_) Z (pu_regCheck Z (tm Z) c15) (xa (.rp rg (rpAdd t_ 0)) Z (pu_regField Z underlying46 Z sizeOf22 (by decide) (tm Z) c15 Z) ?_)
  obtain ⟨r16, r16e, h⟩ := bind_some h
  refine xc Z (op_regLoad (i := 0) (av := .int .u64 r16) Z isAgg22 (tm Z) Z (rLdI_eq r16e) Z ?_)
  obtain ⟨r17, r17e, h⟩ := bind_some h
  refine xc Z (op_call (vs := [.int .u64 r16]) (H := [(rg, .abs (regAbs mem))]) Z call12 ⟨(tm Z), trivial⟩ (List.Perm.refl _) (dict.New_int.ok r17e rg) ?_)
  rintro _ _ ⟨rfl, rfl⟩
  obtain ⟨c18, h⟩ := need_of h
  refine xa (.rp rg r17.1) Z (pu_regCheck Z (tm Z) c18) ?_
  obtain ⟨r19, r19e, h⟩ := bind_some h
  obtain ⟨r20, r20e, h⟩ := bind_some h
  obtain ⟨r21, r21e, h⟩ := bind_some h
  obtain ⟨r22, r22e, h⟩ := bind_some h
  obtain ⟨r23, r23e, h⟩ := bind_some h
  obtain ⟨r24, r24e, h⟩ := bind_some h
  obtain ⟨r25, r25e, h⟩ := bind_some h
  obtain ⟨r26, r26e, h⟩ := bind_some h
  refine xc Z (op_regLoadN (i := 0) (vs := [.it .u64 r19, .it .i64 r20, .sc r21, .it .i64 r22, .sc r23, .it .i64 r24, .bo r25, .it .i64 r26]) (avs := [.int .u64 r19, .i r20, .rs rg r21, .i r22, .rs rg r23, .i r24, .bool r25, .i r26]) Z isAgg46 sizeOf46 (tm Z) Z ⟨rLdI_eq r19e, rLdI_eq r20e, rLdL_eq r21e, rLdI_eq r22e, rLdL_eq r23e, rLdI_eq r24e, rLdB_eq r25e, rLdI_eq r26e, trivial⟩ Z (by decide) Z (xa (.rp rg t_) Z (pu_regCheck Z (tm Z) c15) ?_))
  obtain ⟨r27, r27e, h⟩ := bind_some h
  refine ac0 Z Z (op_regStore (i := 0) [.it .u64 r19, .it .i64 r20, .sc r21, .it .i64 r22, .sc r23, .it .i64 r24, .bo r25, .it .i64 r26] Z sizeOf46 (tm Z) (v := .agg [.int .u64 r19, .i r20, .rs rg r21, .i r22, .rs rg r23, .i r24, .bool r25, .i r26]) (tm Z) Z Z Z r27e (xe (upd_done ?_)))
  obtain rfl := some_of h
  exact ⟨[], _, [(rg, .abs (regAbs r27))], trivial, vr, Weak.mkL [0] (by decide) ⟨⟨_, Z, Z⟩, trivial⟩ trivial, ⟨Z, Z⟩⟩
 ·replace h := ite_fb hb28 h
  refine aw_skip (upd_done ?_)
  obtain rfl := some_of h
  exact ⟨[], _, [(rg, .abs (regAbs mem))], trivial, vr, Weak.mkL [0] (by decide) ⟨⟨_, Z, Z⟩, trivial⟩ trivial, ⟨Z, Z⟩⟩

theorem dict.Table_int.Toward.ok {t_ : RP} {mem : Reg} {r : Int} (h : dict.Table_int.Toward t_ mem = some r) (rg : Nat) : Go.Lift.Spec prog 22 [.rp rg t_] [(rg, .abs (regAbs mem))] (fun v H => v = .i r ∧ H = [(rg, .abs (regAbs mem))]) := by
 unfold dict.Table_int.Toward at h
 refine Go.Lift.Spec.of_body (rs := [.tmp 2]) func22 Z Z (nb Z) Z (xr (xa (.i 0) Z (pu_assign Z (AEv.int _ _)) (xe (aw_seq ?_))))
 obtain ⟨s19, s19e, h20⟩ := bind_some h
 refine aw_meet (ν := Unit) (fun v => [(0, .rp rg t_), (11, .bool s19)]) (fun v => [(rg, .abs (regAbs mem))]) ?_ ?_
 ·have h := s19e
  refine aw_region (xm Z Z Z (xa (.bool t_.isNone) Z (pu_regNil Z underlying26 (tm Z) AEv.nilp) (xm Z Z Z ?_)))
  rcases Bool.eq_false_or_eq_true t_.isNone with hb22 | hb22
  ·replace h := ite_t hb22 h
   refine aops_known 5 Z hb22 (xn Z Z Z (xn Z Z Z (xn Z Z Z (xn Z Z Z (xn Z Z Z (xa (.bool true) Z (pu_pick (b := true) Z (tm Z) (fun _ => (AEv.bool _)) (fun h => nomatch h)) (xe ?_)))))))
   obtain rfl := some_of h
   exact ⟨(), Weak.mkL [0] (by decide) ⟨⟨_, Z, Z⟩, trivial⟩ ⟨tm Z, tm Z, trivial⟩⟩
  ·replace h := ite_fb hb22 h
   refine aops_known 5 Z hb22 (xq Z Z Z Z ?_)
   obtain ⟨c23, h⟩ := need_of h
   refine xp (.rp rg t_) Z Z (pu_regCheck Z (tm Z) c23) (xp (.rp rg (rpAdd t_ 6)) Z Z (pu_regField Z underlying46 Z sizeOf4 (by decide) (tm Z) c23 Z) ?_)
   obtain ⟨r24, r24e, h⟩ := bind_some h
   refine xg Z Z (op_regLoad (i := 0) (av := .bool r24) Z isAgg4 (tm Z) Z (rLdB_eq r24e) Z (xp (.bool (!r24)) Z Z (pu_not Z (tm Z)) (xa (.bool (!r24)) Z (pu_pick (b := false) Z (tm Z) (fun h => nomatch h) (fun _ => (tm Z))) (xe ?_))))
   obtain rfl := some_of h
   exact ⟨(), Weak.mkL [0] (by decide) ⟨⟨_, Z, Z⟩, trivial⟩ ⟨tm Z, tm Z, trivial⟩⟩
 ·intro _
  have h := h20
  refine aw_cond (b := s19) (tm Z) (fun hb30 => ?_) (fun hb30 => ?_)
  ·replace h := ite_t hb30 h
   refine xr (xa (.i (-1)) Z (pu_assign Z (AEv.int _ _)) (xe (aw_ret ?_)))
   obtain rfl := some_of h
   exact ⟨[.i (-1)], _, [(rg, .abs (regAbs mem))], ⟨(tm Z), trivial⟩, vr, Weak.mkL [0] (by decide) ⟨⟨_, Z, Z⟩, trivial⟩ trivial, ⟨Z, Z⟩⟩
  ·replace h := ite_fb hb30 h
   refine aw_skip (xr (xm Z Z Z ?_))
   obtain ⟨c25, h⟩ := need_of h
   refine xa (.rp rg t_) Z (pu_regCheck Z (tm Z) c25) (xa (.rp rg (rpAdd t_ 1)) Z (pu_regField Z underlying46 Z sizeOf44 (by decide) (tm Z) c25 Z) ?_)
   obtain ⟨c26, h⟩ := need_of h
   obtain ⟨c27, h⟩ := need_of h
   refine xa (.rp rg (rpAdd (rpAdd t_ 1) 2)) Z (pu_regIndexA Z underlying44 sizeOf43 (tm Z) (AEv.int _ _) c26 c27) ?_
   obtain ⟨c28, h⟩ := need_of h
   refine xa (.rp rg (rpAdd (rpAdd (rpAdd t_ 1) 2) 0)) Z (pu_regField Z underlying43 Z sizeOf3 (by decide) (tm Z) c28 Z) ?_
   obtain ⟨r29, r29e, h⟩ := bind_some h
   refine xc Z (op_regLoad (i := 0) (av := .i r29) Z isAgg3 (tm Z) Z (rLdI_eq r29e) Z (xm Z Z Z (xe (aw_ret ?_))))
   obtain rfl := some_of h
   exact ⟨[.i r29], _, [(rg, .abs (regAbs mem))], ⟨(tm Z), trivial⟩, vr, Weak.mkL [0] (by decide) ⟨⟨_, Z, Z⟩, trivial⟩ trivial, ⟨Z, Z⟩⟩

theorem mewsref02.Same.ok {a : List (List UInt8)} {b : List (List UInt8)} {r : Bool} (h : mewsref02.Same a b = some r) : Go.Lift.Spec prog 24 [.sl .no 1 (a.map AV.str), .sl .no 1 (b.map AV.str)] [] (fun v H => v = .bool r ∧ H = []) := by
 unfold mewsref02.Same at h
 refine Go.Lift.Spec.of_body (rs := [.tmp 4]) func24 Z Z (nb Z) Z (xr (xa (.bool false) Z (pu_assign Z (AEv.bool _)) (xe (aw_seq (xr (xm Z Z Z (xa (.i (a.length : Int)) Z (pu_lenM Z underlying35 (tm Z)) ?_)))))))
 refine xm Z Z Z (xa (.i (b.length : Int)) Z (pu_lenM Z underlying35 (tm Z)) (xa (.bool (!decide ((a.length : Int) = (b.length : Int)))) Z (pu_int (v := .bool (!decide ((a.length : Int) = (b.length : Int)))) Z Z (tm Z) (tm Z) Z) (xe (aw_cond (b := (!decide ((a.length : Int) = (b.length : Int)))) (tm Z) (fun hb82 => ?_) (fun hb82 => ?_)))))
 ·replace h := ite_f (ndec_t hb82) h
  refine xr (xa (.bool false) Z (pu_assign Z (AEv.bool _)) (xe (aw_ret ?_)))
  obtain rfl := some_of h
  exact ⟨[.bool false], _, [], ⟨(tm Z), trivial⟩, vr, Weak.mkL [] (by decide) trivial trivial, ⟨Z, Z⟩⟩
 ·replace h := ite_t (ndec_f hb82) h
  refine aw_skip ?_
  obtain ⟨s81, s81e, h61⟩ := bind_some h
  refine aw_join (σ := Unit) (ν := Unit) (fun u v => []) (fun u v => []) (fun u => s81 = .inl u) ?_ ?_
  ·intro s60
   intro _
   rintro rfl
   have h := onSum_inl h61
   refine xr (xa (.bool true) Z (pu_assign Z (AEv.bool _)) (xe (aw_ret ?_)))
   obtain rfl := some_of h
   exact ⟨[.bool true], _, [], ⟨(tm Z), trivial⟩, vr, Weak.mkL [] (by decide) trivial trivial, ⟨Z, Z⟩⟩
  ·have h := s81e
   refine xr (xa (.i 0) Z (pu_assign Z (AEv.int _ _)) (xe (aw_block (aw_while (σ := mewsref02.Same.S0) (ν := Unit) (mewsref02.Same.body0 a b) (fun s73 v => [(0, .sl .no 1 (a.map AV.str)), (1, .sl .no 1 (b.map AV.str)), (5, .i s73.i)]) (fun s73 v => []) ⟨0⟩ () _ h (Weak.mkL [] (by decide) trivial ⟨tm Z, tm Z, tm Z, trivial⟩) ?_))))
   rintro s73 _ x75 h hx74
   unfold mewsref02.Same.body0 at h
   refine aw_seq (xr (xm Z Z Z (xm Z Z Z (xa (.i (a.length : Int)) Z (pu_lenM Z underlying35 (tm Z)) (xa (.bool (decide (s73.i < (a.length : Int)))) Z (pu_int (v := .bool (decide (s73.i < (a.length : Int)))) Z Z (tm Z) (tm Z) Z) (xe (aw_cond (b := decide (s73.i < (a.length : Int))) (tm Z) (fun hb80 => ?_) (fun hb80 => ?_))))))))
   ·replace h := ite_t (dec_t hb80) h
    refine aw_skip (aw_seq (aw_block (aw_seq ?_)))
    obtain ⟨c77, h⟩ := need_of h
    obtain ⟨c78, h⟩ := need_of h
    refine aw_planR (by decide +kernel) [[], [], [], [], [], [], [], [], []] [] [] [.sl .no 1 (a.map AV.str), .i s73.i, .vptr [.str (ix a s73.i)], .str (ix a s73.i), .sl .no 1 (b.map AV.str), .i s73.i, .vptr [.str (ix b s73.i)], .str (ix b s73.i), .bool (!decide ((ix a s73.i) = (ix b s73.i)))] (by decide +kernel) Z Z ?_ ?_
    ·exact ⟨ym Z Z Z, ym Z Z Z, yp Z (pu_indexAddrM Z underlying35 sizeOf9 (tm Z) (tm Z) c77 Z), stepg_plain Z (op_loadV1 Z isAgg9 (tm Z) Z ⟨Z, Z⟩), ym Z Z Z, ym Z Z Z, yp Z (pu_indexAddrM Z underlying35 sizeOf9 (tm Z) (tm Z) c78 Z), stepg_plain Z (op_loadV1 Z isAgg9 (tm Z) Z ⟨Z, Z⟩), yp Z (pu_str (v := .bool (!decide ((ix a s73.i) = (ix b s73.i)))) Z Z (tm Z) (tm Z) Z), trivial⟩
    refine aw_cond (b := (!decide ((ix a s73.i) = (ix b s73.i)))) (tm Z) (fun hb79 => ?_) (fun hb79 => ?_)
    ·replace h := ite_f (ndec_t hb79) h
     refine xr (xa (.bool false) Z (pu_assign Z (AEv.bool _)) (xe (aw_ret ?_)))
     obtain rfl := some_of h
     have h := congrArg some (hx74 _ rfl)
     obtain rfl := some_of h
     have h := onSum_inr h61
     obtain rfl := some_of h
     exact ⟨[.bool false], _, [], ⟨(tm Z), trivial⟩, vr, Weak.mkL [] (by decide) trivial trivial, ⟨Z, Z⟩⟩
    ·replace h := ite_t (ndec_f hb79) h
     refine aw_skip (aw_region (xm Z Z Z (xa (.i (IntKind.wrap .i64 (s73.i + 1))) Z (pu_int (v := .i (IntKind.wrap .i64 (s73.i + 1))) Z Z (tm Z) (AEv.int _ _) Z) (xm Z Z Z (xe ?_)))))
     obtain rfl := some_of h
     exact ⟨_, (), Z, Weak.mkL [] (by decide) trivial ⟨tm Z, tm Z, (AEv.le (tm Z) vr), trivial⟩⟩
   ·replace h := ite_f (dec_f hb80) h
    refine aw_exit ?_
    obtain rfl := some_of h
    have h := congrArg some (hx74 _ rfl)
    exact ⟨(), (), (some_of h).symm, Weak.mkL [] (by decide) trivial trivial⟩

theorem mewslaw07.DictNobody.ok {key : List UInt8} {v_ : Int} {n_ : Int} {r : Bool} (h : mewslaw07.DictNobody key v_ n_ = some r) : Go.Lift.Spec prog 5 [.str key, .i v_, .i n_] [] (fun v H => v = .bool r ∧ H = []) := by
 unfold mewslaw07.DictNobody at h
 refine Go.Lift.Spec.of_body (rs := [.tmp 6]) func5 Z Z (nb Z) Z (aw_regNew fun rg => (xr (xa (.bool false) Z (pu_assign Z (AEv.bool _)) (xe (aw_seq (xr (xm Z Z Z ?_)))))))
 refine xa (.i (key.length : Int)) Z (pu_strLen Z underlying9 (tm Z)) (xa (.bool (decide (200 < (key.length : Int)))) Z (pu_int (v := .bool (decide (200 < (key.length : Int)))) Z Z (tm Z) (AEv.int _ _) Z) (xe (aw_cond (b := decide (200 < (key.length : Int))) (tm Z) (fun hb208 => ?_) (fun hb208 => ?_))))
 ·replace h := ite_t (dec_t hb208) h
  refine aw_seq (aw_region ?_)
  obtain ⟨r105, r105e, h⟩ := bind_some h
  refine xc Z (op_call (vs := []) (H := []) Z call11 trivial (List.Perm.refl _) (mewslaw07.alive.ok r105e) ?_)
  rintro _ _ ⟨rfl, rfl⟩
  refine xm Z Z Z (xe (aw_ret ?_))
  obtain rfl := some_of h
  exact ⟨[.bool r105], _, [], ⟨(tm Z), trivial⟩, vr, Weak.mkL [] (by decide) trivial trivial, ⟨Z, Z⟩⟩
 ·replace h := ite_f (dec_f hb208) h
  refine aw_skip (xr (xa (.rp rg (none : RP)) Z (pu_assign Z (AEv.rpn _)) (xe (xr (xm Z Z Z (xm Z Z Z ?_))))))
  obtain ⟨r106, r106e, h⟩ := bind_some h
  refine xc Z (op_call (vs := [.rp rg (none : RP), .str key]) (H := [(rg, .abs (regAbs ([] : Reg)))]) Z call16 ⟨(tm Z), (tm Z), trivial⟩ (List.Perm.refl _) (dict.Table_int.Get.ok r106e rg) ?_)
  rintro _ _ ⟨rfl, rfl⟩
  refine xm Z Z Z (xa (.i r106.1) Z (pu_extract Z (tm Z) (nb Z) Z) (xa (.bool r106.2) Z (pu_extract Z (tm Z) (nb Z) Z) (xm Z Z Z (xm Z Z Z (xe (xr (xm Z Z Z ?_)))))))
  obtain ⟨r107, r107e, h⟩ := bind_some h
  refine xc Z (op_call (vs := [.rp rg (none : RP)]) (H := [(rg, .abs (regAbs ([] : Reg)))]) Z call20 ⟨(tm Z), trivial⟩ (List.Perm.refl _) (dict.Table_int.Clear.ok r107e rg) ?_)
  rintro _ _ ⟨rfl, rfl⟩
  refine xe (aw_seq ?_)
  obtain ⟨s128, s128e, h129⟩ := bind_some h
  refine aw_meet (ν := Unit) (fun v => [(0, .str key), (1, .i v_), (2, .i n_), (78, .bool s128.1)]) (fun v => [(rg, .abs (regAbs s128.2))]) ?_ ?_
  ·have h := s128e
   refine aw_region (xm Z Z Z (xm Z Z Z (xm Z Z Z ?_)))
   obtain ⟨r131, r131e, h⟩ := bind_some h
   refine xc Z (op_call (vs := [.rp rg (none : RP), .str key, .i v_]) (H := [(rg, .abs (regAbs r107))]) Z call13 ⟨(tm Z), (tm Z), (tm Z), trivial⟩ (List.Perm.refl _) (dict.Table_int.Put.ok r131e rg) ?_)
   rintro _ _ ⟨rfl, rfl⟩
   refine xm Z Z Z ?_
   rcases Bool.eq_false_or_eq_true r131.1 with hb132 | hb132
   ·replace h := ite_t hb132 h
    refine aops_known 30 Z hb132 (xn Z Z Z (xn Z Z Z (xa (.bool true) Z (pu_pick (b := true) Z (tm Z) (fun _ => (AEv.bool _)) (fun h => nomatch h)) (xm Z Z Z (xn Z Z Z (xa (.bool true) Z (pu_pick (b := true) Z (tm Z) (fun _ => (AEv.bool _)) (fun h => nomatch h)) (xm Z Z Z (xn Z Z Z (xn Z Z Z ?_)))))))))
    refine xn Z Z Z (xa (.bool true) Z (pu_pick (b := true) Z (tm Z) (fun _ => (AEv.bool _)) (fun h => nomatch h)) (xm Z Z Z (xn Z Z Z (xn Z Z Z (xn Z Z Z (xn Z Z Z (xa (.bool true) Z (pu_pick (b := true) Z (tm Z) (fun _ => (AEv.bool _)) (fun h => nomatch h)) (xm Z Z Z (xn Z Z Z ?_)))))))))
    refine xn Z Z Z (xn Z Z Z (xa (.bool true) Z (pu_pick (b := true) Z (tm Z) (fun _ => (AEv.bool _)) (fun h => nomatch h)) (xm Z Z Z (xn Z Z Z (xn Z Z Z (xn Z Z Z (xa (.bool true) Z (pu_pick (b := true) Z (tm Z) (fun _ => (AEv.bool _)) (fun h => nomatch h)) (xm Z Z Z (xn Z Z Z ?_)))))))))
    refine xn Z Z Z (xn Z Z Z (xa (.bool true) Z (pu_pick (b := true) Z (tm Z) (fun _ => (AEv.bool _)) (fun h => nomatch h)) (xm Z Z Z (xn Z Z Z (xn Z Z Z (xn Z Z Z (xa (.bool true) Z (pu_pick (b := true) Z (tm Z) (fun _ => (AEv.bool _)) (fun h => nomatch h)) (xm Z Z Z (xn Z Z Z ?_)))))))))
    refine xn Z Z Z (xn Z Z Z (xn Z Z Z (xn Z Z Z (xn Z Z Z (xn Z Z Z (xn Z Z Z (xn Z Z Z (xa (.bool true) Z (pu_pick (b := true) Z (tm Z) (fun _ => (AEv.bool _)) (fun h => nomatch h)) (xe ?_)))))))))
    obtain rfl := some_of h
    exact ⟨(), Weak.mkL [0] (by decide) ⟨⟨_, Z, Z⟩, trivial⟩ ⟨tm Z, tm Z, tm Z, tm Z, trivial⟩⟩
   ·replace h := ite_fb hb132 h
    refine aops_known 30 Z hb132 (xq Z Z Z Z (xp (.bool (!decide (r106.1 = 0))) Z Z (pu_int (v := .bool (!decide (r106.1 = 0))) Z Z (tm Z) (AEv.int _ _) Z) (xa (.bool (!decide (r106.1 = 0))) Z (pu_pick (b := false) Z (tm Z) (fun h => nomatch h) (fun _ => (tm Z))) (xm Z Z Z ?_))))
    rcases Bool.eq_false_or_eq_true (!decide (r106.1 = 0)) with hb133 | hb133
    ·replace h := ite_f (ndec_t hb133) h
     refine aops_known 34 Z hb133 (xn Z Z Z (xa (.bool true) Z (pu_pick (b := true) Z (tm Z) (fun _ => (AEv.bool _)) (fun h => nomatch h)) (xm Z Z Z (xn Z Z Z (xn Z Z Z (xn Z Z Z (xa (.bool true) Z (pu_pick (b := true) Z (tm Z) (fun _ => (AEv.bool _)) (fun h => nomatch h)) (xm Z Z Z (xn Z Z Z ?_)))))))))
     refine xn Z Z Z (xn Z Z Z (xn Z Z Z (xa (.bool true) Z (pu_pick (b := true) Z (tm Z) (fun _ => (AEv.bool _)) (fun h => nomatch h)) (xm Z Z Z (xn Z Z Z (xn Z Z Z (xn Z Z Z (xa (.bool true) Z (pu_pick (b := true) Z (tm Z) (fun _ => (AEv.bool _)) (fun h => nomatch h)) (xm Z Z Z ?_)))))))))
     refine xn Z Z Z (xn Z Z Z (xn Z Z Z (xa (.bool true) Z (pu_pick (b := true) Z (tm Z) (fun _ => (AEv.bool _)) (fun h => nomatch h)) (xm Z Z Z (xn Z Z Z (xn Z Z Z (xn Z Z Z (xa (.bool true) Z (pu_pick (b := true) Z (tm Z) (fun _ => (AEv.bool _)) (fun h => nomatch h)) (xm Z Z Z ?_)))))))))
     refine xn Z Z Z (xn Z Z Z (xn Z Z Z (xa (.bool true) Z (pu_pick (b := true) Z (tm Z) (fun _ => (AEv.bool _)) (fun h => nomatch h)) (xm Z Z Z (xn Z Z Z (xn Z Z Z (xn Z Z Z (xn Z Z Z (xn Z Z Z ?_)))))))))
     refine xn Z Z Z (xn Z Z Z (xn Z Z Z (xn Z Z Z (xa (.bool true) Z (pu_pick (b := true) Z (tm Z) (fun _ => (AEv.bool _)) (fun h => nomatch h)) (xe ?_)))))
     obtain rfl := some_of h
     exact ⟨(), Weak.mkL [0] (by decide) ⟨⟨_, Z, Z⟩, trivial⟩ ⟨tm Z, tm Z, tm Z, tm Z, trivial⟩⟩
    ·replace h := ite_t (ndec_f hb133) h
     refine aops_known 34 Z hb133 (xq Z Z Z Z (xa (.bool r106.2) Z (pu_pick (b := false) Z (tm Z) (fun h => nomatch h) (fun _ => (tm Z))) (xm Z Z Z ?_)))
     rcases Bool.eq_false_or_eq_true r106.2 with hb134 | hb134
     ·replace h := ite_t hb134 h
      refine aops_known 37 Z hb134 (xn Z Z Z (xn Z Z Z (xn Z Z Z (xa (.bool true) Z (pu_pick (b := true) Z (tm Z) (fun _ => (AEv.bool _)) (fun h => nomatch h)) (xm Z Z Z (xn Z Z Z (xn Z Z Z (xn Z Z Z (xn Z Z Z ?_)))))))))
      refine xa (.bool true) Z (pu_pick (b := true) Z (tm Z) (fun _ => (AEv.bool _)) (fun h => nomatch h)) (xm Z Z Z (xn Z Z Z (xn Z Z Z (xn Z Z Z (xa (.bool true) Z (pu_pick (b := true) Z (tm Z) (fun _ => (AEv.bool _)) (fun h => nomatch h)) (xm Z Z Z (xn Z Z Z (xn Z Z Z (xn Z Z Z ?_)))))))))
      refine xa (.bool true) Z (pu_pick (b := true) Z (tm Z) (fun _ => (AEv.bool _)) (fun h => nomatch h)) (xm Z Z Z (xn Z Z Z (xn Z Z Z (xn Z Z Z (xa (.bool true) Z (pu_pick (b := true) Z (tm Z) (fun _ => (AEv.bool _)) (fun h => nomatch h)) (xm Z Z Z (xn Z Z Z (xn Z Z Z (xn Z Z Z ?_)))))))))
      refine xa (.bool true) Z (pu_pick (b := true) Z (tm Z) (fun _ => (AEv.bool _)) (fun h => nomatch h)) (xm Z Z Z (xn Z Z Z (xn Z Z Z (xn Z Z Z (xn Z Z Z (xn Z Z Z (xn Z Z Z (xn Z Z Z (xn Z Z Z ?_)))))))))
      refine xn Z Z Z (xa (.bool true) Z (pu_pick (b := true) Z (tm Z) (fun _ => (AEv.bool _)) (fun h => nomatch h)) (xe ?_))
      obtain rfl := some_of h
      exact ⟨(), Weak.mkL [0] (by decide) ⟨⟨_, Z, Z⟩, trivial⟩ ⟨tm Z, tm Z, tm Z, tm Z, trivial⟩⟩
     ·replace h := ite_fb hb134 h
      refine aops_known 37 Z hb134 (xq Z Z Z Z (xq Z Z Z Z ?_))
      obtain ⟨r135, r135e, h⟩ := bind_some h
      refine xg Z Z (op_call (vs := [.rp rg (none : RP), .str key]) (H := [(rg, .abs (regAbs r131.2))]) Z call14 ⟨(tm Z), (tm Z), trivial⟩ (List.Perm.refl _) (dict.Table_int.Drop.ok r135e rg) ?_)
      rintro _ _ ⟨rfl, rfl⟩
      refine xa (.bool r135.1) Z (pu_pick (b := false) Z (tm Z) (fun h => nomatch h) (fun _ => (tm Z))) (xm Z Z Z ?_)
      rcases Bool.eq_false_or_eq_true r135.1 with hb136 | hb136
      ·replace h := ite_t hb136 h
       refine aops_known 42 Z hb136 (xn Z Z Z (xn Z Z Z (xn Z Z Z (xn Z Z Z (xa (.bool true) Z (pu_pick (b := true) Z (tm Z) (fun _ => (AEv.bool _)) (fun h => nomatch h)) (xm Z Z Z (xn Z Z Z (xn Z Z Z (xn Z Z Z ?_)))))))))
       refine xa (.bool true) Z (pu_pick (b := true) Z (tm Z) (fun _ => (AEv.bool _)) (fun h => nomatch h)) (xm Z Z Z (xn Z Z Z (xn Z Z Z (xn Z Z Z (xa (.bool true) Z (pu_pick (b := true) Z (tm Z) (fun _ => (AEv.bool _)) (fun h => nomatch h)) (xm Z Z Z (xn Z Z Z (xn Z Z Z (xn Z Z Z ?_)))))))))
       refine xa (.bool true) Z (pu_pick (b := true) Z (tm Z) (fun _ => (AEv.bool _)) (fun h => nomatch h)) (xm Z Z Z (xn Z Z Z (xn Z Z Z (xn Z Z Z (xa (.bool true) Z (pu_pick (b := true) Z (tm Z) (fun _ => (AEv.bool _)) (fun h => nomatch h)) (xm Z Z Z (xn Z Z Z (xn Z Z Z (xn Z Z Z ?_)))))))))
       refine xn Z Z Z (xn Z Z Z (xn Z Z Z (xn Z Z Z (xn Z Z Z (xn Z Z Z (xa (.bool true) Z (pu_pick (b := true) Z (tm Z) (fun _ => (AEv.bool _)) (fun h => nomatch h)) (xe ?_)))))))
       obtain rfl := some_of h
       exact ⟨(), Weak.mkL [0] (by decide) ⟨⟨_, Z, Z⟩, trivial⟩ ⟨tm Z, tm Z, tm Z, tm Z, trivial⟩⟩
      ·replace h := ite_fb hb136 h
       refine aops_known 42 Z hb136 (xq Z Z Z Z (xq Z Z Z Z ?_))
       obtain ⟨r137, r137e, h⟩ := bind_some h
       refine xg Z Z (op_call (vs := [.rp rg (none : RP), .i n_]) (H := [(rg, .abs (regAbs r135.2))]) Z call15 ⟨(tm Z), (tm Z), trivial⟩ (List.Perm.refl _) (dict.Table_int.Step.ok r137e rg) ?_)
       rintro _ _ ⟨rfl, rfl⟩
       refine xp (.bool (!decide (r137.1 = 0))) Z Z (pu_int (v := .bool (!decide (r137.1 = 0))) Z Z (tm Z) (AEv.int _ _) Z) (xa (.bool (!decide (r137.1 = 0))) Z (pu_pick (b := false) Z (tm Z) (fun h => nomatch h) (fun _ => (tm Z))) (xm Z Z Z ?_))
       rcases Bool.eq_false_or_eq_true (!decide (r137.1 = 0)) with hb138 | hb138
       ·replace h := ite_f (ndec_t hb138) h
        refine aops_known 48 Z hb138 (xn Z Z Z (xn Z Z Z (xn Z Z Z (xa (.bool true) Z (pu_pick (b := true) Z (tm Z) (fun _ => (AEv.bool _)) (fun h => nomatch h)) (xm Z Z Z (xn Z Z Z (xn Z Z Z (xn Z Z Z (xa (.bool true) Z (pu_pick (b := true) Z (tm Z) (fun _ => (AEv.bool _)) (fun h => nomatch h)) ?_)))))))))
        refine xm Z Z Z (xn Z Z Z (xn Z Z Z (xn Z Z Z (xa (.bool true) Z (pu_pick (b := true) Z (tm Z) (fun _ => (AEv.bool _)) (fun h => nomatch h)) (xm Z Z Z (xn Z Z Z (xn Z Z Z (xn Z Z Z (xa (.bool true) Z (pu_pick (b := true) Z (tm Z) (fun _ => (AEv.bool _)) (fun h => nomatch h)) ?_)))))))))
        refine xm Z Z Z (xn Z Z Z (xn Z Z Z (xn Z Z Z (xn Z Z Z (xn Z Z Z (xn Z Z Z (xn Z Z Z (xn Z Z Z (xn Z Z Z ?_)))))))))
        refine xa (.bool true) Z (pu_pick (b := true) Z (tm Z) (fun _ => (AEv.bool _)) (fun h => nomatch h)) (xe ?_)
        obtain rfl := some_of h
        exact ⟨(), Weak.mkL [0] (by decide) ⟨⟨_, Z, Z⟩, trivial⟩ ⟨tm Z, tm Z, tm Z, tm Z, trivial⟩⟩
       ·replace h := ite_t (ndec_f hb138) h
        refine aops_known 48 Z hb138 (xq Z Z Z Z ?_)
        obtain ⟨r139, r139e, h⟩ := bind_some h
        refine xg Z Z (op_call (vs := [.rp rg (none : RP)]) (H := [(rg, .abs (regAbs r137.2))]) Z call18 ⟨(tm Z), trivial⟩ (List.Perm.refl _) (dict.Table_int.Len.ok r139e rg) ?_)
        rintro _ _ ⟨rfl, rfl⟩
        refine xp (.bool (!decide (r139 = 0))) Z Z (pu_int (v := .bool (!decide (r139 = 0))) Z Z (tm Z) (AEv.int _ _) Z) (xa (.bool (!decide (r139 = 0))) Z (pu_pick (b := false) Z (tm Z) (fun h => nomatch h) (fun _ => (tm Z))) (xm Z Z Z ?_))
        rcases Bool.eq_false_or_eq_true (!decide (r139 = 0)) with hb140 | hb140
        ·replace h := ite_f (ndec_t hb140) h
         refine aops_known 53 Z hb140 (xn Z Z Z (xn Z Z Z (xn Z Z Z (xa (.bool true) Z (pu_pick (b := true) Z (tm Z) (fun _ => (AEv.bool _)) (fun h => nomatch h)) (xm Z Z Z (xn Z Z Z (xn Z Z Z (xn Z Z Z (xa (.bool true) Z (pu_pick (b := true) Z (tm Z) (fun _ => (AEv.bool _)) (fun h => nomatch h)) ?_)))))))))
         refine xm Z Z Z (xn Z Z Z (xn Z Z Z (xn Z Z Z (xa (.bool true) Z (pu_pick (b := true) Z (tm Z) (fun _ => (AEv.bool _)) (fun h => nomatch h)) (xm Z Z Z (xn Z Z Z (xn Z Z Z (xn Z Z Z (xn Z Z Z ?_)))))))))
         refine xn Z Z Z (xn Z Z Z (xn Z Z Z (xn Z Z Z (xn Z Z Z (xa (.bool true) Z (pu_pick (b := true) Z (tm Z) (fun _ => (AEv.bool _)) (fun h => nomatch h)) (xe ?_))))))
         obtain rfl := some_of h
         exact ⟨(), Weak.mkL [0] (by decide) ⟨⟨_, Z, Z⟩, trivial⟩ ⟨tm Z, tm Z, tm Z, tm Z, trivial⟩⟩
        ·replace h := ite_t (ndec_f hb140) h
         refine aops_known 53 Z hb140 (xq Z Z Z Z ?_)
         obtain ⟨r141, r141e, h⟩ := bind_some h
         refine xg Z Z (op_call (vs := [.rp rg (none : RP)]) (H := [(rg, .abs (regAbs r137.2))]) Z call21 ⟨(tm Z), trivial⟩ (List.Perm.refl _) (dict.Table_int.Size.ok r141e rg) ?_)
         rintro _ _ ⟨rfl, rfl⟩
         refine xp (.bool (!decide (r141.1 = 0))) Z Z (pu_int (v := .bool (!decide (r141.1 = 0))) Z Z (tm Z) (AEv.int _ _) Z) (xa (.bool (!decide (r141.1 = 0))) Z (pu_pick (b := false) Z (tm Z) (fun h => nomatch h) (fun _ => (tm Z))) (xm Z Z Z ?_))
         rcases Bool.eq_false_or_eq_true (!decide (r141.1 = 0)) with hb142 | hb142
         ·replace h := ite_f (ndec_t hb142) h
          refine aops_known 58 Z hb142 (xn Z Z Z (xn Z Z Z (xn Z Z Z (xa (.bool true) Z (pu_pick (b := true) Z (tm Z) (fun _ => (AEv.bool _)) (fun h => nomatch h)) (xm Z Z Z (xn Z Z Z (xn Z Z Z (xn Z Z Z (xa (.bool true) Z (pu_pick (b := true) Z (tm Z) (fun _ => (AEv.bool _)) (fun h => nomatch h)) ?_)))))))))
          refine xm Z Z Z (xn Z Z Z (xn Z Z Z (xn Z Z Z (xn Z Z Z (xn Z Z Z (xn Z Z Z (xn Z Z Z (xn Z Z Z (xn Z Z Z ?_)))))))))
          refine xa (.bool true) Z (pu_pick (b := true) Z (tm Z) (fun _ => (AEv.bool _)) (fun h => nomatch h)) (xe ?_)
          obtain rfl := some_of h
          exact ⟨(), Weak.mkL [0] (by decide) ⟨⟨_, Z, Z⟩, trivial⟩ ⟨tm Z, tm Z, tm Z, tm Z, trivial⟩⟩
         ·replace h := ite_t (ndec_f hb142) h
          refine aops_known 58 Z hb142 (xq Z Z Z Z ?_)
          obtain ⟨r143, r143e, h⟩ := bind_some h
          refine xg Z Z (op_call (vs := [.rp rg (none : RP)]) (H := [(rg, .abs (regAbs r141.2))]) Z call19 ⟨(tm Z), trivial⟩ (List.Perm.refl _) (dict.Table_int.Moved.ok r143e rg) ?_)
          rintro _ _ ⟨rfl, rfl⟩
          refine xp (.bool (!decide (r143 = (-1)))) Z Z (pu_int (v := .bool (!decide (r143 = (-1)))) Z Z (tm Z) (AEv.int _ _) Z) (xa (.bool (!decide (r143 = (-1)))) Z (pu_pick (b := false) Z (tm Z) (fun h => nomatch h) (fun _ => (tm Z))) (xm Z Z Z ?_))
          rcases Bool.eq_false_or_eq_true (!decide (r143 = (-1))) with hb144 | hb144
          ·replace h := ite_f (ndec_t hb144) h
           refine aops_known 63 Z hb144 (xn Z Z Z (xn Z Z Z (xn Z Z Z (xa (.bool true) Z (pu_pick (b := true) Z (tm Z) (fun _ => (AEv.bool _)) (fun h => nomatch h)) (xm Z Z Z (xn Z Z Z (xn Z Z Z (xn Z Z Z (xn Z Z Z ?_)))))))))
           refine xn Z Z Z (xn Z Z Z (xn Z Z Z (xn Z Z Z (xn Z Z Z (xa (.bool true) Z (pu_pick (b := true) Z (tm Z) (fun _ => (AEv.bool _)) (fun h => nomatch h)) (xe ?_))))))
           obtain rfl := some_of h
           exact ⟨(), Weak.mkL [0] (by decide) ⟨⟨_, Z, Z⟩, trivial⟩ ⟨tm Z, tm Z, tm Z, tm Z, trivial⟩⟩
          ·replace h := ite_t (ndec_f hb144) h
           refine aops_known 63 Z hb144 (xq Z Z Z Z ?_)
           obtain ⟨r145, r145e, h⟩ := bind_some h
           refine xg Z Z (op_call (vs := [.rp rg (none : RP)]) (H := [(rg, .abs (regAbs r141.2))]) Z call22 ⟨(tm Z), trivial⟩ (List.Perm.refl _) (dict.Table_int.Toward.ok r145e rg) ?_)
           rintro _ _ ⟨rfl, rfl⟩
           refine xp (.bool (!decide (r145 = (-1)))) Z Z (pu_int (v := .bool (!decide (r145 = (-1)))) Z Z (tm Z) (AEv.int _ _) Z) (xa (.bool (!decide (r145 = (-1)))) Z (pu_pick (b := false) Z (tm Z) (fun h => nomatch h) (fun _ => (tm Z))) (xm Z Z Z ?_))
           rcases Bool.eq_false_or_eq_true (!decide (r145 = (-1))) with hb146 | hb146
           ·replace h := ite_f (ndec_t hb146) h
            refine aops_known 68 Z hb146 (xn Z Z Z (xn Z Z Z (xn Z Z Z (xn Z Z Z (xn Z Z Z (xn Z Z Z (xn Z Z Z (xn Z Z Z (xn Z Z Z ?_)))))))))
            refine xa (.bool true) Z (pu_pick (b := true) Z (tm Z) (fun _ => (AEv.bool _)) (fun h => nomatch h)) (xe ?_)
            obtain rfl := some_of h
            exact ⟨(), Weak.mkL [0] (by decide) ⟨⟨_, Z, Z⟩, trivial⟩ ⟨tm Z, tm Z, tm Z, tm Z, trivial⟩⟩
           ·replace h := ite_t (ndec_f hb146) h
            refine aops_known 68 Z hb146 (xq Z Z Z Z ?_)
            obtain ⟨r147, r147e, h⟩ := bind_some h
            refine xg Z Z (op_call (vs := [.rp rg (none : RP)]) (H := [(rg, .abs (regAbs r141.2))]) Z call17 ⟨(tm Z), trivial⟩ (List.Perm.refl _) (dict.Table_int.Keys.ok r147e rg) ?_)
            rintro _ _ ⟨t148, rfl, rfl⟩
            refine xp (.i (r147.1.length : Int)) Z Z (pu_lenM Z underlying35 (tm Z)) (xq Z Z Z Z (xq Z Z Z Z ?_))
            obtain ⟨r149, r149e, h⟩ := bind_some h
            refine xg Z Z (op_call (vs := [.rp rg (none : RP), .bool true, .i n_]) (H := [(rg, .abs (regAbs r147.2))]) Z call23 ⟨(tm Z), (AEv.bool _), (tm Z), trivial⟩ (List.Perm.refl _) (dict.Table_int.Chain.ok r149e rg) ?_)
            rintro _ _ ⟨t150, rfl, rfl⟩
            refine xp (.i (r149.1.length : Int)) Z Z (pu_lenM Z underlying35 (tm Z)) (xp (.i (IntKind.wrap .i64 ((r147.1.length : Int) + (r149.1.length : Int)))) Z Z (pu_int (v := .i (IntKind.wrap .i64 ((r147.1.length : Int) + (r149.1.length : Int)))) Z Z (tm Z) (tm Z) Z) (xp (.bool (!decide ((IntKind.wrap .i64 ((r147.1.length : Int) + (r149.1.length : Int))) = 0))) Z Z (pu_int (v := .bool (!decide ((IntKind.wrap .i64 ((r147.1.length : Int) + (r149.1.length : Int))) = 0))) Z Z (tm Z) (AEv.int _ _) Z) (xa (.bool (!decide ((IntKind.wrap .i64 ((r147.1.length : Int) + (r149.1.length : Int))) = 0))) Z (pu_pick (b := false) Z (tm Z) (fun h => nomatch h) (fun _ => (tm Z))) (xe ?_))))
            obtain rfl := some_of h
            exact ⟨(), Weak.mkL [0] (by decide) ⟨⟨_, Z, Z⟩, trivial⟩ ⟨tm Z, tm Z, tm Z, tm Z, trivial⟩⟩
  ·intro _
   have h := h129
   refine aw_cond (b := s128.1) (tm Z) (fun hb207 => ?_) (fun hb207 => ?_)
   ·replace h := ite_t hb207 h
    refine xr (xa (.bool false) Z (pu_assign Z (AEv.bool _)) (xe (aw_ret ?_)))
    obtain rfl := some_of h
    exact ⟨[.bool false], _, [], ⟨(tm Z), trivial⟩, vr, Weak.mkL [] (by decide) trivial trivial, ⟨Z, Z⟩⟩
   ·replace h := ite_fb hb207 h
    refine aw_skip (xr (xa (.agg [.int .u64 0, .i 0, .rs rg (none : RS), .i 0, .rs rg (none : RS), .i 0, .bool false, .i 0]) Z (pu_build (zs := [.int .u64 0, .i 0, .rs rg (none : RS), .i 0, .rs rg (none : RS), .i 0, .bool false, .i 0]) (szs := [1, 4, 1, 1, 1]) (aparts := []) (cs := [.int .u64 0, .i 0, .rs rg (none : RS), .i 0, .rs rg (none : RS), .i 0, .bool false, .i 0]) Z underlying46 zeroValue46 Z ⟨sizeOf22, sizeOf44, sizeOf3, sizeOf4, sizeOf3, trivial⟩ trivial Z) ?_))
    obtain ⟨x151, x151e, h⟩ := letO_of h
    refine xc Z (op_regBox (i := 0) [.it .u64 0, .it .i64 0, .sc (none : RS), .it .i64 0, .sc (none : RS), .it .i64 0, .bo false, .it .i64 0] Z (v := .agg [.int .u64 0, .i 0, .rs rg (none : RS), .i 0, .rs rg (none : RS), .i 0, .bool false, .i 0]) (tm Z) Z Z x151e (xm Z Z Z (xe (aw_seq (aw_region ?_)))))
    obtain ⟨r152, r152e, h⟩ := bind_some h
    refine xc Z (op_call (vs := [.int .u64 0]) (H := [(rg, .abs (regAbs x151))]) Z call12 ⟨(AEv.int _ _), trivial⟩ (List.Perm.refl _) (dict.New_int.ok r152e rg) ?_)
    rintro _ _ ⟨rfl, rfl⟩
    refine xm Z Z Z (xe (xr (xm Z Z Z (xm Z Z Z ?_))))
    obtain ⟨r153, r153e, h⟩ := bind_some h
    refine xc Z (op_call (vs := [.rp rg (some (s128.2.length, 0) : RP), .str key]) (H := [(rg, .abs (regAbs r152.2))]) Z call16 ⟨(tm Z), (tm Z), trivial⟩ (List.Perm.refl _) (dict.Table_int.Get.ok r153e rg) ?_)
    rintro _ _ ⟨rfl, rfl⟩
    refine xm Z Z Z (xa (.i r153.1) Z (pu_extract Z (tm Z) (nb Z) Z) (xa (.bool r153.2) Z (pu_extract Z (tm Z) (nb Z) Z) (xm Z Z Z (xm Z Z Z (xe (aw_seq ?_))))))
    obtain ⟨s164, s164e, h165⟩ := bind_some h
    refine aw_meet (ν := Unit) (fun v => [(2, .i n_), (10, .rp rg (some (s128.2.length, 0) : RP)), (11, .rp rg r152.1), (118, .bool s164.1)]) (fun v => [(rg, .abs (regAbs s164.2))]) ?_ ?_
    ·have h := s164e
     refine aw_region (xm Z Z Z (xa (.bool (!decide (r153.1 = 0))) Z (pu_int (v := .bool (!decide (r153.1 = 0))) Z Z (tm Z) (AEv.int _ _) Z) (xm Z Z Z ?_)))
     rcases Bool.eq_false_or_eq_true (!decide (r153.1 = 0)) with hb167 | hb167
     ·replace h := ite_f (ndec_t hb167) h
      refine aops_known 90 Z hb167 (xn Z Z Z (xa (.bool true) Z (pu_pick (b := true) Z (tm Z) (fun _ => (AEv.bool _)) (fun h => nomatch h)) (xm Z Z Z (xn Z Z Z (xn Z Z Z (xn Z Z Z (xn Z Z Z (xn Z Z Z (xa (.bool true) Z (pu_pick (b := true) Z (tm Z) (fun _ => (AEv.bool _)) (fun h => nomatch h)) ?_)))))))))
      refine xm Z Z Z (xn Z Z Z (xn Z Z Z (xn Z Z Z (xa (.bool true) Z (pu_pick (b := true) Z (tm Z) (fun _ => (AEv.bool _)) (fun h => nomatch h)) (xm Z Z Z (xn Z Z Z (xn Z Z Z (xn Z Z Z (xn Z Z Z ?_)))))))))
      refine xn Z Z Z (xa (.bool true) Z (pu_pick (b := true) Z (tm Z) (fun _ => (AEv.bool _)) (fun h => nomatch h)) (xm Z Z Z (xn Z Z Z (xn Z Z Z (xn Z Z Z (xn Z Z Z (xn Z Z Z (xa (.bool true) Z (pu_pick (b := true) Z (tm Z) (fun _ => (AEv.bool _)) (fun h => nomatch h)) (xe ?_)))))))))
      obtain rfl := some_of h
      exact ⟨(), Weak.mkL [0] (by decide) ⟨⟨_, Z, Z⟩, trivial⟩ ⟨tm Z, tm Z, tm Z, tm Z, trivial⟩⟩
     ·replace h := ite_t (ndec_f hb167) h
      refine aops_known 90 Z hb167 (xq Z Z Z Z (xa (.bool r153.2) Z (pu_pick (b := false) Z (tm Z) (fun h => nomatch h) (fun _ => (tm Z))) (xm Z Z Z ?_)))
      rcases Bool.eq_false_or_eq_true r153.2 with hb168 | hb168
      ·replace h := ite_t hb168 h
       refine aops_known 93 Z hb168 (xn Z Z Z (xn Z Z Z (xn Z Z Z (xn Z Z Z (xn Z Z Z (xa (.bool true) Z (pu_pick (b := true) Z (tm Z) (fun _ => (AEv.bool _)) (fun h => nomatch h)) (xm Z Z Z (xn Z Z Z (xn Z Z Z ?_)))))))))
       refine xn Z Z Z (xa (.bool true) Z (pu_pick (b := true) Z (tm Z) (fun _ => (AEv.bool _)) (fun h => nomatch h)) (xm Z Z Z (xn Z Z Z (xn Z Z Z (xn Z Z Z (xn Z Z Z (xn Z Z Z (xa (.bool true) Z (pu_pick (b := true) Z (tm Z) (fun _ => (AEv.bool _)) (fun h => nomatch h)) (xm Z Z Z ?_)))))))))
       refine xn Z Z Z (xn Z Z Z (xn Z Z Z (xn Z Z Z (xn Z Z Z (xa (.bool true) Z (pu_pick (b := true) Z (tm Z) (fun _ => (AEv.bool _)) (fun h => nomatch h)) (xe ?_))))))
       obtain rfl := some_of h
       exact ⟨(), Weak.mkL [0] (by decide) ⟨⟨_, Z, Z⟩, trivial⟩ ⟨tm Z, tm Z, tm Z, tm Z, trivial⟩⟩
      ·replace h := ite_fb hb168 h
       refine aops_known 93 Z hb168 (xq Z Z Z Z ?_)
       obtain ⟨r169, r169e, h⟩ := bind_some h
       refine xg Z Z (op_call (vs := [.rp rg (some (s128.2.length, 0) : RP)]) (H := [(rg, .abs (regAbs r152.2))]) Z call21 ⟨(tm Z), trivial⟩ (List.Perm.refl _) (dict.Table_int.Size.ok r169e rg) ?_)
       rintro _ _ ⟨rfl, rfl⟩
       refine xq Z Z Z Z ?_
       obtain ⟨r170, r170e, h⟩ := bind_some h
       refine xg Z Z (op_call (vs := [.rp rg r152.1]) (H := [(rg, .abs (regAbs r169.2))]) Z call21 ⟨(tm Z), trivial⟩ (List.Perm.refl _) (dict.Table_int.Size.ok r170e rg) ?_)
       rintro _ _ ⟨rfl, rfl⟩
       refine xp (.bool (!decide (r169.1 = r170.1))) Z Z (pu_int (v := .bool (!decide (r169.1 = r170.1))) Z Z (tm Z) (tm Z) Z) (xa (.bool (!decide (r169.1 = r170.1))) Z (pu_pick (b := false) Z (tm Z) (fun h => nomatch h) (fun _ => (tm Z))) (xm Z Z Z ?_))
       rcases Bool.eq_false_or_eq_true (!decide (r169.1 = r170.1)) with hb171 | hb171
       ·replace h := ite_f (ndec_t hb171) h
        refine aops_known 100 Z hb171 (xn Z Z Z (xn Z Z Z (xn Z Z Z (xa (.bool true) Z (pu_pick (b := true) Z (tm Z) (fun _ => (AEv.bool _)) (fun h => nomatch h)) (xm Z Z Z (xn Z Z Z (xn Z Z Z (xn Z Z Z (xn Z Z Z ?_)))))))))
        refine xn Z Z Z (xa (.bool true) Z (pu_pick (b := true) Z (tm Z) (fun _ => (AEv.bool _)) (fun h => nomatch h)) (xm Z Z Z (xn Z Z Z (xn Z Z Z (xn Z Z Z (xn Z Z Z (xn Z Z Z (xa (.bool true) Z (pu_pick (b := true) Z (tm Z) (fun _ => (AEv.bool _)) (fun h => nomatch h)) (xe ?_)))))))))
        obtain rfl := some_of h
        exact ⟨(), Weak.mkL [0] (by decide) ⟨⟨_, Z, Z⟩, trivial⟩ ⟨tm Z, tm Z, tm Z, tm Z, trivial⟩⟩
       ·replace h := ite_t (ndec_f hb171) h
        refine aops_known 100 Z hb171 (xq Z Z Z Z ?_)
        obtain ⟨r172, r172e, h⟩ := bind_some h
        refine xg Z Z (op_call (vs := [.rp rg (some (s128.2.length, 0) : RP)]) (H := [(rg, .abs (regAbs r170.2))]) Z call19 ⟨(tm Z), trivial⟩ (List.Perm.refl _) (dict.Table_int.Moved.ok r172e rg) ?_)
        rintro _ _ ⟨rfl, rfl⟩
        refine xp (.bool (!decide (r172 = (-1)))) Z Z (pu_int (v := .bool (!decide (r172 = (-1)))) Z Z (tm Z) (AEv.int _ _) Z) (xa (.bool (!decide (r172 = (-1)))) Z (pu_pick (b := false) Z (tm Z) (fun h => nomatch h) (fun _ => (tm Z))) (xm Z Z Z ?_))
        rcases Bool.eq_false_or_eq_true (!decide (r172 = (-1))) with hb173 | hb173
        ·replace h := ite_f (ndec_t hb173) h
         refine aops_known 105 Z hb173 (xn Z Z Z (xn Z Z Z (xn Z Z Z (xn Z Z Z (xn Z Z Z (xa (.bool true) Z (pu_pick (b := true) Z (tm Z) (fun _ => (AEv.bool _)) (fun h => nomatch h)) (xm Z Z Z (xn Z Z Z (xn Z Z Z ?_)))))))))
         refine xn Z Z Z (xn Z Z Z (xn Z Z Z (xa (.bool true) Z (pu_pick (b := true) Z (tm Z) (fun _ => (AEv.bool _)) (fun h => nomatch h)) (xe ?_))))
         obtain rfl := some_of h
         exact ⟨(), Weak.mkL [0] (by decide) ⟨⟨_, Z, Z⟩, trivial⟩ ⟨tm Z, tm Z, tm Z, tm Z, trivial⟩⟩
        ·replace h := ite_t (ndec_f hb173) h
         refine aops_known 105 Z hb173 (xq Z Z Z Z (xq Z Z Z Z (xq Z Z Z Z ?_)))
         obtain ⟨r174, r174e, h⟩ := bind_some h
         refine xg Z Z (op_call (vs := [.rp rg (some (s128.2.length, 0) : RP), .str key, .i v_]) (H := [(rg, .abs (regAbs r170.2))]) Z call13 ⟨(tm Z), (tm Z), (tm Z), trivial⟩ (List.Perm.refl _) (dict.Table_int.Put.ok r174e rg) ?_)
         rintro _ _ ⟨rfl, rfl⟩
         refine xp (.bool (!r174.1)) Z Z (pu_not Z (tm Z)) (xa (.bool (!r174.1)) Z (pu_pick (b := false) Z (tm Z) (fun h => nomatch h) (fun _ => (tm Z))) (xm Z Z Z ?_))
         rcases Bool.eq_false_or_eq_true (!r174.1) with hb175 | hb175
         ·replace h := ite_t hb175 h
          refine aops_known 112 Z hb175 (xn Z Z Z (xn Z Z Z (xn Z Z Z (xn Z Z Z (xn Z Z Z (xa (.bool true) Z (pu_pick (b := true) Z (tm Z) (fun _ => (AEv.bool _)) (fun h => nomatch h)) (xe ?_)))))))
          obtain rfl := some_of h
          exact ⟨(), Weak.mkL [0] (by decide) ⟨⟨_, Z, Z⟩, trivial⟩ ⟨tm Z, tm Z, tm Z, tm Z, trivial⟩⟩
         ·replace h := ite_fb hb175 h
          refine aops_known 112 Z hb175 (xq Z Z Z Z (xq Z Z Z Z (xq Z Z Z Z ?_)))
          obtain ⟨r176, r176e, h⟩ := bind_some h
          refine xg Z Z (op_call (vs := [.rp rg r152.1, .str key, .i v_]) (H := [(rg, .abs (regAbs r174.2))]) Z call13 ⟨(tm Z), (tm Z), (tm Z), trivial⟩ (List.Perm.refl _) (dict.Table_int.Put.ok r176e rg) ?_)
          rintro _ _ ⟨rfl, rfl⟩
          refine xp (.bool (!r176.1)) Z Z (pu_not Z (tm Z)) (xa (.bool (!r176.1)) Z (pu_pick (b := false) Z (tm Z) (fun h => nomatch h) (fun _ => (tm Z))) (xe ?_))
          obtain rfl := some_of h
          exact ⟨(), Weak.mkL [0] (by decide) ⟨⟨_, Z, Z⟩, trivial⟩ ⟨tm Z, tm Z, tm Z, tm Z, trivial⟩⟩
    ·intro _
     have h := h165
     refine aw_cond (b := s164.1) (tm Z) (fun hb206 => ?_) (fun hb206 => ?_)
     ·replace h := ite_t hb206 h
      refine xr (xa (.bool false) Z (pu_assign Z (AEv.bool _)) (xe (aw_ret ?_)))
      obtain rfl := some_of h
      exact ⟨[.bool false], _, [], ⟨(tm Z), trivial⟩, vr, Weak.mkL [] (by decide) trivial trivial, ⟨Z, Z⟩⟩
     ·replace h := ite_fb hb206 h
      refine aw_skip ?_
      obtain ⟨s190, s190e, h191⟩ := bind_some h
      refine aw_meet (ν := Unit) (fun v => [(6, .bool s190.1)]) (fun v => [(rg, .abs (regAbs s190.2))]) ?_ ?_
      ·have h := s190e
       refine aw_region (xm Z Z Z ?_)
       obtain ⟨r193, r193e, h⟩ := bind_some h
       refine xc Z (op_call (vs := [.rp rg (some (s128.2.length, 0) : RP)]) (H := [(rg, .abs (regAbs s164.2))]) Z call17 ⟨(tm Z), trivial⟩ (List.Perm.refl _) (dict.Table_int.Keys.ok r193e rg) ?_)
       rintro _ _ ⟨t194, rfl, rfl⟩
       refine xm Z Z Z ?_
       obtain ⟨r195, r195e, h⟩ := bind_some h
       refine xc Z (op_call (vs := [.rp rg r152.1]) (H := [(rg, .abs (regAbs r193.2))]) Z call17 ⟨(tm Z), trivial⟩ (List.Perm.refl _) (dict.Table_int.Keys.ok r195e rg) ?_)
       rintro _ _ ⟨t196, rfl, rfl⟩
       obtain ⟨r197, r197e, h⟩ := bind_some h
       refine xc Z (op_call (vs := [.sl .no 1 (r193.1.map AV.str), .sl .no 1 (r195.1.map AV.str)]) (H := []) Z call24 ⟨(AEv.le (tm Z) (AV.Le.forget _ _ _)), (AEv.le (tm Z) (AV.Le.forget _ _ _)), trivial⟩ (List.Perm.refl _) (mewsref02.Same.ok r197e) ?_)
       rintro _ _ ⟨rfl, rfl⟩
       refine xm Z Z Z ?_
       rcases Bool.eq_false_or_eq_true r197 with hb198 | hb198
       ·replace h := ite_t hb198 h
        refine aops_known 124 Z hb198 (xq Z Z Z Z (xq Z Z Z Z ?_))
        obtain ⟨r199, r199e, h⟩ := bind_some h
        refine xg Z Z (op_call (vs := [.rp rg (some (s128.2.length, 0) : RP), .bool true, .i n_]) (H := [(rg, .abs (regAbs r195.2))]) Z call23 ⟨(tm Z), (AEv.bool _), (tm Z), trivial⟩ (List.Perm.refl _) (dict.Table_int.Chain.ok r199e rg) ?_)
        rintro _ _ ⟨t200, rfl, rfl⟩
        refine xq Z Z Z Z (xq Z Z Z Z ?_)
        obtain ⟨r201, r201e, h⟩ := bind_some h
        refine xg Z Z (op_call (vs := [.rp rg r152.1, .bool true, .i n_]) (H := [(rg, .abs (regAbs r199.2))]) Z call23 ⟨(tm Z), (AEv.bool _), (tm Z), trivial⟩ (List.Perm.refl _) (dict.Table_int.Chain.ok r201e rg) ?_)
        rintro _ _ ⟨t202, rfl, rfl⟩
        obtain ⟨r203, r203e, h⟩ := bind_some h
        refine xg Z Z (op_call (vs := [.sl .no 1 (r199.1.map AV.str), .sl .no 1 (r201.1.map AV.str)]) (H := []) Z call24 ⟨(AEv.le (tm Z) (AV.Le.forget _ _ _)), (AEv.le (tm Z) (AV.Le.forget _ _ _)), trivial⟩ (List.Perm.refl _) (mewsref02.Same.ok r203e) ?_)
        rintro _ _ ⟨rfl, rfl⟩
        refine xa (.bool r203) Z (pu_pick (b := true) Z (tm Z) (fun _ => (tm Z)) (fun h => nomatch h)) (xm Z Z Z ?_)
        rcases Bool.eq_false_or_eq_true r203 with hb204 | hb204
        ·replace h := ite_t hb204 h
         refine aops_known 133 Z hb204 ?_
         obtain ⟨r205, r205e, h⟩ := bind_some h
         refine xg Z Z (op_call (vs := []) (H := []) Z call11 trivial (List.Perm.refl _) (mewslaw07.alive.ok r205e) ?_)
         rintro _ _ ⟨rfl, rfl⟩
         refine xa (.bool r205) Z (pu_pick (b := true) Z (tm Z) (fun _ => (tm Z)) (fun h => nomatch h)) (xm Z Z Z (xe ?_))
         obtain rfl := some_of h
         exact ⟨(), Weak.mkL [0] (by decide) ⟨⟨_, Z, Z⟩, trivial⟩ ⟨tm Z, trivial⟩⟩
        ·replace h := ite_fb hb204 h
         refine aops_known 133 Z hb204 (xn Z Z Z (xa (.bool false) Z (pu_pick (b := false) Z (tm Z) (fun h => nomatch h) (fun _ => (AEv.bool _))) (xm Z Z Z (xe ?_))))
         obtain rfl := some_of h
         exact ⟨(), Weak.mkL [0] (by decide) ⟨⟨_, Z, Z⟩, trivial⟩ ⟨tm Z, trivial⟩⟩
       ·replace h := ite_fb hb198 h
        refine aops_known 124 Z hb198 (xn Z Z Z (xn Z Z Z (xn Z Z Z (xn Z Z Z (xn Z Z Z (xn Z Z Z (xn Z Z Z (xa (.bool false) Z (pu_pick (b := false) Z (tm Z) (fun h => nomatch h) (fun _ => (AEv.bool _))) (xm Z Z Z ?_)))))))))
        refine xn Z Z Z (xa (.bool false) Z (pu_pick (b := false) Z (tm Z) (fun h => nomatch h) (fun _ => (AEv.bool _))) (xm Z Z Z (xe ?_)))
        obtain rfl := some_of h
        exact ⟨(), Weak.mkL [0] (by decide) ⟨⟨_, Z, Z⟩, trivial⟩ ⟨tm Z, trivial⟩⟩
      ·intro _
       have h := h191
       refine aw_ret ?_
       obtain rfl := some_of h
       exact ⟨[.bool s190.1], _, [], ⟨(tm Z), trivial⟩, vr, Weak.mkL [] (by decide) trivial trivial, ⟨Z, Z⟩⟩

theorem bits.ReverseBytes64.ok {x_ : Int} {r : Int} (h : bits.ReverseBytes64 x_ = some r) : Go.Lift.Spec prog 69 [.int .u64 x_] [] (fun v H => v = .int .u64 r ∧ H = []) := by
 unfold bits.ReverseBytes64 at h
 refine Go.Lift.Spec.of_body (rs := [.tmp 2]) func69 Z Z (nb Z) Z (xr (xa (.int .u64 0) Z (pu_assign Z (AEv.int _ _)) (xe (xr (xm Z Z Z (xa (.int .u64 (x_ / 2 ^ min (Int.toNat 8) (IntKind.bits .u64))) Z (pu_shr Z (tm Z) (AEv.int _ _) (by decide)) (xa (.int .u64 (Go.bits .and .u64 (x_ / 2 ^ min (Int.toNat 8) (IntKind.bits .u64)) 71777214294589695)) Z (pu_int (v := .int .u64 (Go.bits .and .u64 (x_ / 2 ^ min (Int.toNat 8) (IntKind.bits .u64)) 71777214294589695)) Z Z (tm Z) (AEv.int _ _) Z) ?_)))))))
 refine xm Z Z Z (xa (.int .u64 (Go.bits .and .u64 x_ 71777214294589695)) Z (pu_int (v := .int .u64 (Go.bits .and .u64 x_ 71777214294589695)) Z Z (tm Z) (AEv.int _ _) Z) (xa (.int .u64 (IntKind.wrap .u64 ((Go.bits .and .u64 x_ 71777214294589695) * 2 ^ min (Int.toNat 8) (IntKind.bits .u64)))) Z (pu_shl Z (tm Z) (AEv.int _ _) (by decide)) ?_))
 obtain ⟨x4, x4e, h⟩ := letO_of h
 refine xa (.int .u64 x4) Z (APure.eq (pu_int (v := .int .u64 (Go.bits .or .u64 (Go.bits .and .u64 (x_ / 2 ^ min (Int.toNat 8) (IntKind.bits .u64)) 71777214294589695) (IntKind.wrap .u64 ((Go.bits .and .u64 x_ 71777214294589695) * 2 ^ min (Int.toNat 8) (IntKind.bits .u64))))) Z Z (tm Z) (tm Z) Z) (congrArg (AV.int .u64) x4e.symm)) (xm Z Z Z (xe (xr (xm Z Z Z (xa (.int .u64 (x4 / 2 ^ min (Int.toNat 16) (IntKind.bits .u64))) Z (pu_shr Z (tm Z) (AEv.int _ _) (by decide)) (xa (.int .u64 (Go.bits .and .u64 (x4 / 2 ^ min (Int.toNat 16) (IntKind.bits .u64)) 281470681808895)) Z (pu_int (v := .int .u64 (Go.bits .and .u64 (x4 / 2 ^ min (Int.toNat 16) (IntKind.bits .u64)) 281470681808895)) Z Z (tm Z) (AEv.int _ _) Z) (xm Z Z Z (xa (.int .u64 (Go.bits .and .u64 x4 281470681808895)) Z (pu_int (v := .int .u64 (Go.bits .and .u64 x4 281470681808895)) Z Z (tm Z) (AEv.int _ _) Z) ?_))))))))
 refine xa (.int .u64 (IntKind.wrap .u64 ((Go.bits .and .u64 x4 281470681808895) * 2 ^ min (Int.toNat 16) (IntKind.bits .u64)))) Z (pu_shl Z (tm Z) (AEv.int _ _) (by decide)) ?_
 obtain ⟨x5, x5e, h⟩ := letO_of h
 refine xa (.int .u64 x5) Z (APure.eq (pu_int (v := .int .u64 (Go.bits .or .u64 (Go.bits .and .u64 (x4 / 2 ^ min (Int.toNat 16) (IntKind.bits .u64)) 281470681808895) (IntKind.wrap .u64 ((Go.bits .and .u64 x4 281470681808895) * 2 ^ min (Int.toNat 16) (IntKind.bits .u64))))) Z Z (tm Z) (tm Z) Z) (congrArg (AV.int .u64) x5e.symm)) (xm Z Z Z (xe (xr (xm Z Z Z (xa (.int .u64 (x5 / 2 ^ min (Int.toNat 32) (IntKind.bits .u64))) Z (pu_shr Z (tm Z) (AEv.int _ _) (by decide)) (xm Z Z Z (xa (.int .u64 (IntKind.wrap .u64 (x5 * 2 ^ min (Int.toNat 32) (IntKind.bits .u64)))) Z (pu_shl Z (tm Z) (AEv.int _ _) (by decide)) ?_)))))))
 obtain ⟨x6, x6e, h⟩ := letO_of h
 refine xa (.int .u64 x6) Z (APure.eq (pu_int (v := .int .u64 (Go.bits .or .u64 (x5 / 2 ^ min (Int.toNat 32) (IntKind.bits .u64)) (IntKind.wrap .u64 (x5 * 2 ^ min (Int.toNat 32) (IntKind.bits .u64))))) Z Z (tm Z) (tm Z) Z) (congrArg (AV.int .u64) x6e.symm)) (xm Z Z Z (xe (aw_ret ?_)))
 obtain rfl := some_of h
 exact ⟨[.int .u64 x6], _, [], ⟨(tm Z), trivial⟩, vr, Weak.mkL [] (by decide) trivial trivial, ⟨Z, Z⟩⟩

theorem bits.Reverse64.ok {x_ : Int} {r : Int} (h : bits.Reverse64 x_ = some r) : Go.Lift.Spec prog 67 [.int .u64 x_] [] (fun v H => v = .int .u64 r ∧ H = []) := by
 unfold bits.Reverse64 at h
 refine Go.Lift.Spec.of_body (rs := [.tmp 2]) func67 Z Z (nb Z) Z (xr (xa (.int .u64 0) Z (pu_assign Z (AEv.int _ _)) (xe (xr (xm Z Z Z (xa (.int .u64 (x_ / 2 ^ min (Int.toNat 1) (IntKind.bits .u64))) Z (pu_shr Z (tm Z) (AEv.int _ _) (by decide)) (xa (.int .u64 (Go.bits .and .u64 (x_ / 2 ^ min (Int.toNat 1) (IntKind.bits .u64)) 6148914691236517205)) Z (pu_int (v := .int .u64 (Go.bits .and .u64 (x_ / 2 ^ min (Int.toNat 1) (IntKind.bits .u64)) 6148914691236517205)) Z Z (tm Z) (AEv.int _ _) Z) ?_)))))))
 refine xm Z Z Z (xa (.int .u64 (Go.bits .and .u64 x_ 6148914691236517205)) Z (pu_int (v := .int .u64 (Go.bits .and .u64 x_ 6148914691236517205)) Z Z (tm Z) (AEv.int _ _) Z) (xa (.int .u64 (IntKind.wrap .u64 ((Go.bits .and .u64 x_ 6148914691236517205) * 2 ^ min (Int.toNat 1) (IntKind.bits .u64)))) Z (pu_shl Z (tm Z) (AEv.int _ _) (by decide)) ?_))
 obtain ⟨x5, x5e, h⟩ := letO_of h
 refine xa (.int .u64 x5) Z (APure.eq (pu_int (v := .int .u64 (Go.bits .or .u64 (Go.bits .and .u64 (x_ / 2 ^ min (Int.toNat 1) (IntKind.bits .u64)) 6148914691236517205) (IntKind.wrap .u64 ((Go.bits .and .u64 x_ 6148914691236517205) * 2 ^ min (Int.toNat 1) (IntKind.bits .u64))))) Z Z (tm Z) (tm Z) Z) (congrArg (AV.int .u64) x5e.symm)) (xm Z Z Z (xe (xr (xm Z Z Z (xa (.int .u64 (x5 / 2 ^ min (Int.toNat 2) (IntKind.bits .u64))) Z (pu_shr Z (tm Z) (AEv.int _ _) (by decide)) (xa (.int .u64 (Go.bits .and .u64 (x5 / 2 ^ min (Int.toNat 2) (IntKind.bits .u64)) 3689348814741910323)) Z (pu_int (v := .int .u64 (Go.bits .and .u64 (x5 / 2 ^ min (Int.toNat 2) (IntKind.bits .u64)) 3689348814741910323)) Z Z (tm Z) (AEv.int _ _) Z) (xm Z Z Z (xa (.int .u64 (Go.bits .and .u64 x5 3689348814741910323)) Z (pu_int (v := .int .u64 (Go.bits .and .u64 x5 3689348814741910323)) Z Z (tm Z) (AEv.int _ _) Z) ?_))))))))
 refine xa (.int .u64 (IntKind.wrap .u64 ((Go.bits .and .u64 x5 3689348814741910323) * 2 ^ min (Int.toNat 2) (IntKind.bits .u64)))) Z (pu_shl Z (tm Z) (AEv.int _ _) (by decide)) ?_
 obtain ⟨x6, x6e, h⟩ := letO_of h
 refine xa (.int .u64 x6) Z (APure.eq (pu_int (v := .int .u64 (Go.bits .or .u64 (Go.bits .and .u64 (x5 / 2 ^ min (Int.toNat 2) (IntKind.bits .u64)) 3689348814741910323) (IntKind.wrap .u64 ((Go.bits .and .u64 x5 3689348814741910323) * 2 ^ min (Int.toNat 2) (IntKind.bits .u64))))) Z Z (tm Z) (tm Z) Z) (congrArg (AV.int .u64) x6e.symm)) (xm Z Z Z (xe (xr (xm Z Z Z (xa (.int .u64 (x6 / 2 ^ min (Int.toNat 4) (IntKind.bits .u64))) Z (pu_shr Z (tm Z) (AEv.int _ _) (by decide)) (xa (.int .u64 (Go.bits .and .u64 (x6 / 2 ^ min (Int.toNat 4) (IntKind.bits .u64)) 1085102592571150095)) Z (pu_int (v := .int .u64 (Go.bits .and .u64 (x6 / 2 ^ min (Int.toNat 4) (IntKind.bits .u64)) 1085102592571150095)) Z Z (tm Z) (AEv.int _ _) Z) (xm Z Z Z (xa (.int .u64 (Go.bits .and .u64 x6 1085102592571150095)) Z (pu_int (v := .int .u64 (Go.bits .and .u64 x6 1085102592571150095)) Z Z (tm Z) (AEv.int _ _) Z) ?_))))))))
 refine xa (.int .u64 (IntKind.wrap .u64 ((Go.bits .and .u64 x6 1085102592571150095) * 2 ^ min (Int.toNat 4) (IntKind.bits .u64)))) Z (pu_shl Z (tm Z) (AEv.int _ _) (by decide)) ?_
 obtain ⟨x7, x7e, h⟩ := letO_of h
 refine xa (.int .u64 x7) Z (APure.eq (pu_int (v := .int .u64 (Go.bits .or .u64 (Go.bits .and .u64 (x6 / 2 ^ min (Int.toNat 4) (IntKind.bits .u64)) 1085102592571150095) (IntKind.wrap .u64 ((Go.bits .and .u64 x6 1085102592571150095) * 2 ^ min (Int.toNat 4) (IntKind.bits .u64))))) Z Z (tm Z) (tm Z) Z) (congrArg (AV.int .u64) x7e.symm)) (xm Z Z Z (xe (xr (xm Z Z Z ?_))))
 obtain ⟨r8, r8e, h⟩ := bind_some h
 refine xc Z (op_call (vs := [.int .u64 x7]) (H := []) Z call69 ⟨(tm Z), trivial⟩ (List.Perm.refl _) (bits.ReverseBytes64.ok r8e) ?_)
 rintro _ _ ⟨rfl, rfl⟩
 refine xm Z Z Z (xe (aw_ret ?_))
 obtain rfl := some_of h
 exact ⟨[.int .u64 r8], _, [], ⟨(tm Z), trivial⟩, vr, Weak.mkL [] (by decide) trivial trivial, ⟨Z, Z⟩⟩

theorem hash.Turn.ok {n_ : Int} {b : Int} {r : Int} (h : hash.Turn n_ b = some r) : Go.Lift.Spec prog 56 [.int .u64 n_, .i b] [] (fun v H => v = .int .u64 r ∧ H = []) := by
 unfold hash.Turn at h
 refine Go.Lift.Spec.of_body (rs := [.tmp 4]) func56 Z Z (nb Z) Z (xr (xa (.int .u64 0) Z (pu_assign Z (AEv.int _ _)) (xe (aw_seq (xr (xm Z Z Z ?_))))))
 obtain ⟨r7, r7e, h⟩ := bind_some h
 refine xc Z (op_call (vs := [.i b]) (H := []) Z call66 ⟨(tm Z), trivial⟩ (List.Perm.refl _) (hash.size.ok r7e) ?_)
 rintro _ _ ⟨rfl, rfl⟩
 refine xa (.bool (decide (r7 = 0))) Z (pu_int (v := .bool (decide (r7 = 0))) Z Z (tm Z) (AEv.int _ _) Z) (xe (aw_cond (b := decide (r7 = 0)) (tm Z) (fun hb12 => ?_) (fun hb12 => ?_)))
 ·replace h := ite_t (dec_t hb12) h
  refine xr (xa (.int .u64 0) Z (pu_assign Z (AEv.int _ _)) (xe (aw_ret ?_)))
  obtain rfl := some_of h
  exact ⟨[.int .u64 0], _, [], ⟨(tm Z), trivial⟩, vr, Weak.mkL [] (by decide) trivial trivial, ⟨Z, Z⟩⟩
 ·replace h := ite_f (dec_f hb12) h
  refine aw_skip (xr (xm Z Z Z (xm Z Z Z ?_)))
  obtain ⟨r8, r8e, h⟩ := bind_some h
  refine xc Z (op_call (vs := [.int .u64 n_, .i b]) (H := []) Z call57 ⟨(tm Z), (tm Z), trivial⟩ (List.Perm.refl _) (hash.low.ok r8e) ?_)
  rintro _ _ ⟨rfl, rfl⟩
  obtain ⟨r9, r9e, h⟩ := bind_some h
  refine xc Z (op_call (vs := [.int .u64 r8]) (H := []) Z call67 ⟨(tm Z), trivial⟩ (List.Perm.refl _) (bits.Reverse64.ok r9e) ?_)
  rintro _ _ ⟨rfl, rfl⟩
  refine xm Z Z Z ?_
  obtain ⟨r10, r10e, h⟩ := bind_some h
  refine xc Z (op_call (vs := [.i b]) (H := []) Z call66 ⟨(tm Z), trivial⟩ (List.Perm.refl _) (hash.size.ok r10e) ?_)
  rintro _ _ ⟨rfl, rfl⟩
  refine xa (.i (IntKind.wrap .i64 (64 - r10))) Z (pu_int (v := .i (IntKind.wrap .i64 (64 - r10))) Z Z (AEv.int _ _) (tm Z) Z) ?_
  obtain ⟨c11, h⟩ := need_of h
  refine xa (.int .u64 (r9 / 2 ^ min (Int.toNat (IntKind.wrap .i64 (64 - r10))) (IntKind.bits .u64))) Z (pu_shr Z (tm Z) (tm Z) c11) (xm Z Z Z (xe (aw_ret ?_)))
  obtain rfl := some_of h
  exact ⟨[.int .u64 (r9 / 2 ^ min (Int.toNat (IntKind.wrap .i64 (64 - r10))) (IntKind.bits .u64))], _, [], ⟨(tm Z), trivial⟩, vr, Weak.mkL [] (by decide) trivial trivial, ⟨Z, Z⟩⟩

theorem hash.Next.ok {cursor : Int} {b : Int} {r : Int} (h : hash.Next cursor b = some r) : Go.Lift.Spec prog 44 [.int .u64 cursor, .i b] [] (fun v H => v = .int .u64 r ∧ H = []) := by
 unfold hash.Next at h
 refine Go.Lift.Spec.of_body (rs := [.tmp 4]) func44 Z Z (nb Z) Z (xr (xa (.int .u64 0) Z (pu_assign Z (AEv.int _ _)) (xe (xr (xm Z Z Z (xm Z Z Z ?_))))))
 obtain ⟨r3, r3e, h⟩ := bind_some h
 refine xc Z (op_call (vs := [.int .u64 cursor, .i b]) (H := []) Z call56 ⟨(tm Z), (tm Z), trivial⟩ (List.Perm.refl _) (hash.Turn.ok r3e) ?_)
 rintro _ _ ⟨rfl, rfl⟩
 refine xa (.int .u64 (IntKind.wrap .u64 (r3 + 1))) Z (pu_int (v := .int .u64 (IntKind.wrap .u64 (r3 + 1))) Z Z (tm Z) (AEv.int _ _) Z) (xm Z Z Z ?_)
 obtain ⟨r4, r4e, h⟩ := bind_some h
 refine xc Z (op_call (vs := [.int .u64 (IntKind.wrap .u64 (r3 + 1)), .i b]) (H := []) Z call56 ⟨(tm Z), (tm Z), trivial⟩ (List.Perm.refl _) (hash.Turn.ok r4e) ?_)
 rintro _ _ ⟨rfl, rfl⟩
 refine xm Z Z Z (xe (aw_ret ?_))
 obtain rfl := some_of h
 exact ⟨[.int .u64 r4], _, [], ⟨(tm Z), trivial⟩, vr, Weak.mkL [] (by decide) trivial trivial, ⟨Z, Z⟩⟩

end Go.Pu
