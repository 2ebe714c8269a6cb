/- Printed by lift.py: the functions come to them. -/
import Derived.Test.YtfapgollkabopaaLiftW
import Derived.Test.YtfapgollkabopaaCPK2
set_option maxRecDepth 100000
set_option maxHeartbeats 0
namespace Go.Pu
open Go.Lift Go.Proofs.Try Go.RowKit Go.Proofs

theorem mewsref05.SameInput.ok {a : api.Input} {b : api.Input} {r : Bool} (h : mewsref05.SameInput a b = some r) : Go.Lift.Spec prog 17 [.agg (api.Input.ct .no a), .agg (api.Input.ct .no b)] [] (fun v H => v = .bool r ∧ H = []) := by
 unfold mewsref05.SameInput at h
 refine Go.Lift.Spec.of_body (rs := [.tmp 4]) func17 Z Z (nb Z) Z (xr (xc Z (op_box (cs := (api.Input.ct .no a)) (v := .agg (api.Input.ct .no a)) Z (tm Z) Z Z ?_)))
 intro p20
 refine xc Z (op_box (cs := (api.Input.ct .no b)) (v := .agg (api.Input.ct .no b)) Z (tm Z) Z Z ?_)
 intro p21
 refine xa (.bool false) Z (pu_assign Z (AEv.bool _)) (xe ?_)
 obtain ⟨s29, s29e, h30⟩ := bind_some h
 refine aw_meet (ν := Unit) (fun v => [(4, .bool s29)]) (fun v => []) ?_ ?_
 ·have h := s29e
  refine aw_region (xa (.ptr p20 0) Z (fa Z underlying29 Z sizeOf9 Z Z Z) (xc Z (op_load1 (i := 1) Z isAgg9 (tm Z) Z Z (xa (.ptr p21 0) Z (fa Z underlying29 Z sizeOf9 Z Z Z) (xc Z (op_load1 (i := 0) Z isAgg9 (tm Z) Z Z (xa (.bool (decide (a.Rest = b.Rest))) Z (pu_str (v := .bool (decide (a.Rest = b.Rest))) Z Z (tm Z) (tm Z) Z) (xm Z Z Z ?_))))))))
  rcases Bool.eq_false_or_eq_true (decide (a.Rest = b.Rest)) with hb32 | hb32
  ·replace h := ite_t (dec_t hb32) h
   refine aops_known 10 Z hb32 (xp (.ptr p20 1) Z Z (fa Z underlying29 Z sizeOf26 Z Z Z) (xg Z Z (op_load1 (i := 1) Z isAgg26 (tm Z) Z Z (xp (.ptr p21 1) Z Z (fa Z underlying29 Z sizeOf26 Z Z Z) (xg Z Z (op_load1 (i := 0) Z isAgg26 (tm Z) Z Z ?_))))))
   obtain ⟨r33, r33e, h⟩ := bind_some h
   refine xg Z Z (op_call (vs := [.sl .no 1 (a.Args.map AV.str), .sl .no 1 (b.Args.map AV.str)]) (H := []) Z call55 ⟨(tm Z), (tm Z), trivial⟩ (List.Perm.refl _) (mewsref05.texts.ok r33e) ?_)
   rintro _ _ ⟨rfl, rfl⟩
   refine xa (.bool r33) Z (pu_pick (b := true) Z (tm Z) (fun _ => (tm Z)) (fun h => nomatch h)) (xm Z Z Z ?_)
   rcases Bool.eq_false_or_eq_true r33 with hb34 | hb34
   ·replace h := ite_t hb34 h
    refine aops_known 17 Z hb34 (xp (.ptr p20 2) Z Z (fa Z underlying29 Z sizeOf3 Z Z Z) (xg Z Z (op_load1 (i := 1) Z isAgg3 (tm Z) Z Z (xp (.ptr p21 2) Z Z (fa Z underlying29 Z sizeOf3 Z Z Z) (xg Z Z (op_load1 (i := 0) Z isAgg3 (tm Z) Z Z (xp (.bool (decide (a.Left = b.Left))) Z Z (pu_int (v := .bool (decide (a.Left = b.Left))) Z Z (tm Z) (tm Z) Z) (xa (.bool (decide (a.Left = b.Left))) Z (pu_pick (b := true) Z (tm Z) (fun _ => (tm Z)) (fun h => nomatch h)) (xm Z Z Z ?_)))))))))
    rcases Bool.eq_false_or_eq_true (decide (a.Left = b.Left)) with hb35 | hb35
    ·replace h := ite_t (dec_t hb35) h
     refine aops_known 24 Z hb35 (xp (.ptr p20 3) Z Z (fa Z underlying29 Z sizeOf3 Z Z Z) (xg Z Z (op_load1 (i := 1) Z isAgg3 (tm Z) Z Z (xp (.ptr p21 3) Z Z (fa Z underlying29 Z sizeOf3 Z Z Z) (xg Z Z (op_load1 (i := 0) Z isAgg3 (tm Z) Z Z (xp (.bool (decide (a.Size = b.Size))) Z Z (pu_int (v := .bool (decide (a.Size = b.Size))) Z Z (tm Z) (tm Z) Z) (xa (.bool (decide (a.Size = b.Size))) Z (pu_pick (b := true) Z (tm Z) (fun _ => (tm Z)) (fun h => nomatch h)) (xm Z Z Z ?_)))))))))
     rcases Bool.eq_false_or_eq_true (decide (a.Size = b.Size)) with hb36 | hb36
     ·replace h := ite_t (dec_t hb36) h
      refine aops_known 31 Z hb36 (xp (.ptr p20 4) Z Z (fa Z underlying29 Z sizeOf4 Z Z Z) (xg Z Z (op_load1 (i := 1) Z isAgg4 (tm Z) Z Z (xp (.ptr p21 4) Z Z (fa Z underlying29 Z sizeOf4 Z Z Z) (xg Z Z (op_load1 (i := 0) Z isAgg4 (tm Z) Z Z (xp (.bool (a.Body == b.Body)) Z Z (pu_boolEq Z underlying4 (tm Z) (tm Z)) (xa (.bool (a.Body == b.Body)) Z (pu_pick (b := true) Z (tm Z) (fun _ => (tm Z)) (fun h => nomatch h)) (xm Z Z Z ?_)))))))))
      rcases Bool.eq_false_or_eq_true (a.Body == b.Body) with hb37 | hb37
      ·replace h := ite_t hb37 h
       refine aops_known 38 Z hb37 (xp (.ptr p20 5) Z Z (fa Z underlying29 Z sizeOf3 Z Z Z) (xg Z Z (op_load1 (i := 1) Z isAgg3 (tm Z) Z Z (xp (.ptr p21 5) Z Z (fa Z underlying29 Z sizeOf3 Z Z Z) (xg Z Z (op_load1 (i := 0) Z isAgg3 (tm Z) Z Z (xp (.bool (decide (a.Need = b.Need))) Z Z (pu_int (v := .bool (decide (a.Need = b.Need))) Z Z (tm Z) (tm Z) Z) (xa (.bool (decide (a.Need = b.Need))) Z (pu_pick (b := true) Z (tm Z) (fun _ => (tm Z)) (fun h => nomatch h)) (xm Z Z Z ?_)))))))))
       rcases Bool.eq_false_or_eq_true (decide (a.Need = b.Need)) with hb38 | hb38
       ·replace h := ite_t (dec_t hb38) h
        refine aops_known 45 Z hb38 (xp (.ptr p20 6) Z Z (fa Z underlying29 Z sizeOf27 Z Z Z) (xg Z Z (op_load1 (i := 1) Z isAgg27 (tm Z) Z Z (xp (.ptr p21 6) Z Z (fa Z underlying29 Z sizeOf27 Z Z Z) (xg Z Z (op_load1 (i := 0) Z isAgg27 (tm Z) Z Z (xp (.bool (decide (a.Dead = b.Dead))) Z Z (pu_int (v := .bool (decide (a.Dead = b.Dead))) Z Z (tm Z) (tm Z) Z) (xa (.bool (decide (a.Dead = b.Dead))) Z (pu_pick (b := true) Z (tm Z) (fun _ => (tm Z)) (fun h => nomatch h)) (xm Z Z Z (xe ?_))))))))))
        obtain rfl := some_of h
        exact ⟨(), Weak.mkL [] (by decide) trivial ⟨(AEv.le (tm Z) vr), trivial⟩⟩
       ·replace h := ite_f (dec_f hb38) h
        refine aops_known 45 Z hb38 (xn Z Z Z (xn Z Z Z (xn Z Z Z (xn Z Z Z (xn Z Z Z (xa (.bool false) Z (pu_pick (b := false) Z (tm Z) (fun h => nomatch h) (fun _ => (AEv.bool _))) (xm Z Z Z (xe ?_))))))))
        obtain rfl := some_of h
        exact ⟨(), Weak.mkL [] (by decide) trivial ⟨tm Z, trivial⟩⟩
      ·replace h := ite_fb hb37 h
       refine aops_known 38 Z hb37 (xn Z Z Z (xn Z Z Z (xn Z Z Z (xn Z Z Z (xn Z Z Z (xa (.bool false) Z (pu_pick (b := false) Z (tm Z) (fun h => nomatch h) (fun _ => (AEv.bool _))) (xm Z Z Z (xn Z Z Z (xn Z Z Z ?_)))))))))
       refine xn Z Z Z (xn Z Z Z (xn Z Z Z (xa (.bool false) Z (pu_pick (b := false) Z (tm Z) (fun h => nomatch h) (fun _ => (AEv.bool _))) (xm Z Z Z (xe ?_)))))
       obtain rfl := some_of h
       exact ⟨(), Weak.mkL [] (by decide) trivial ⟨tm Z, trivial⟩⟩
     ·replace h := ite_f (dec_f hb36) h
      refine aops_known 31 Z hb36 (xn Z Z Z (xn Z Z Z (xn Z Z Z (xn Z Z Z (xn Z Z Z (xa (.bool false) Z (pu_pick (b := false) Z (tm Z) (fun h => nomatch h) (fun _ => (AEv.bool _))) (xm Z Z Z (xn Z Z Z (xn Z Z Z ?_)))))))))
      refine xn Z Z Z (xn Z Z Z (xn Z Z Z (xa (.bool false) Z (pu_pick (b := false) Z (tm Z) (fun h => nomatch h) (fun _ => (AEv.bool _))) (xm Z Z Z (xn Z Z Z (xn Z Z Z (xn Z Z Z (xn Z Z Z (xn Z Z Z ?_)))))))))
      refine xa (.bool false) Z (pu_pick (b := false) Z (tm Z) (fun h => nomatch h) (fun _ => (AEv.bool _))) (xm Z Z Z (xe ?_))
      obtain rfl := some_of h
      exact ⟨(), Weak.mkL [] (by decide) trivial ⟨tm Z, trivial⟩⟩
    ·replace h := ite_f (dec_f hb35) h
     refine aops_known 24 Z hb35 (xn Z Z Z (xn Z Z Z (xn Z Z Z (xn Z Z Z (xn Z Z Z (xa (.bool false) Z (pu_pick (b := false) Z (tm Z) (fun h => nomatch h) (fun _ => (AEv.bool _))) (xm Z Z Z (xn Z Z Z (xn Z Z Z ?_)))))))))
     refine xn Z Z Z (xn Z Z Z (xn Z Z Z (xa (.bool false) Z (pu_pick (b := false) Z (tm Z) (fun h => nomatch h) (fun _ => (AEv.bool _))) (xm Z Z Z (xn Z Z Z (xn Z Z Z (xn Z Z Z (xn Z Z Z (xn Z Z Z ?_)))))))))
     refine xa (.bool false) Z (pu_pick (b := false) Z (tm Z) (fun h => nomatch h) (fun _ => (AEv.bool _))) (xm Z Z Z (xn Z Z Z (xn Z Z Z (xn Z Z Z (xn Z Z Z (xn Z Z Z (xa (.bool false) Z (pu_pick (b := false) Z (tm Z) (fun h => nomatch h) (fun _ => (AEv.bool _))) (xm Z Z Z (xe ?_)))))))))
     obtain rfl := some_of h
     exact ⟨(), Weak.mkL [] (by decide) trivial ⟨tm Z, trivial⟩⟩
   ·replace h := ite_fb hb34 h
    refine aops_known 17 Z hb34 (xn Z Z Z (xn Z Z Z (xn Z Z Z (xn Z Z Z (xn Z Z Z (xa (.bool false) Z (pu_pick (b := false) Z (tm Z) (fun h => nomatch h) (fun _ => (AEv.bool _))) (xm Z Z Z (xn Z Z Z (xn Z Z Z ?_)))))))))
    refine xn Z Z Z (xn Z Z Z (xn Z Z Z (xa (.bool false) Z (pu_pick (b := false) Z (tm Z) (fun h => nomatch h) (fun _ => (AEv.bool _))) (xm Z Z Z (xn Z Z Z (xn Z Z Z (xn Z Z Z (xn Z Z Z (xn Z Z Z ?_)))))))))
    refine xa (.bool false) Z (pu_pick (b := false) Z (tm Z) (fun h => nomatch h) (fun _ => (AEv.bool _))) (xm Z Z Z (xn Z Z Z (xn Z Z Z (xn Z Z Z (xn Z Z Z (xn Z Z Z (xa (.bool false) Z (pu_pick (b := false) Z (tm Z) (fun h => nomatch h) (fun _ => (AEv.bool _))) (xm Z Z Z (xn Z Z Z ?_)))))))))
    refine xn Z Z Z (xn Z Z Z (xn Z Z Z (xn Z Z Z (xa (.bool false) Z (pu_pick (b := false) Z (tm Z) (fun h => nomatch h) (fun _ => (AEv.bool _))) (xm Z Z Z (xe ?_))))))
    obtain rfl := some_of h
    exact ⟨(), Weak.mkL [] (by decide) trivial ⟨tm Z, trivial⟩⟩
  ·replace h := ite_f (dec_f hb32) h
   refine aops_known 10 Z hb32 (xn Z Z Z (xn Z Z Z (xn Z Z Z (xn Z Z Z (xn Z Z Z (xa (.bool false) Z (pu_pick (b := false) Z (tm Z) (fun h => nomatch h) (fun _ => (AEv.bool _))) (xm Z Z Z (xn Z Z Z (xn Z Z Z ?_)))))))))
   refine xn Z Z Z (xn Z Z Z (xn Z Z Z (xa (.bool false) Z (pu_pick (b := false) Z (tm Z) (fun h => nomatch h) (fun _ => (AEv.bool _))) (xm Z Z Z (xn Z Z Z (xn Z Z Z (xn Z Z Z (xn Z Z Z (xn Z Z Z ?_)))))))))
   refine xa (.bool false) Z (pu_pick (b := false) Z (tm Z) (fun h => nomatch h) (fun _ => (AEv.bool _))) (xm Z Z Z (xn Z Z Z (xn Z Z Z (xn Z Z Z (xn Z Z Z (xn Z Z Z (xa (.bool false) Z (pu_pick (b := false) Z (tm Z) (fun h => nomatch h) (fun _ => (AEv.bool _))) (xm Z Z Z (xn Z Z Z ?_)))))))))
   refine xn Z Z Z (xn Z Z Z (xn Z Z Z (xn Z Z Z (xa (.bool false) Z (pu_pick (b := false) Z (tm Z) (fun h => nomatch h) (fun _ => (AEv.bool _))) (xm Z Z Z (xn Z Z Z (xn Z Z Z (xn Z Z Z (xn Z Z Z ?_)))))))))
   refine xn Z Z Z (xa (.bool false) Z (pu_pick (b := false) Z (tm Z) (fun h => nomatch h) (fun _ => (AEv.bool _))) (xm Z Z Z (xe ?_)))
   obtain rfl := some_of h
   exact ⟨(), Weak.mkL [] (by decide) trivial ⟨tm Z, trivial⟩⟩
 ·intro _
  have h := h30
  refine aw_ret ?_
  obtain rfl := some_of h
  exact ⟨[.bool s29], _, [], ⟨(tm Z), trivial⟩, vr, Weak.mkL [] (by decide) trivial trivial, ⟨Z, Z⟩⟩

theorem mewslaw43.far.ok {l : List mewslaw43.Op} {r : Bool} (h : mewslaw43.far l = some r) : Go.Lift.Spec prog 24 [.sl .no 4 (l.map mewslaw43.Op.av)] [] (fun v H => v = .bool r ∧ H = []) := by
 unfold mewslaw43.far at h
 refine Go.Lift.Spec.of_body (rs := [.tmp 2]) func24 Z Z (nb Z) Z (xr (xa (.bool false) Z (pu_assign Z (AEv.bool _)) (xe (xr (xa (.i 0) Z (pu_assign Z (AEv.int _ _)) (xe ?_))))))
 obtain ⟨s80, s80e, h60⟩ := bind_some h
 refine aw_join (σ := Unit) (ν := Unit) (fun u v => []) (fun u v => []) (fun u => s80 = .inl u) ?_ ?_
 ·intro s59
  intro _
  rintro rfl
  have h := onSum_inl h60
  refine xr (xa (.bool false) Z (pu_assign Z (AEv.bool _)) (xe (aw_ret ?_)))
  obtain rfl := some_of h
  exact ⟨[.bool false], _, [], ⟨(tm Z), trivial⟩, vr, Weak.mkL [] (by decide) trivial trivial, ⟨Z, Z⟩⟩
 ·have h := s80e
  refine xr (xm Z Z Z (xa (.i (l.length : Int)) Z (pu_lenM Z underlying50 (tm Z)) (xa (.i 0) Z (pu_move Z (AEv.int _ _)) (xe (aw_block (aw_while (σ := mewslaw43.far.S0) (ν := Unit) (mewslaw43.far.body0 l) (fun s72 v => [(3, .i s72.n), (6, .sl .no 4 (l.map mewslaw43.Op.av)), (7, .i (l.length : Int)), (8, .i s72.t8)]) (fun s72 v => []) ⟨0, 0⟩ () _ h (Weak.mkL [] (by decide) trivial ⟨tm Z, tm Z, tm Z, tm Z, trivial⟩) ?_))))))
  rintro s72 _ x74 h hx73
  unfold mewslaw43.far.body0 at h
  refine xr (xa (.bool (decide (s72.t8 < (l.length : Int)))) Z (pu_int (v := .bool (decide (s72.t8 < (l.length : Int)))) Z Z (tm Z) (tm Z) Z) (xe (aw_seq (aw_cond (b := decide (s72.t8 < (l.length : Int))) (tm Z) (fun hb79 => ?_) (fun hb79 => ?_)))))
  ·replace h := ite_t (dec_t hb79) h
   refine aw_skip (aw_seq (aw_block (aw_seq (aw_region ?_))))
   obtain ⟨c76, h⟩ := need_of h
   refine xa (.vptr [.i (ix l s72.t8).Kind, .str (ix l s72.t8).S, .i (ix l s72.t8).N, .i (ix l s72.t8).M]) Z (pu_indexAddrM Z underlying50 sizeOf59 (tm Z) (tm Z) c76 Z) (xc Z (op_loadVN Z isAgg59 sizeOf59 (tm Z) (nb Z) Z (xc Z (op_alloc (cs := [.i 0, .str ([] : List UInt8), .i 0, .i 0]) (v := .agg [.i 0, .str ([] : List UInt8), .i 0, .i 0]) Z zeroValue59 Z Z Z ?_))))
   intro p77
   refine ac0 Z Z (op_store (i := 0) (cs' := (mewslaw43.Op.ct (ix l s72.t8))) Z sizeOf59 (tm Z) (v := .agg (mewslaw43.Op.ct (ix l s72.t8))) (tm Z) Z Z Z (nb Z) Z (xe (xr (xm Z Z Z (xa (.ptr p77 1) Z (fa Z underlying59 Z sizeOf9 Z Z Z) (xc Z (op_load1 (i := 0) Z isAgg9 (tm Z) Z Z (xa (.i ((ix l s72.t8).S.length : Int)) Z (pu_strLen Z underlying9 (tm Z)) (xa (.i (if 10000 < ((ix l s72.t8).S.length : Int) then 10000 else ((ix l s72.t8).S.length : Int))) Z (pu_min2 Z (tm Z) (AEv.int _ _)) (xa (.i (IntKind.wrap .i64 (1 + (if 10000 < ((ix l s72.t8).S.length : Int) then 10000 else ((ix l s72.t8).S.length : Int))))) Z (pu_int (v := .i (IntKind.wrap .i64 (1 + (if 10000 < ((ix l s72.t8).S.length : Int) then 10000 else ((ix l s72.t8).S.length : Int))))) Z Z (AEv.int _ _) (tm Z) Z) ?_))))))))))
   refine xa (.i (IntKind.wrap .i64 (s72.n + (IntKind.wrap .i64 (1 + (if 10000 < ((ix l s72.t8).S.length : Int) then 10000 else ((ix l s72.t8).S.length : Int))))))) Z (pu_int (v := .i (IntKind.wrap .i64 (s72.n + (IntKind.wrap .i64 (1 + (if 10000 < ((ix l s72.t8).S.length : Int) then 10000 else ((ix l s72.t8).S.length : Int))))))) Z Z (tm Z) (tm Z) Z) (xm Z Z Z (xe (xr (xm Z Z Z (xa (.bool (decide (3000 < (IntKind.wrap .i64 (s72.n + (IntKind.wrap .i64 (1 + (if 10000 < ((ix l s72.t8).S.length : Int) then 10000 else ((ix l s72.t8).S.length : Int))))))))) Z (pu_int (v := .bool (decide (3000 < (IntKind.wrap .i64 (s72.n + (IntKind.wrap .i64 (1 + (if 10000 < ((ix l s72.t8).S.length : Int) then 10000 else ((ix l s72.t8).S.length : Int))))))))) Z Z (tm Z) (AEv.int _ _) Z) (xe (aw_cond (b := decide (3000 < (IntKind.wrap .i64 (s72.n + (IntKind.wrap .i64 (1 + (if 10000 < ((ix l s72.t8).S.length : Int) then 10000 else ((ix l s72.t8).S.length : Int)))))))) (tm Z) (fun hb78 => ?_) (fun hb78 => ?_))))))))
   ·replace h := ite_t (dec_t hb78) h
    refine xr (xa (.bool true) Z (pu_assign Z (AEv.bool _)) (xe (aw_ret ?_)))
    obtain rfl := some_of h
    have h := congrArg some (hx73 _ rfl)
    obtain rfl := some_of h
    have h := onSum_inr h60
    obtain rfl := some_of h
    exact ⟨[.bool true], _, [], ⟨(tm Z), trivial⟩, vr, Weak.mkL [] (by decide) trivial trivial, ⟨Z, Z⟩⟩
   ·replace h := ite_f (dec_f hb78) h
    refine aw_skip (aw_region (xa (.i (IntKind.wrap .i64 (s72.t8 + 1))) Z (pu_int (v := .i (IntKind.wrap .i64 (s72.t8 + 1))) Z Z (tm Z) (AEv.int _ _) Z) (xm Z Z Z (xe ?_))))
    obtain rfl := some_of h
    exact ⟨_, (), Z, Weak.mkL [] (by decide) trivial ⟨(AEv.le (tm Z) vr), tm Z, tm Z, (AEv.le (tm Z) vr), trivial⟩⟩
  ·replace h := ite_f (dec_f hb79) h
   refine aw_exit ?_
   obtain rfl := some_of h
   have h := congrArg some (hx73 _ rfl)
   exact ⟨(), (), (some_of h).symm, Weak.mkL [] (by decide) trivial trivial⟩

theorem conn.Open.ok {now : Int} {r : api.Conn} (h : conn.Open now = some r) : Go.Lift.Spec prog 26 [.i now] [] (fun v H => v = .agg [.i r.Born, .i r.Tenant, .str r.In.Rest, .sl .full 1 (r.In.Args.map AV.str), .i r.In.Left, .i r.In.Size, .bool r.In.Body, .i r.In.Need, .i r.In.Dead, .i r.Asked, .sl .full 2 (r.Held.map api.Held.av), .str r.Out, .i r.Taken, .bool r.Shut, .bool r.Closed] ∧ H = []) := by
 unfold conn.Open at h
 refine Go.Lift.Spec.of_body (rs := [.cell 2 56]) func26 Z Z (nb Z) Z (xr (xc Z (op_alloc (cs := [.i 0, .i 0, .str ([] : List UInt8), .sl .full 1 (([] : List (List UInt8)).map AV.str), .i 0, .i 0, .bool false, .i 0, .i 0, .i 0, .sl .full 2 (([] : List api.Held).map api.Held.av), .str ([] : List UInt8), .i 0, .bool false, .bool false]) (v := .agg [.i 0, .i 0, .str ([] : List UInt8), .sl .full 1 (([] : List (List UInt8)).map AV.str), .i 0, .i 0, .bool false, .i 0, .i 0, .i 0, .sl .full 2 (([] : List api.Held).map api.Held.av), .str ([] : List UInt8), .i 0, .bool false, .bool false]) Z zeroValue56 Z Z Z ?_)))
 intro p2
 refine xe (xr (xm Z Z Z (xa (.agg [.i now, .i (-1), .str ([] : List UInt8), .sl .full 1 (([] : List (List UInt8)).map AV.str), .i 0, .i 0, .bool false, .i 0, .i 0, .i 0, .sl .full 2 (([] : List api.Held).map api.Held.av), .str ([] : List UInt8), .i 0, .bool false, .bool false]) Z (pu_build (zs := [.i 0, .i 0, .str ([] : List UInt8), .sl .full 1 (([] : List (List UInt8)).map AV.str), .i 0, .i 0, .bool false, .i 0, .i 0, .i 0, .sl .full 2 (([] : List api.Held).map api.Held.av), .str ([] : List UInt8), .i 0, .bool false, .bool false]) (szs := [1, 1, 7, 1, 1, 1, 1, 1, 1]) (aparts := [(0, .i now), (1, .i (-1))]) (cs := [.i now, .i (-1), .str ([] : List UInt8), .sl .full 1 (([] : List (List UInt8)).map AV.str), .i 0, .i 0, .bool false, .i 0, .i 0, .i 0, .sl .full 2 (([] : List api.Held).map api.Held.av), .str ([] : List UInt8), .i 0, .bool false, .bool false]) Z underlying56 zeroValue56 Z ⟨sizeOf2, sizeOf3, sizeOf29, sizeOf3, sizeOf54, sizeOf9, sizeOf3, sizeOf4, sizeOf4, trivial⟩ ⟨Z, (tm Z), ⟨Z, (AEv.int _ _), trivial⟩⟩ Z) (ac0 Z Z (op_store (i := 0) (cs' := [.i now, .i (-1), .str ([] : List UInt8), .sl .full 1 (([] : List (List UInt8)).map AV.str), .i 0, .i 0, .bool false, .i 0, .i 0, .i 0, .sl .full 2 (([] : List api.Held).map api.Held.av), .str ([] : List UInt8), .i 0, .bool false, .bool false]) Z sizeOf56 (tm Z) (v := .agg [.i now, .i (-1), .str ([] : List UInt8), .sl .full 1 (([] : List (List UInt8)).map AV.str), .i 0, .i 0, .bool false, .i 0, .i 0, .i 0, .sl .full 2 (([] : List api.Held).map api.Held.av), .str ([] : List UInt8), .i 0, .bool false, .bool false]) (tm Z) Z Z Z (nb Z) Z (xe (aw_ret ?_)))))))
 obtain rfl := some_of h
 exact ⟨[.agg [.i now, .i (-1), .str ([] : List UInt8), .sl .full 1 (([] : List (List UInt8)).map AV.str), .i 0, .i 0, .bool false, .i 0, .i 0, .i 0, .sl .full 2 (([] : List api.Held).map api.Held.av), .str ([] : List UInt8), .i 0, .bool false, .bool false]], _, [], ⟨(CellOk.agg 0 (tm Z) Z isAgg56 sizeOf56 (nb Z) Z), trivial⟩, vr, Weak.mkL [] (by decide) trivial trivial, ⟨Z, Z⟩⟩

theorem slices.Clone_api_Held.ok {s : List api.Held} {r : List api.Held} (h : slices.Clone_api_Held s = some r) : Go.Lift.Spec prog 61 [.sl .no 2 (s.map api.Held.av)] [] (fun v H => ∃ n0, v = .sl (.own n0) 2 (r.map api.Held.av) ∧ H = [(n0, .spare)]) := by
 unfold slices.Clone_api_Held at h
 obtain ⟨c, h⟩ := need_of h
 obtain rfl := some_of h
 refine Go.Lift.Spec.of_body (rs := [.tmp 2]) func61 Z Z (nb Z) Z (xr (xa (.sl .full 2 (([] : List api.Held).map api.Held.av)) Z (pu_assign Z (AEv.nil 2 (by decide))) (xe (aw_seq (xr (xm Z Z Z (xc Z (op_nilSlice Z underlying54 (tm Z) fun b hb => ?_))))))))
 refine xe (aw_cond (b := b) (tm Z) (fun hb2 => ?_) (fun hb2 => ?_))
 ·have hs : s = [] := List.map_eq_nil_iff.1 (hb hb2)
  subst hs
  refine xr (xa (.sl .full 2 (([] : List api.Held).map api.Held.av)) Z (pu_assign Z (AEv.nil 2 (by decide))) (xe (aw_claim 2 (tm Z) fun t => (aw_ret ?_))))
  exact ⟨[.sl (.own t) 2 (([] : List api.Held).map api.Held.av)], _, [(t, .spare)], ⟨tm Z, trivial⟩, AV.Le.refl _, Weak.mkL [0] (by decide) ⟨⟨_, Z, Z⟩, trivial⟩ trivial, ⟨t, Z, Z⟩⟩
 ·refine aw_skip (xr (xc Z (op_buildSlice (xs := ([] : List api.Held).map api.Held.av) (aparts := []) Z underlying54 sizeOf61 zeroValue61 (by decide) (by decide) trivial Z Z Z (xm Z Z Z (xc Z (op_appendFM Z underlying54 underlying54 (.inl Z) typeInfo61 Z Z Z (by decide) (tm Z) (given_sl (tm Z)) c ?_))))))
  intro t
  refine xm Z Z Z (xe (aw_ret ?_))
  exact ⟨[.sl (.own t) 2 (([] ++ s).map api.Held.av)], _, [(t, .spare)], ⟨tm Z, trivial⟩, AV.Le.refl _, Weak.mkL [0] (by decide) ⟨⟨_, Z, Z⟩, trivial⟩ trivial, ⟨t, Z, Z⟩⟩

theorem conn.Free.ok {c_ : api.Conn} {durable : Int} {r : api.Conn} (h : conn.Free c_ durable = some r) : Go.Lift.Spec prog 28 [.agg (api.Conn.ct .no .no c_), .i durable] [] (fun v H => ∃ n0, v = .agg [.i r.Born, .i r.Tenant, .str r.In.Rest, .sl .no 1 (r.In.Args.map AV.str), .i r.In.Left, .i r.In.Size, .bool r.In.Body, .i r.In.Need, .i r.In.Dead, .i r.Asked, .sl (.own n0) 2 (r.Held.map api.Held.av), .str r.Out, .i r.Taken, .bool r.Shut, .bool r.Closed] ∧ H = [(n0, .spare)]) := by
 unfold conn.Free at h
 refine Go.Lift.Spec.of_body (rs := [.cell 4 56]) func28 Z Z (nb Z) Z (xr (xc Z (op_box (cs := (api.Conn.ct .no .no c_)) (v := .agg (api.Conn.ct .no .no c_)) Z (tm Z) Z Z ?_)))
 intro p60
 refine xc Z (op_alloc (cs := [.i 0, .i 0, .str ([] : List UInt8), .sl .full 1 (([] : List (List UInt8)).map AV.str), .i 0, .i 0, .bool false, .i 0, .i 0, .i 0, .sl .full 2 (([] : List api.Held).map api.Held.av), .str ([] : List UInt8), .i 0, .bool false, .bool false]) (v := .agg [.i 0, .i 0, .str ([] : List UInt8), .sl .full 1 (([] : List (List UInt8)).map AV.str), .i 0, .i 0, .bool false, .i 0, .i 0, .i 0, .sl .full 2 (([] : List api.Held).map api.Held.av), .str ([] : List UInt8), .i 0, .bool false, .bool false]) Z zeroValue56 Z Z Z ?_)
 intro p61
 refine xe (aw_scope (xr (xa (.i 0) Z (pu_assign Z (AEv.int _ _)) (xe (aw_seq (aw_label ?_))))))
 obtain ⟨s83, s83e, h84⟩ := bind_some h
 refine aw_meet (ν := Unit) (fun v => [(2, .ptr p60 0), (4, .ptr p61 0), (5, .i s83.1)]) (fun v => [(p60, .cells (api.Conn.ct .no .no { c_ with Out := s83.2 })), (p61, .cells [.i 0, .i 0, .str ([] : List UInt8), .sl .full 1 (([] : List (List UInt8)).map AV.str), .i 0, .i 0, .bool false, .i 0, .i 0, .i 0, .sl .full 2 (([] : List api.Held).map api.Held.av), .str ([] : List UInt8), .i 0, .bool false, .bool false])]) ?_ ?_
 ·have h := s83e
  refine xr (xa (.ptr p60 10) Z (fa Z underlying56 Z sizeOf54 Z Z Z) (xc Z (op_load1 (i := 1) Z isAgg54 (tm Z) Z Z (xa (.i (c_.Held.length : Int)) Z (pu_lenM Z underlying54 (tm Z)) (xa (.i 0) Z (pu_move Z (AEv.int _ _)) (xe (aw_block (aw_while (σ := conn.Free.S0) (ν := Unit) (conn.Free.body0 c_ durable) (fun s98 v => [(1, .i durable), (2, .ptr p60 0), (4, .ptr p61 0), (5, .i s98.n), (9, .sl .no 2 (c_.Held.map api.Held.av)), (10, .i (c_.Held.length : Int)), (11, .i s98.n)]) (fun s98 v => [(p60, .cells (api.Conn.ct .no .no { c_ with Out := s98.c })), (p61, .cells [.i 0, .i 0, .str ([] : List UInt8), .sl .full 1 (([] : List (List UInt8)).map AV.str), .i 0, .i 0, .bool false, .i 0, .i 0, .i 0, .sl .full 2 (([] : List api.Held).map api.Held.av), .str ([] : List UInt8), .i 0, .bool false, .bool false])]) ⟨0, c_.Out⟩ () _ h (Weak.mkL [1, 0] (by decide) ⟨⟨_, Z, cr, Z⟩, ⟨_, Z, cr, Z⟩, trivial⟩ ⟨tm Z, tm Z, tm Z, tm Z, tm Z, tm Z, tm Z, trivial⟩) ?_))))))))
  rintro s98 _ x100 h hx99
  unfold conn.Free.body0 at h
  refine xr (xa (.bool (decide (s98.n < (c_.Held.length : Int)))) Z (pu_int (v := .bool (decide (s98.n < (c_.Held.length : Int)))) Z Z (tm Z) (tm Z) Z) (xe (aw_seq (aw_cond (b := decide (s98.n < (c_.Held.length : Int))) (tm Z) (fun hb106 => ?_) (fun hb106 => ?_)))))
  ·replace h := ite_t (dec_t hb106) h
   refine aw_skip (aw_seq (aw_block (aw_seq (aw_region ?_))))
   obtain ⟨c102, h⟩ := need_of h
   refine xa (.vptr [.i (ix c_.Held s98.n).Need, .str (ix c_.Held s98.n).S]) Z (pu_indexAddrM Z underlying54 sizeOf61 (tm Z) (tm Z) c102 Z) (xc Z (op_loadVN Z isAgg61 sizeOf61 (tm Z) (nb Z) Z (xc Z (op_alloc (cs := [.i 0, .str ([] : List UInt8)]) (v := .agg [.i 0, .str ([] : List UInt8)]) Z zeroValue61 Z Z Z ?_))))
   intro p103
   refine ac0 Z Z (op_store (i := 0) (cs' := [.i (ix c_.Held s98.n).Need, .str (ix c_.Held s98.n).S]) Z sizeOf61 (tm Z) (v := .agg [.i (ix c_.Held s98.n).Need, .str (ix c_.Held s98.n).S]) (tm Z) Z Z Z (nb Z) Z (xe (aw_block (xr (xa (.ptr p103 0) Z (fa Z underlying61 Z sizeOf3 Z Z Z) (xc Z (op_load1 (i := 0) Z isAgg3 (tm Z) Z Z (xm Z Z Z (xa (.bool (decide (durable < (ix c_.Held s98.n).Need))) Z (pu_int (v := .bool (decide (durable < (ix c_.Held s98.n).Need))) Z Z (tm Z) (tm Z) Z) (xm Z Z Z ?_))))))))))
   refine xe (aw_cond (b := decide (durable < (ix c_.Held s98.n).Need)) (tm Z) (fun hb105 => ?_) (fun hb105 => ?_))
   ·replace h := ite_t (dec_t hb105) h
    refine aw_exit ?_
    obtain rfl := some_of h
    have h := congrArg some (hx99 _ rfl)
    obtain rfl := some_of h
    exact ⟨(), Weak.mkL [1, 2] (by decide) ⟨⟨_, Z, cr, Z⟩, ⟨_, Z, cr, Z⟩, trivial⟩ ⟨tm Z, tm Z, tm Z, trivial⟩⟩
   ·replace h := ite_f (dec_f hb105) h
    refine xr (xa (.ptr p60 11) Z (fa Z underlying56 Z sizeOf9 Z Z Z) (xc Z (op_load1 (i := 1) Z isAgg9 (tm Z) Z Z (xa (.ptr p103 1) Z (fa Z underlying61 Z sizeOf9 Z Z Z) (xc Z (op_load1 (i := 0) Z isAgg9 (tm Z) Z Z ?_))))))
    obtain ⟨c104, h⟩ := need_of h
    refine xa (.str (s98.c ++ (ix c_.Held s98.n).S)) Z (pu_strAdd Z (tm Z) (tm Z) c104) (xa (.ptr p60 11) Z (fa Z underlying56 Z sizeOf9 Z Z Z) (ac0 Z Z (op_store (i := 1) (cs' := (api.Conn.ct .no .no { c_ with Out := s98.c ++ (ix c_.Held s98.n).S })) Z sizeOf9 (tm Z) (v := .str (s98.c ++ (ix c_.Held s98.n).S)) (tm Z) Z Z Z (nb Z) Z (xe (aw_region (xm Z Z Z (xa (.i (IntKind.wrap .i64 (s98.n + 1))) Z (pu_int (v := .i (IntKind.wrap .i64 (s98.n + 1))) Z Z (tm Z) (AEv.int _ _) Z) (xm Z Z Z (xe (aw_region ?_))))))))))
    refine xa (.i (IntKind.wrap .i64 (s98.n + 1))) Z (pu_int (v := .i (IntKind.wrap .i64 (s98.n + 1))) Z Z (tm Z) (AEv.int _ _) Z) (xm Z Z Z (xe ?_))
    obtain rfl := some_of h
    exact ⟨_, (), Z, Weak.mkL [1, 2] (by decide) ⟨⟨_, Z, ⟨vr, vr, vr, vr, vr, vr, vr, vr, vr, vr, vr, vr, vr, vr, vr, trivial⟩, Z⟩, ⟨_, Z, cr, Z⟩, trivial⟩ ⟨tm Z, tm Z, tm Z, (AEv.le (tm Z) vr), tm Z, tm Z, (AEv.le (tm Z) vr), trivial⟩⟩
  ·replace h := ite_f (dec_f hb106) h
   refine aw_exit ?_
   obtain rfl := some_of h
   have h := congrArg some (hx99 _ rfl)
   obtain rfl := some_of h
   exact ⟨(), Weak.mkL [0, 1] (by decide) ⟨⟨_, Z, cr, Z⟩, ⟨_, Z, cr, Z⟩, trivial⟩ ⟨tm Z, tm Z, tm Z, trivial⟩⟩
 ·intro _
  have h := h84
  refine xr (xa (.ptr p60 10) Z (fa Z underlying56 Z sizeOf54 Z Z Z) (xc Z (op_load1 (i := 0) Z isAgg54 (tm Z) Z Z (xm Z Z Z ?_))))
  obtain ⟨c107, h⟩ := need_of h
  refine xa (.sl .no 2 ((sub c_.Held s83.1 (c_.Held.length : Int)).map api.Held.av)) Z (pu_sliceM Z underlying54 sizeOf61 (tm Z) ⟨_, (tm Z)⟩ Z c107) ?_
  obtain ⟨r108, r108e, h⟩ := bind_some h
  refine xc Z (op_call (vs := [.sl .no 2 ((sub c_.Held s83.1 (c_.Held.length : Int)).map api.Held.av)]) (H := []) Z call61 ⟨(tm Z), trivial⟩ (List.Perm.refl _) (slices.Clone_api_Held.ok r108e) ?_)
  rintro _ _ ⟨t109, rfl, rfl⟩
  refine xa (.ptr p60 10) Z (fa Z underlying56 Z sizeOf54 Z Z Z) (ac0 Z Z (op_store (i := 1) (cs' := (api.Conn.ct .no (.own t109) { c_ with Held := r108, Out := s83.2 })) Z sizeOf54 (tm Z) (v := .sl (.own t109) 2 (r108.map api.Held.av)) (tm Z) Z Z Z (nb Z) Z (xe ?_)))
  obtain ⟨s113, s113e, h114⟩ := letO_of h
  refine aw_meet (ν := Unit) (fun v => [(2, .ptr p60 0), (4, .ptr p61 0)]) (fun v => [(p60, .cells (api.Conn.ct .no (.own t109) { c_ with Held := r108, Out := s83.2, Closed := s113 })), (p61, .cells [.i 0, .i 0, .str ([] : List UInt8), .sl .full 1 (([] : List (List UInt8)).map AV.str), .i 0, .i 0, .bool false, .i 0, .i 0, .i 0, .sl .full 2 (([] : List api.Held).map api.Held.av), .str ([] : List UInt8), .i 0, .bool false, .bool false]), (t109, .spare)]) ?_ ?_
  ·have h := s113e.symm
   refine aw_region (xa (.ptr p60 14) Z (fa Z underlying56 Z sizeOf4 Z Z Z) (xc Z (op_load1 (i := 1) Z isAgg4 (tm Z) Z Z (xm Z Z Z ?_))))
   rcases Bool.eq_false_or_eq_true c_.Closed with hb116 | hb116
   ·replace h := ite_t hb116 h
    refine aops_known 37 Z hb116 (xn Z Z Z (xn Z Z Z (xn Z Z Z (xv Z Z (xv Z Z (xv Z Z (xn Z Z Z (xn Z Z Z (xv Z Z ?_)))))))))
    refine xv Z Z (xv Z Z (xv Z Z (xn Z Z Z (xa (.bool true) Z (pu_pick (b := true) Z (tm Z) (fun _ => (AEv.bool _)) (fun h => nomatch h)) (xa (.ptr p60 14) Z (fa Z underlying56 Z sizeOf4 Z Z Z) (ac0 Z Z (op_store (i := 1) (cs' := (api.Conn.ct .no (.own t109) { c_ with Held := r108, Out := s83.2, Closed := true })) Z sizeOf4 (tm Z) (v := .bool true) (tm Z) Z Z Z (nb Z) Z (xe ?_))))))))
    subst h
    exact ⟨(), Weak.mkL [1, 2, 0] (by decide) ⟨⟨_, Z, cr, Z⟩, ⟨_, Z, cr, Z⟩, ⟨_, Z, Z⟩, trivial⟩ ⟨tm Z, tm Z, trivial⟩⟩
   ·replace h := ite_fb hb116 h
    refine aops_known 37 Z hb116 (xp (.ptr p60 13) Z Z (fa Z underlying56 Z sizeOf4 Z Z Z) (xg Z Z (op_load1 (i := 1) Z isAgg4 (tm Z) Z Z (xq Z Z Z Z ?_))))
    rcases Bool.eq_false_or_eq_true c_.Shut with hb117 | hb117
    ·replace h := ite_t hb117 h
     refine aops_known 40 Z hb117 (xp (.ptr p60 9) Z Z (fa Z underlying56 Z sizeOf3 Z Z Z) (xg Z Z (op_load1 (i := 1) Z isAgg3 (tm Z) Z Z (xp (.bool (decide (c_.Asked = 0))) Z Z (pu_int (v := .bool (decide (c_.Asked = 0))) Z Z (tm Z) (AEv.int _ _) Z) (xp (.bool (decide (c_.Asked = 0))) Z Z (pu_pick (b := true) Z (tm Z) (fun _ => (tm Z)) (fun h => nomatch h)) (xq Z Z Z Z ?_))))))
     rcases Bool.eq_false_or_eq_true (decide (c_.Asked = 0)) with hb118 | hb118
     ·replace h := ite_t (dec_t hb118) h
      refine aops_known 45 Z hb118 (xp (.ptr p60 10) Z Z (fa Z underlying56 Z sizeOf54 Z Z Z) (xg Z Z (op_load1 (i := 1) Z isAgg54 (tm Z) Z Z (xp (.i (r108.length : Int)) Z Z (pu_lenM Z underlying54 (tm Z)) (xp (.bool (decide ((r108.length : Int) = 0))) Z Z (pu_int (v := .bool (decide ((r108.length : Int) = 0))) Z Z (tm Z) (AEv.int _ _) Z) (xp (.bool (decide ((r108.length : Int) = 0))) Z Z (pu_pick (b := true) Z (tm Z) (fun _ => (tm Z)) (fun h => nomatch h)) (xa (.bool (decide ((r108.length : Int) = 0))) Z (pu_pick (b := false) Z (tm Z) (fun h => nomatch h) (fun _ => (tm Z))) (xa (.ptr p60 14) Z (fa Z underlying56 Z sizeOf4 Z Z Z) (ac0 Z Z (op_store (i := 1) (cs' := (api.Conn.ct .no (.own t109) { c_ with Held := r108, Out := s83.2, Closed := decide ((r108.length : Int) = 0) })) Z sizeOf4 (tm Z) (v := .bool (decide ((r108.length : Int) = 0))) (tm Z) Z Z Z (nb Z) Z (xe ?_)))))))))))
      subst h
      exact ⟨(), Weak.mkL [1, 2, 0] (by decide) ⟨⟨_, Z, ⟨vr, vr, vr, vr, vr, vr, vr, vr, vr, vr, vr, vr, vr, vr, vr, trivial⟩, Z⟩, ⟨_, Z, cr, Z⟩, ⟨_, Z, Z⟩, trivial⟩ ⟨tm Z, tm Z, trivial⟩⟩
     ·replace h := ite_f (dec_f hb118) h
      refine aops_known 45 Z hb118 (xn Z Z Z (xn Z Z Z (xn Z Z Z (xn Z Z Z (xp (.bool false) Z Z (pu_pick (b := false) Z (tm Z) (fun h => nomatch h) (fun _ => (AEv.bool _))) (xa (.bool false) Z (pu_pick (b := false) Z (tm Z) (fun h => nomatch h) (fun _ => (tm Z))) (xa (.ptr p60 14) Z (fa Z underlying56 Z sizeOf4 Z Z Z) (ac0 Z Z (op_store (i := 1) (cs' := (api.Conn.ct .no (.own t109) { c_ with Held := r108, Out := s83.2, Closed := false })) Z sizeOf4 (tm Z) (v := .bool false) (tm Z) Z Z Z (nb Z) Z (xe ?_))))))))))
      subst h
      exact ⟨(), Weak.mkL [1, 2, 0] (by decide) ⟨⟨_, Z, cr, Z⟩, ⟨_, Z, cr, Z⟩, ⟨_, Z, Z⟩, trivial⟩ ⟨tm Z, tm Z, trivial⟩⟩
    ·replace h := ite_fb hb117 h
     refine aops_known 40 Z hb117 (xn Z Z Z (xn Z Z Z (xn Z Z Z (xp (.bool false) Z Z (pu_pick (b := false) Z (tm Z) (fun h => nomatch h) (fun _ => (AEv.bool _))) (xq Z Z Z Z (xn Z Z Z (xn Z Z Z (xn Z Z Z (xn Z Z Z ?_)))))))))
     refine xp (.bool false) Z Z (pu_pick (b := false) Z (tm Z) (fun h => nomatch h) (fun _ => (AEv.bool _))) (xa (.bool false) Z (pu_pick (b := false) Z (tm Z) (fun h => nomatch h) (fun _ => (tm Z))) (xa (.ptr p60 14) Z (fa Z underlying56 Z sizeOf4 Z Z Z) (ac0 Z Z (op_store (i := 1) (cs' := (api.Conn.ct .no (.own t109) { c_ with Held := r108, Out := s83.2, Closed := false })) Z sizeOf4 (tm Z) (v := .bool false) (tm Z) Z Z Z (nb Z) Z (xe ?_)))))
     subst h
     exact ⟨(), Weak.mkL [1, 2, 0] (by decide) ⟨⟨_, Z, cr, Z⟩, ⟨_, Z, cr, Z⟩, ⟨_, Z, Z⟩, trivial⟩ ⟨tm Z, tm Z, trivial⟩⟩
  ·intro _
   have h := h114
   refine xr (xc Z (op_loadN (i := 0) Z isAgg56 sizeOf56 (tm Z) Z (nb Z) Z (ac0 Z Z (op_store (i := 1) (cs' := (api.Conn.ct .no (.own t109) { c_ with Held := r108, Out := s83.2, Closed := s113 })) Z sizeOf56 (tm Z) (v := .agg (api.Conn.ct .no (.own t109) { c_ with Held := r108, Out := s83.2, Closed := s113 })) (tm Z) Z Z Z (nb Z) Z (xe (aw_ret ?_))))))
   obtain rfl := some_of h
   exact ⟨[.agg (api.Conn.ct .no (.own t109) { c_ with Held := r108, Out := s83.2, Closed := s113 })], _, [(t109, .spare)], ⟨(CellOk.agg 1 (tm Z) Z isAgg56 sizeOf56 (nb Z) Z), trivial⟩, vr, Weak.mkL [2] (by decide) ⟨⟨_, Z, Z⟩, trivial⟩ trivial, ⟨t109, Z, Z⟩⟩

theorem conn.Pending.ok {c_ : api.Conn} {r : Int} (h : conn.Pending c_ = some r) : Go.Lift.Spec prog 30 [.agg (api.Conn.ct .no .no c_)] [] (fun v H => v = .i r ∧ H = []) := by
 unfold conn.Pending at h
 refine Go.Lift.Spec.of_body (rs := [.tmp 2]) func30 Z Z (nb Z) Z (xr (xc Z (op_box (cs := (api.Conn.ct .no .no c_)) (v := .agg (api.Conn.ct .no .no c_)) Z (tm Z) Z Z ?_)))
 intro p35
 refine xa (.i 0) Z (pu_assign Z (AEv.int _ _)) (xe (xr (xa (.ptr p35 11) Z (fa Z underlying56 Z sizeOf9 Z Z Z) (xc Z (op_load1 (i := 0) Z isAgg9 (tm Z) Z Z (xa (.i (c_.Out.length : Int)) Z (pu_strLen Z underlying9 (tm Z)) (xm Z Z Z (xe ?_))))))))
 obtain ⟨s51, s51e, h52⟩ := bind_some h
 refine aw_meet (ν := Unit) (fun v => [(3, .i s51)]) (fun v => []) ?_ ?_
 ·have h := s51e
  refine xr (xa (.ptr p35 10) Z (fa Z underlying56 Z sizeOf54 Z Z Z) (xc Z (op_load1 (i := 0) Z isAgg54 (tm Z) Z Z (xa (.i (c_.Held.length : Int)) Z (pu_lenM Z underlying54 (tm Z)) (xa (.i 0) Z (pu_move Z (AEv.int _ _)) (xe (aw_block (aw_while (σ := conn.Pending.S0) (ν := Unit) (conn.Pending.body0 c_) (fun s62 v => [(3, .i s62.n), (10, .sl .no 2 (c_.Held.map api.Held.av)), (11, .i (c_.Held.length : Int)), (12, .i s62.t12)]) (fun s62 v => []) ⟨(c_.Out.length : Int), 0⟩ () _ h (Weak.mkL [] (by decide) trivial ⟨tm Z, tm Z, tm Z, tm Z, trivial⟩) ?_))))))))
  rintro s62 _ x64 h hx63
  unfold conn.Pending.body0 at h
  refine xr (xa (.bool (decide (s62.t12 < (c_.Held.length : Int)))) Z (pu_int (v := .bool (decide (s62.t12 < (c_.Held.length : Int)))) Z Z (tm Z) (tm Z) Z) (xe (aw_seq (aw_cond (b := decide (s62.t12 < (c_.Held.length : Int))) (tm Z) (fun hb68 => ?_) (fun hb68 => ?_)))))
  ·replace h := ite_t (dec_t hb68) h
   refine aw_skip (aw_seq (aw_block (aw_seq (aw_region ?_))))
   obtain ⟨c66, h⟩ := need_of h
   refine xa (.vptr [.i (ix c_.Held s62.t12).Need, .str (ix c_.Held s62.t12).S]) Z (pu_indexAddrM Z underlying54 sizeOf61 (tm Z) (tm Z) c66 Z) (xc Z (op_loadVN Z isAgg61 sizeOf61 (tm Z) (nb Z) Z (xc Z (op_alloc (cs := [.i 0, .str ([] : List UInt8)]) (v := .agg [.i 0, .str ([] : List UInt8)]) Z zeroValue61 Z Z Z ?_))))
   intro p67
   refine ac0 Z Z (op_store (i := 0) (cs' := [.i (ix c_.Held s62.t12).Need, .str (ix c_.Held s62.t12).S]) Z sizeOf61 (tm Z) (v := .agg [.i (ix c_.Held s62.t12).Need, .str (ix c_.Held s62.t12).S]) (tm Z) Z Z Z (nb Z) Z (xe (aw_region (xm Z Z Z (xa (.ptr p67 1) Z (fa Z underlying61 Z sizeOf9 Z Z Z) (xc Z (op_load1 (i := 0) Z isAgg9 (tm Z) Z Z (xa (.i ((ix c_.Held s62.t12).S.length : Int)) Z (pu_strLen Z underlying9 (tm Z)) (xa (.i (IntKind.wrap .i64 (s62.n + ((ix c_.Held s62.t12).S.length : Int)))) Z (pu_int (v := .i (IntKind.wrap .i64 (s62.n + ((ix c_.Held s62.t12).S.length : Int)))) Z Z (tm Z) (tm Z) Z) (xm Z Z Z (xe ?_)))))))))))
   refine aw_region (xa (.i (IntKind.wrap .i64 (s62.t12 + 1))) Z (pu_int (v := .i (IntKind.wrap .i64 (s62.t12 + 1))) Z Z (tm Z) (AEv.int _ _) Z) (xm Z Z Z (xe ?_)))
   obtain rfl := some_of h
   exact ⟨_, (), Z, Weak.mkL [] (by decide) trivial ⟨(AEv.le (tm Z) vr), tm Z, tm Z, (AEv.le (tm Z) vr), trivial⟩⟩
  ·replace h := ite_f (dec_f hb68) h
   refine aw_exit ?_
   obtain rfl := some_of h
   have h := congrArg some (hx63 _ rfl)
   obtain rfl := some_of h
   exact ⟨(), Weak.mkL [] (by decide) trivial ⟨tm Z, trivial⟩⟩
 ·intro _
  have h := h52
  refine xr (xm Z Z Z (xm Z Z Z (xe (aw_ret ?_))))
  obtain rfl := some_of h
  exact ⟨[.i s51], _, [], ⟨(tm Z), trivial⟩, vr, Weak.mkL [] (by decide) trivial trivial, ⟨Z, Z⟩⟩

theorem conn.Say.ok {c_ : api.Conn} {s_ : List UInt8} {need_ : Int} {durable : Int} {t_ : api.Tenant} {r : api.Conn} (h : conn.Say c_ s_ need_ durable t_ = some r) : Go.Lift.Spec prog 27 [.agg (api.Conn.ct .no .no c_), .str s_, .i need_, .i durable, .agg (api.Tenant.ct t_)] [] (fun v H => v = .agg [.i r.Born, .i r.Tenant, .str r.In.Rest, .sl .no 1 (r.In.Args.map AV.str), .i r.In.Left, .i r.In.Size, .bool r.In.Body, .i r.In.Need, .i r.In.Dead, .i r.Asked, .sl .no 2 (r.Held.map api.Held.av), .str r.Out, .i r.Taken, .bool r.Shut, .bool r.Closed] ∧ H = []) := by
 unfold conn.Say at h
 refine Go.Lift.Spec.of_body (rs := [.cell 10 56]) func27 Z Z (nb Z) Z (xr (xc Z (op_box (cs := (api.Conn.ct .no .no c_)) (v := .agg (api.Conn.ct .no .no c_)) Z (tm Z) Z Z ?_)))
 intro p20
 refine xc Z (op_box (cs := (api.Tenant.ct t_)) (v := .agg (api.Tenant.ct t_)) Z (tm Z) Z Z ?_)
 intro p21
 refine xc Z (op_alloc (cs := [.i 0, .i 0, .str ([] : List UInt8), .sl .full 1 (([] : List (List UInt8)).map AV.str), .i 0, .i 0, .bool false, .i 0, .i 0, .i 0, .sl .full 2 (([] : List api.Held).map api.Held.av), .str ([] : List UInt8), .i 0, .bool false, .bool false]) (v := .agg [.i 0, .i 0, .str ([] : List UInt8), .sl .full 1 (([] : List (List UInt8)).map AV.str), .i 0, .i 0, .bool false, .i 0, .i 0, .i 0, .sl .full 2 (([] : List api.Held).map api.Held.av), .str ([] : List UInt8), .i 0, .bool false, .bool false]) Z zeroValue56 Z Z Z ?_)
 intro p22
 refine xe (aw_seq (xr (xa (.ptr p20 14) Z (fa Z underlying56 Z sizeOf4 Z Z Z) (xc Z (op_load1 (i := 2) Z isAgg4 (tm Z) Z Z (xe (aw_cond (b := c_.Closed) (tm Z) (fun hb38 => ?_) (fun hb38 => ?_))))))))
 ·replace h := ite_t hb38 h
  refine xr (xc Z (op_loadN (i := 2) Z isAgg56 sizeOf56 (tm Z) Z (nb Z) Z (ac0 Z Z (op_store (i := 0) (cs' := (api.Conn.ct .no .no c_)) Z sizeOf56 (tm Z) (v := .agg (api.Conn.ct .no .no c_)) (tm Z) Z Z Z (nb Z) Z (xe (aw_ret ?_))))))
  obtain rfl := some_of h
  exact ⟨[.agg (api.Conn.ct .no .no c_)], _, [], ⟨(CellOk.agg 0 (tm Z) Z isAgg56 sizeOf56 (nb Z) Z), trivial⟩, vr, Weak.mkL [] (by decide) trivial trivial, ⟨Z, Z⟩⟩
 ·replace h := ite_fb hb38 h
  refine aw_skip (xr (xa (.ptr p20 10) Z (fa Z underlying56 Z sizeOf54 Z Z Z) (xc Z (op_load1 (i := 2) Z isAgg54 (tm Z) Z Z ?_))))
  obtain ⟨r23, r23e, h⟩ := bind_some h
  refine xc Z (op_call (vs := [.sl .no 2 (c_.Held.map api.Held.av)]) (H := []) Z call61 ⟨(tm Z), trivial⟩ (List.Perm.refl _) (slices.Clone_api_Held.ok r23e) ?_)
  rintro _ _ ⟨t24, rfl, rfl⟩
  refine xm Z Z Z (xm Z Z Z (xa (.agg [.i need_, .str s_]) Z (pu_build (zs := [.i 0, .str ([] : List UInt8)]) (szs := [1, 1]) (aparts := [(0, .i need_), (1, .str s_)]) (cs := [.i need_, .str s_]) Z underlying61 zeroValue61 Z ⟨sizeOf3, sizeOf9, trivial⟩ ⟨Z, (tm Z), ⟨Z, (tm Z), trivial⟩⟩ Z) (xc Z (op_buildSlice (xs := ([({ Need := need_, S := s_ } : api.Held)] : List api.Held).map api.Held.av) (aparts := [(0, .agg [.i need_, .str s_])]) Z underlying54 sizeOf61 zeroValue61 (by decide) (by decide) ⟨Z, (tm Z), trivial⟩ Z Z Z ?_))))
  obtain ⟨c25, h⟩ := need_of h
  refine xc Z (op_appendOM (q := 0) Z underlying54 underlying54 (.inl Z) typeInfo61 Z Z Z (by decide) (tm Z) Z (given_sl (tm Z)) c25 ?_)
  intro t26
  refine xa (.ptr p20 10) Z (fa Z underlying56 Z sizeOf54 Z Z Z) (ac0 Z Z (op_store (i := 3) (cs' := (api.Conn.ct .no (.own t26) { c_ with Held := r23 ++ [({ Need := need_, S := s_ } : api.Held)] })) Z sizeOf54 (tm Z) (v := .sl (.own t26) 2 ((r23 ++ [({ Need := need_, S := s_ } : api.Held)]).map api.Held.av)) (tm Z) Z Z Z (nb Z) Z (xe (xr (xc Z (op_loadN (i := 3) Z isAgg56 sizeOf56 (tm Z) Z (nb Z) Z (xm Z Z Z ?_)))))))
  obtain ⟨r27, r27e, h⟩ := bind_some h
  refine xc Z (op_call (vs := [.agg (api.Conn.ct .no .no { c_ with Held := r23 ++ [({ Need := need_, S := s_ } : api.Held)] }), .i durable]) (H := []) Z call28 ⟨(AEv.le (tm Z) (AV.Le.agg ⟨vr, vr, vr, vr, vr, vr, vr, vr, vr, vr, (AV.Le.forget _ _ _), vr, vr, vr, vr, trivial⟩)), (tm Z), trivial⟩ (List.Perm.refl _) (conn.Free.ok r27e) ?_)
  rintro _ _ ⟨t28, rfl, rfl⟩
  refine ac0 Z Z (op_store (i := 4) (cs' := (api.Conn.ct .no (.own t28) r27)) Z sizeOf56 (tm Z) (v := .agg (api.Conn.ct .no (.own t28) r27)) (tm Z) Z Z Z (nb Z) Z (xe ?_))
  obtain ⟨s31, s31e, h33⟩ := bind_some h
  refine aw_meet (ν := Nat) (fun v => [(5, .ptr p20 0), (10, .ptr p22 0)]) (fun v => [(p20, .cells (api.Conn.ct .no (.own v) { r27 with Held := s31.1, Out := s31.2.1, Closed := s31.2.2 })), (p22, .cells [.i 0, .i 0, .str ([] : List UInt8), .sl .full 1 (([] : List (List UInt8)).map AV.str), .i 0, .i 0, .bool false, .i 0, .i 0, .i 0, .sl .full 2 (([] : List api.Held).map api.Held.av), .str ([] : List UInt8), .i 0, .bool false, .bool false]), (v, .spare)]) ?_ ?_
  ·have h := s31e
   refine aw_upd (aw_seq ?_)
   obtain ⟨r35, r35e, h⟩ := bind_some h
   refine aw_planR (by decide +kernel) [[(4, 0, false)], [], [], [(3, 0, false)], []] [[], [], [], [], []] [[[(t28, .spare)]], [[(t26, .spare)]], [[(p22, .cells [.i 0, .i 0, .str ([] : List UInt8), .sl .full 1 (([] : List (List UInt8)).map AV.str), .i 0, .i 0, .bool false, .i 0, .i 0, .i 0, .sl .full 2 (([] : List api.Held).map api.Held.av), .str ([] : List UInt8), .i 0, .bool false, .bool false])]], [[(p21, .cells (api.Tenant.ct t_))]], [[(p20, .cells (api.Conn.ct .no (.own t28) r27))]]] [.agg (api.Conn.ct .no (.own t28) r27), .i r35, .ptr p21 6, .i t_.Out, .bool (decide (t_.Out < r35))] (by decide +kernel) Z Z ?_ ?_
   ·exact ⟨stepg_plain Z (op_loadN (i := 0) Z isAgg56 sizeOf56 (tm Z) Z (nb Z) Z ⟨Z, Z⟩), stepg_plain Z (op_call (vs := [.agg (api.Conn.ct .no .no r27)]) (H := []) Z call30 ⟨(AEv.le (tm Z) (AV.Le.agg ⟨vr, vr, vr, vr, vr, vr, vr, vr, vr, vr, (AV.Le.forget _ _ _), vr, vr, vr, vr, trivial⟩)), trivial⟩ (R := []) (List.Perm.refl _) (conn.Pending.ok r35e) (by rintro _ _ ⟨rfl, rfl⟩; exact ⟨Z, Z⟩)), yp Z (fa Z underlying53 Z sizeOf3 Z Z Z), stepg_plain Z (op_load1 (i := 0) Z isAgg3 (tm Z) Z Z ⟨Z, Z⟩), yp Z (pu_int (v := .bool (decide (t_.Out < r35))) Z Z (tm Z) (tm Z) Z), trivial⟩
   refine aw_cond (b := decide (t_.Out < r35)) (tm Z) (fun hb37 => ?_) (fun hb37 => ?_)
   ·replace h := ite_t (dec_t hb37) h
    refine aw_region (xa (.ptr p20 10) Z (fa Z underlying56 Z sizeOf54 Z Z Z) (ac0 Z Z (op_store (i := 4) (cs' := (api.Conn.ct .no .full { r27 with Held := ([] : List api.Held) })) Z sizeOf54 (tm Z) (v := .sl .full 2 (([] : List api.Held).map api.Held.av)) (AEv.nil 2 (by decide)) Z Z Z (nb Z) Z (xa (.ptr p20 11) Z (fa Z underlying56 Z sizeOf9 Z Z Z) (ac0 Z Z (op_store (i := 4) (cs' := (api.Conn.ct .no .full { r27 with Held := ([] : List api.Held), Out := ([] : List UInt8) })) Z sizeOf9 (tm Z) (v := .str ([] : List UInt8)) (AEv.const Z) Z Z Z (nb Z) Z (xa (.ptr p20 14) Z (fa Z underlying56 Z sizeOf4 Z Z Z) (ac0 Z Z (op_store (i := 4) (cs' := (api.Conn.ct .no .full { r27 with Held := ([] : List api.Held), Out := ([] : List UInt8), Closed := true })) Z sizeOf4 (tm Z) (v := .bool true) (AEv.bool _) Z Z Z (nb Z) Z (xe (upd_claimCell 4 10 Z Z fun t36 => (upd_done ?_))))))))))))
    obtain rfl := some_of h
    exact ⟨t36, Weak.mkL [5, 3, 0] (by decide) ⟨⟨_, Z, cr, Z⟩, ⟨_, Z, cr, Z⟩, ⟨_, Z, Z⟩, trivial⟩ ⟨tm Z, tm Z, trivial⟩⟩
   ·replace h := ite_f (dec_f hb37) h
    refine aw_skip (upd_done ?_)
    obtain rfl := some_of h
    exact ⟨t28, Weak.mkL [4, 2, 0] (by decide) ⟨⟨_, Z, cr, Z⟩, ⟨_, Z, cr, Z⟩, ⟨_, Z, Z⟩, trivial⟩ ⟨tm Z, tm Z, trivial⟩⟩
  ·intro n32
   have h := h33
   refine xr (xc Z (op_loadN (i := 0) Z isAgg56 sizeOf56 (tm Z) Z (nb Z) Z (ac0 Z Z (op_store (i := 1) (cs' := (api.Conn.ct .no (.own n32) { r27 with Held := s31.1, Out := s31.2.1, Closed := s31.2.2 })) Z sizeOf56 (tm Z) (v := .agg (api.Conn.ct .no (.own n32) { r27 with Held := s31.1, Out := s31.2.1, Closed := s31.2.2 })) (tm Z) Z Z Z (nb Z) Z (xe (aw_ret ?_))))))
   obtain rfl := some_of h
   exact ⟨[.agg (api.Conn.ct .no (.own n32) { r27 with Held := s31.1, Out := s31.2.1, Closed := s31.2.2 })], .agg (api.Conn.ct .no .no { r27 with Held := s31.1, Out := s31.2.1, Closed := s31.2.2 }), [], ⟨(CellOk.agg 1 (tm Z) Z isAgg56 sizeOf56 (nb Z) Z), trivial⟩, (AV.Le.agg ⟨vr, vr, vr, vr, vr, vr, vr, vr, vr, vr, (AV.Le.forget _ _ _), vr, vr, vr, vr, trivial⟩), Weak.mkL [] (by decide) trivial trivial, ⟨Z, Z⟩⟩

theorem conn.Take.ok {c_ : api.Conn} {n_ : Int} {r : api.Conn × (List UInt8)} (h : conn.Take c_ n_ = some r) : Go.Lift.Spec prog 29 [.agg (api.Conn.ct .no .no c_), .i n_] [] (fun v H => v = .tup [.agg [.i r.1.Born, .i r.1.Tenant, .str r.1.In.Rest, .sl .no 1 (r.1.In.Args.map AV.str), .i r.1.In.Left, .i r.1.In.Size, .bool r.1.In.Body, .i r.1.In.Need, .i r.1.In.Dead, .i r.1.Asked, .sl .no 2 (r.1.Held.map api.Held.av), .str r.1.Out, .i r.1.Taken, .bool r.1.Shut, .bool r.1.Closed], .str r.2] ∧ H = []) := by
 unfold conn.Take at h
 refine Go.Lift.Spec.of_body (rs := [.cell 4 56, .tmp 5]) func29 Z Z (nb Z) Z (xr (xc Z (op_box (cs := (api.Conn.ct .no .no c_)) (v := .agg (api.Conn.ct .no .no c_)) Z (tm Z) Z Z ?_)))
 intro p5
 refine xc Z (op_alloc (cs := [.i 0, .i 0, .str ([] : List UInt8), .sl .full 1 (([] : List (List UInt8)).map AV.str), .i 0, .i 0, .bool false, .i 0, .i 0, .i 0, .sl .full 2 (([] : List api.Held).map api.Held.av), .str ([] : List UInt8), .i 0, .bool false, .bool false]) (v := .agg [.i 0, .i 0, .str ([] : List UInt8), .sl .full 1 (([] : List (List UInt8)).map AV.str), .i 0, .i 0, .bool false, .i 0, .i 0, .i 0, .sl .full 2 (([] : List api.Held).map api.Held.av), .str ([] : List UInt8), .i 0, .bool false, .bool false]) Z zeroValue56 Z Z Z ?_)
 intro p6
 refine xa (.str ([] : List UInt8)) Z (pu_assign Z (AEv.const Z)) (xe (xr (xm Z Z Z (xa (.i (if n_ < 0 then 0 else n_)) Z (pu_max2 Z (tm Z) (AEv.int _ _)) (xa (.ptr p5 11) Z (fa Z underlying56 Z sizeOf9 Z Z Z) (xc Z (op_load1 (i := 1) Z isAgg9 (tm Z) Z Z (xa (.i (c_.Out.length : Int)) Z (pu_strLen Z underlying9 (tm Z)) (xa (.i (if (c_.Out.length : Int) < (if n_ < 0 then 0 else n_) then (c_.Out.length : Int) else (if n_ < 0 then 0 else n_))) Z (pu_min2 Z (tm Z) (tm Z)) ?_)))))))))
 refine xm Z Z Z (xe (xr (xa (.ptr p5 11) Z (fa Z underlying56 Z sizeOf9 Z Z Z) (xc Z (op_load1 (i := 1) Z isAgg9 (tm Z) Z Z (xm Z Z Z ?_))))))
 obtain ⟨c7, h⟩ := need_of h
 refine xa (.str (sub c_.Out 0 (if (c_.Out.length : Int) < (if n_ < 0 then 0 else n_) then (c_.Out.length : Int) else (if n_ < 0 then 0 else n_)))) Z (pu_strSliceM Z underlying9 (tm Z) Z ⟨_, (tm Z)⟩ c7) (xm Z Z Z (xe (xr (xa (.ptr p5 11) Z (fa Z underlying56 Z sizeOf9 Z Z Z) (xc Z (op_load1 (i := 1) Z isAgg9 (tm Z) Z Z (xm Z Z Z ?_)))))))
 obtain ⟨c8, h⟩ := need_of h
 refine xa (.str (sub c_.Out (if (c_.Out.length : Int) < (if n_ < 0 then 0 else n_) then (c_.Out.length : Int) else (if n_ < 0 then 0 else n_)) (c_.Out.length : Int))) Z (pu_strSliceM Z underlying9 (tm Z) ⟨_, (tm Z)⟩ Z c8) (xa (.ptr p5 11) Z (fa Z underlying56 Z sizeOf9 Z Z Z) (ac0 Z Z (op_store (i := 1) (cs' := (api.Conn.ct .no .no { c_ with Out := sub c_.Out (if (c_.Out.length : Int) < (if n_ < 0 then 0 else n_) then (c_.Out.length : Int) else (if n_ < 0 then 0 else n_)) (c_.Out.length : Int) })) Z sizeOf9 (tm Z) (v := .str (sub c_.Out (if (c_.Out.length : Int) < (if n_ < 0 then 0 else n_) then (c_.Out.length : Int) else (if n_ < 0 then 0 else n_)) (c_.Out.length : Int))) (tm Z) Z Z Z (nb Z) Z (xe (xr (xa (.ptr p5 12) Z (fa Z underlying56 Z sizeOf3 Z Z Z) (xc Z (op_load1 (i := 1) Z isAgg3 (tm Z) Z Z (xm Z Z Z (xa (.i (IntKind.wrap .i64 (c_.Taken + (if (c_.Out.length : Int) < (if n_ < 0 then 0 else n_) then (c_.Out.length : Int) else (if n_ < 0 then 0 else n_))))) Z (pu_int (v := .i (IntKind.wrap .i64 (c_.Taken + (if (c_.Out.length : Int) < (if n_ < 0 then 0 else n_) then (c_.Out.length : Int) else (if n_ < 0 then 0 else n_))))) Z Z (tm Z) (tm Z) Z) ?_))))))))))
 refine xa (.ptr p5 12) Z (fa Z underlying56 Z sizeOf3 Z Z Z) (ac0 Z Z (op_store (i := 1) (cs' := (api.Conn.ct .no .no { c_ with Out := sub c_.Out (if (c_.Out.length : Int) < (if n_ < 0 then 0 else n_) then (c_.Out.length : Int) else (if n_ < 0 then 0 else n_)) (c_.Out.length : Int), Taken := IntKind.wrap .i64 (c_.Taken + (if (c_.Out.length : Int) < (if n_ < 0 then 0 else n_) then (c_.Out.length : Int) else (if n_ < 0 then 0 else n_))) })) Z sizeOf3 (tm Z) (v := .i (IntKind.wrap .i64 (c_.Taken + (if (c_.Out.length : Int) < (if n_ < 0 then 0 else n_) then (c_.Out.length : Int) else (if n_ < 0 then 0 else n_))))) (tm Z) Z Z Z (nb Z) Z (xe (xr (xc Z (op_loadN (i := 1) Z isAgg56 sizeOf56 (tm Z) Z (nb Z) Z (xm Z Z Z (ac0 Z Z (op_store (i := 0) (cs' := (api.Conn.ct .no .no { c_ with Out := sub c_.Out (if (c_.Out.length : Int) < (if n_ < 0 then 0 else n_) then (c_.Out.length : Int) else (if n_ < 0 then 0 else n_)) (c_.Out.length : Int), Taken := IntKind.wrap .i64 (c_.Taken + (if (c_.Out.length : Int) < (if n_ < 0 then 0 else n_) then (c_.Out.length : Int) else (if n_ < 0 then 0 else n_))) })) Z sizeOf56 (tm Z) (v := .agg (api.Conn.ct .no .no { c_ with Out := sub c_.Out (if (c_.Out.length : Int) < (if n_ < 0 then 0 else n_) then (c_.Out.length : Int) else (if n_ < 0 then 0 else n_)) (c_.Out.length : Int), Taken := IntKind.wrap .i64 (c_.Taken + (if (c_.Out.length : Int) < (if n_ < 0 then 0 else n_) then (c_.Out.length : Int) else (if n_ < 0 then 0 else n_))) })) (tm Z) Z Z Z (nb Z) Z (xm Z Z Z (xe ?_)))))))))))
 refine aw_ret ?_
 obtain rfl := some_of h
 exact ⟨[.agg (api.Conn.ct .no .no { c_ with Out := sub c_.Out (if (c_.Out.length : Int) < (if n_ < 0 then 0 else n_) then (c_.Out.length : Int) else (if n_ < 0 then 0 else n_)) (c_.Out.length : Int), Taken := IntKind.wrap .i64 (c_.Taken + (if (c_.Out.length : Int) < (if n_ < 0 then 0 else n_) then (c_.Out.length : Int) else (if n_ < 0 then 0 else n_))) }), .str (sub c_.Out 0 (if (c_.Out.length : Int) < (if n_ < 0 then 0 else n_) then (c_.Out.length : Int) else (if n_ < 0 then 0 else n_)))], .tup [.agg (api.Conn.ct .no .no { c_ with Out := sub c_.Out (if (c_.Out.length : Int) < (if n_ < 0 then 0 else n_) then (c_.Out.length : Int) else (if n_ < 0 then 0 else n_)) (c_.Out.length : Int), Taken := IntKind.wrap .i64 (c_.Taken + (if (c_.Out.length : Int) < (if n_ < 0 then 0 else n_) then (c_.Out.length : Int) else (if n_ < 0 then 0 else n_))) }), .str (sub c_.Out 0 (if (c_.Out.length : Int) < (if n_ < 0 then 0 else n_) then (c_.Out.length : Int) else (if n_ < 0 then 0 else n_)))], [], ⟨(CellOk.agg 0 (tm Z) Z isAgg56 sizeOf56 (nb Z) Z), (tm Z), trivial⟩, (AV.Le.tup cr), Weak.mkL [] (by decide) trivial trivial, ⟨Z, Z⟩⟩

theorem conn.Read.ok {c_ : api.Conn} {s_ : List UInt8} {t_ : api.Tenant} {r : api.Conn × (List api.Request) × (List UInt8)} (h : conn.Read c_ s_ t_ = some r) : Go.Lift.Spec prog 32 [.agg (api.Conn.ct .no .no c_), .str s_, .agg (api.Tenant.ct t_)] [] (fun v H => ∃ n0, v = .tup [.agg [.i r.1.Born, .i r.1.Tenant, .str r.1.In.Rest, .sl .no 1 (r.1.In.Args.map AV.str), .i r.1.In.Left, .i r.1.In.Size, .bool r.1.In.Body, .i r.1.In.Need, .i r.1.In.Dead, .i r.1.Asked, .sl .no 2 (r.1.Held.map api.Held.av), .str r.1.Out, .i r.1.Taken, .bool r.1.Shut, .bool r.1.Closed], .sl (.own n0) 2 (r.2.1.map api.Request.av), .str r.2.2] ∧ H = [(n0, .spare)]) := by
 unfold conn.Read at h
 refine Go.Lift.Spec.of_body (rs := [.cell 6 56, .tmp 7, .tmp 8]) func32 Z Z (nb Z) Z (xr (xc Z (op_box (cs := (api.Conn.ct .no .no c_)) (v := .agg (api.Conn.ct .no .no c_)) Z (tm Z) Z Z ?_)))
 intro p67
 refine xc Z (op_box (cs := (api.Tenant.ct t_)) (v := .agg (api.Tenant.ct t_)) Z (tm Z) Z Z ?_)
 intro p68
 refine xc Z (op_alloc (cs := [.i 0, .i 0, .str ([] : List UInt8), .sl .full 1 (([] : List (List UInt8)).map AV.str), .i 0, .i 0, .bool false, .i 0, .i 0, .i 0, .sl .full 2 (([] : List api.Held).map api.Held.av), .str ([] : List UInt8), .i 0, .bool false, .bool false]) (v := .agg [.i 0, .i 0, .str ([] : List UInt8), .sl .full 1 (([] : List (List UInt8)).map AV.str), .i 0, .i 0, .bool false, .i 0, .i 0, .i 0, .sl .full 2 (([] : List api.Held).map api.Held.av), .str ([] : List UInt8), .i 0, .bool false, .bool false]) Z zeroValue56 Z Z Z ?_)
 intro p69
 refine xa (.sl .full 2 (([] : List api.Request).map api.Request.av)) Z (pu_assign Z (AEv.nil 2 (by decide))) (xa (.str ([] : List UInt8)) Z (pu_assign Z (AEv.const Z)) (xe (aw_seq ?_)))
 obtain ⟨s71, s71e, h72⟩ := letO_of h
 refine aw_meet (ν := Unit) (fun v => [(1, .str s_), (3, .ptr p67 0), (5, .ptr p68 0), (6, .ptr p69 0), (20, .bool s71)]) (fun v => [(p67, .cells (api.Conn.ct .no .no c_)), (p68, .cells (api.Tenant.ct t_)), (p69, .cells [.i 0, .i 0, .str ([] : List UInt8), .sl .full 1 (([] : List (List UInt8)).map AV.str), .i 0, .i 0, .bool false, .i 0, .i 0, .i 0, .sl .full 2 (([] : List api.Held).map api.Held.av), .str ([] : List UInt8), .i 0, .bool false, .bool false])]) ?_ ?_
 ·have h := s71e.symm
  refine aw_region (xa (.ptr p67 13) Z (fa Z underlying56 Z sizeOf4 Z Z Z) (xc Z (op_load1 (i := 2) Z isAgg4 (tm Z) Z Z (xm Z Z Z ?_))))
  rcases Bool.eq_false_or_eq_true c_.Shut with hb74 | hb74
  ·replace h := ite_t hb74 h
   refine aops_known 17 Z hb74 (xn Z Z Z (xn Z Z Z (xa (.bool true) Z (pu_pick (b := true) Z (tm Z) (fun _ => (AEv.bool _)) (fun h => nomatch h)) (xe ?_))))
   subst h
   exact ⟨(), Weak.mkL [2, 1, 0] (by decide) ⟨⟨_, Z, cr, Z⟩, ⟨_, Z, cr, Z⟩, ⟨_, Z, cr, Z⟩, trivial⟩ ⟨tm Z, tm Z, tm Z, tm Z, tm Z, trivial⟩⟩
  ·replace h := ite_fb hb74 h
   refine aops_known 17 Z hb74 (xp (.ptr p67 14) Z Z (fa Z underlying56 Z sizeOf4 Z Z Z) (xg Z Z (op_load1 (i := 2) Z isAgg4 (tm Z) Z Z (xa (.bool c_.Closed) Z (pu_pick (b := false) Z (tm Z) (fun h => nomatch h) (fun _ => (tm Z))) (xe ?_)))))
   subst h
   exact ⟨(), Weak.mkL [2, 1, 0] (by decide) ⟨⟨_, Z, cr, Z⟩, ⟨_, Z, cr, Z⟩, ⟨_, Z, cr, Z⟩, trivial⟩ ⟨tm Z, tm Z, tm Z, tm Z, tm Z, trivial⟩⟩
 ·intro _
  have h := h72
  refine aw_cond (b := s71) (tm Z) (fun hb133 => ?_) (fun hb133 => ?_)
  ·replace h := ite_t hb133 h
   refine xr (xc Z (op_loadN (i := 0) Z isAgg56 sizeOf56 (tm Z) Z (nb Z) Z (ac0 Z Z (op_store (i := 2) (cs' := (api.Conn.ct .no .no c_)) Z sizeOf56 (tm Z) (v := .agg (api.Conn.ct .no .no c_)) (tm Z) Z Z Z (nb Z) Z (xa (.sl .full 2 (([] : List api.Request).map api.Request.av)) Z (pu_assign Z (AEv.nil 2 (by decide))) (xa (.str ([] : List UInt8)) Z (pu_assign Z (AEv.const Z)) (xe (aw_claim 7 (tm Z) fun t75 => (aw_ret ?_)))))))))
   obtain rfl := some_of h
   exact ⟨[.agg (api.Conn.ct .no .no c_), .sl (.own t75) 2 (([] : List api.Request).map api.Request.av), .str ([] : List UInt8)], .tup [.agg (api.Conn.ct .no .no c_), .sl (.own t75) 2 (([] : List api.Request).map api.Request.av), .str ([] : List UInt8)], [(t75, .spare)], ⟨(CellOk.agg 3 (tm Z) Z isAgg56 sizeOf56 (nb Z) Z), (tm Z), (tm Z), trivial⟩, (AV.Le.tup cr), Weak.mkL [0] (by decide) ⟨⟨_, Z, Z⟩, trivial⟩ trivial, ⟨t75, Z, Z⟩⟩
  ·replace h := ite_fb hb133 h
   refine aw_skip (xr (xa (.ptr p67 2) Z (fa Z underlying56 Z sizeOf29 Z Z Z) (xc Z (op_loadN (i := 0) Z isAgg29 sizeOf29 (tm Z) Z (nb Z) Z (xm Z Z Z (xa (.ptr p68 11) Z (fa Z underlying53 Z sizeOf23 Z Z Z) (xc Z (op_loadN (i := 1) Z isAgg23 sizeOf23 (tm Z) Z (nb Z) Z ?_))))))))
   obtain ⟨r76, r76e, h⟩ := bind_some h
   refine xc Z (op_call (vs := [.agg (api.Input.ct .no c_.In), .str s_, .agg [.i t_.Limits.Args, .i t_.Limits.Bulk, .i t_.Limits.Line]]) (H := []) Z call15 ⟨(tm Z), (tm Z), (tm Z), trivial⟩ (List.Perm.refl _) (parse.Feed.ok r76e) ?_)
   rintro _ _ ⟨t77, rfl, rfl⟩
   refine xm Z Z Z (xa (.agg (api.Input.ct .no r76.1)) Z (pu_extract Z (tm Z) (nb Z) Z) (xa (.sl (.own t77) 2 (r76.2.1.map api.Request.av)) Z (pu_extract Z (tm Z) (nb Z) Z) (xa (.i r76.2.2) Z (pu_extract Z (tm Z) (nb Z) Z) (xc Z (op_alloc (cs := [.str ([] : List UInt8), .sl .full 1 (([] : List (List UInt8)).map AV.str), .i 0, .i 0, .bool false, .i 0, .i 0]) (v := .agg [.str ([] : List UInt8), .sl .full 1 (([] : List (List UInt8)).map AV.str), .i 0, .i 0, .bool false, .i 0, .i 0]) Z zeroValue29 Z Z Z ?_)))))
   intro p78
   refine ac0 Z Z (op_store (i := 0) (cs' := (api.Input.ct .no r76.1)) Z sizeOf29 (tm Z) (v := .agg (api.Input.ct .no r76.1)) (tm Z) Z Z Z (nb Z) Z (xm Z Z Z (xm Z Z Z (xe (xr (xc Z (op_loadN (i := 0) Z isAgg29 sizeOf29 (tm Z) Z (nb Z) Z (xa (.ptr p67 2) Z (fa Z underlying56 Z sizeOf29 Z Z Z) (ac0 Z Z (op_store (i := 2) (cs' := (api.Conn.ct .no .no { c_ with In := r76.1 })) Z sizeOf29 (tm Z) (v := .agg (api.Input.ct .no r76.1)) (tm Z) Z Z Z (nb Z) Z (xe ?_)))))))))))
   obtain ⟨s94, s94e, h95⟩ := bind_some h
   refine aw_meet (ν := Unit) (fun v => [(3, .ptr p67 0), (5, .ptr p68 0), (6, .ptr p69 0), (9, .ptr p78 0), (10, .sl (.own t77) 2 (r76.2.1.map api.Request.av)), (11, .i r76.2.2)]) (fun v => [(p67, .cells (api.Conn.ct .no .no { c_ with In := r76.1, Asked := s94 })), (p68, .cells (api.Tenant.ct t_)), (p69, .cells [.i 0, .i 0, .str ([] : List UInt8), .sl .full 1 (([] : List (List UInt8)).map AV.str), .i 0, .i 0, .bool false, .i 0, .i 0, .i 0, .sl .full 2 (([] : List api.Held).map api.Held.av), .str ([] : List UInt8), .i 0, .bool false, .bool false]), (p78, .cells (api.Input.ct .no r76.1)), (t77, .spare)]) ?_ ?_
   ·have h := s94e
    refine xr (xm Z Z Z (xa (.i (r76.2.1.length : Int)) Z (pu_lenM Z underlying30 (tm Z)) (xa (.i 0) Z (pu_move Z (AEv.int _ _)) (xe (aw_block (aw_while (σ := conn.Read.S0) (ν := Unit) (conn.Read.body0 r76) (fun s105 v => [(3, .ptr p67 0), (5, .ptr p68 0), (6, .ptr p69 0), (9, .ptr p78 0), (10, .sl (.own t77) 2 (r76.2.1.map api.Request.av)), (11, .i r76.2.2), (34, .sl (.own t77) 2 (r76.2.1.map api.Request.av)), (35, .i (r76.2.1.length : Int)), (36, .i s105.t36)]) (fun s105 v => [(p67, .cells (api.Conn.ct .no .no { c_ with In := r76.1, Asked := s105.c })), (p68, .cells (api.Tenant.ct t_)), (p69, .cells [.i 0, .i 0, .str ([] : List UInt8), .sl .full 1 (([] : List (List UInt8)).map AV.str), .i 0, .i 0, .bool false, .i 0, .i 0, .i 0, .sl .full 2 (([] : List api.Held).map api.Held.av), .str ([] : List UInt8), .i 0, .bool false, .bool false]), (p78, .cells (api.Input.ct .no r76.1)), (t77, .spare)]) ⟨0, c_.Asked⟩ () _ h (Weak.mkL [2, 3, 4, 0, 1] (by decide) ⟨⟨_, Z, cr, Z⟩, ⟨_, Z, cr, Z⟩, ⟨_, Z, cr, Z⟩, ⟨_, Z, cr, Z⟩, ⟨_, Z, Z⟩, trivial⟩ ⟨tm Z, tm Z, tm Z, tm Z, tm Z, tm Z, tm Z, tm Z, tm Z, trivial⟩) ?_))))))
    rintro s105 _ x107 h hx106
    unfold conn.Read.body0 at h
    refine xr (xa (.bool (decide (s105.t36 < (r76.2.1.length : Int)))) Z (pu_int (v := .bool (decide (s105.t36 < (r76.2.1.length : Int)))) Z Z (tm Z) (tm Z) Z) (xe (aw_seq (aw_cond (b := decide (s105.t36 < (r76.2.1.length : Int))) (tm Z) (fun hb111 => ?_) (fun hb111 => ?_)))))
    ·replace h := ite_t (dec_t hb111) h
     refine aw_skip (aw_seq (aw_block (aw_seq (aw_region ?_))))
     obtain ⟨c109, h⟩ := need_of h
     refine xa (.vptr [.sl .no 1 ((ix r76.2.1 s105.t36).Args.map AV.str), .i (ix r76.2.1 s105.t36).Size]) Z (pu_indexAddrM Z underlying30 sizeOf44 (tm Z) (tm Z) c109 Z) (xc Z (op_loadVN Z isAgg44 sizeOf44 (tm Z) (nb Z) Z (xc Z (op_alloc (cs := [.sl .full 1 (([] : List (List UInt8)).map AV.str), .i 0]) (v := .agg [.sl .full 1 (([] : List (List UInt8)).map AV.str), .i 0]) Z zeroValue44 Z Z Z ?_))))
     intro p110
     refine ac0 Z Z (op_store (i := 0) (cs' := [.sl .no 1 ((ix r76.2.1 s105.t36).Args.map AV.str), .i (ix r76.2.1 s105.t36).Size]) Z sizeOf44 (tm Z) (v := .agg [.sl .no 1 ((ix r76.2.1 s105.t36).Args.map AV.str), .i (ix r76.2.1 s105.t36).Size]) (tm Z) Z Z Z (nb Z) Z (xe (aw_region (xa (.ptr p67 9) Z (fa Z underlying56 Z sizeOf3 Z Z Z) (xc Z (op_load1 (i := 1) Z isAgg3 (tm Z) Z Z (xa (.ptr p110 1) Z (fa Z underlying44 Z sizeOf3 Z Z Z) (xc Z (op_load1 (i := 0) Z isAgg3 (tm Z) Z Z (xa (.i (IntKind.wrap .i64 (s105.c + (ix r76.2.1 s105.t36).Size))) Z (pu_int (v := .i (IntKind.wrap .i64 (s105.c + (ix r76.2.1 s105.t36).Size))) Z Z (tm Z) (tm Z) Z) (xa (.ptr p67 9) Z (fa Z underlying56 Z sizeOf3 Z Z Z) (ac0 Z Z (op_store (i := 1) (cs' := (api.Conn.ct .no .no { c_ with In := r76.1, Asked := IntKind.wrap .i64 (s105.c + (ix r76.2.1 s105.t36).Size) })) Z sizeOf3 (tm Z) (v := .i (IntKind.wrap .i64 (s105.c + (ix r76.2.1 s105.t36).Size))) (tm Z) Z Z Z (nb Z) Z ?_)))))))))))))
     refine xe (aw_region (xa (.i (IntKind.wrap .i64 (s105.t36 + 1))) Z (pu_int (v := .i (IntKind.wrap .i64 (s105.t36 + 1))) Z Z (tm Z) (AEv.int _ _) Z) (xm Z Z Z (xe ?_))))
     obtain rfl := some_of h
     exact ⟨_, (), Z, Weak.mkL [1, 2, 3, 4, 5] (by decide) ⟨⟨_, Z, ⟨vr, vr, vr, vr, vr, vr, vr, vr, vr, vr, vr, vr, vr, vr, vr, trivial⟩, Z⟩, ⟨_, Z, cr, Z⟩, ⟨_, Z, cr, Z⟩, ⟨_, Z, cr, Z⟩, ⟨_, Z, Z⟩, trivial⟩ ⟨tm Z, tm Z, tm Z, tm Z, tm Z, tm Z, tm Z, tm Z, (AEv.le (tm Z) vr), trivial⟩⟩
    ·replace h := ite_f (dec_f hb111) h
     refine aw_exit ?_
     obtain rfl := some_of h
     have h := congrArg some (hx106 _ rfl)
     obtain rfl := some_of h
     exact ⟨(), Weak.mkL [0, 1, 2, 3, 4] (by decide) ⟨⟨_, Z, cr, Z⟩, ⟨_, Z, cr, Z⟩, ⟨_, Z, cr, Z⟩, ⟨_, Z, cr, Z⟩, ⟨_, Z, Z⟩, trivial⟩ ⟨tm Z, tm Z, tm Z, tm Z, tm Z, tm Z, trivial⟩⟩
   ·intro _
    have h := h95
    refine xr (xa (.str ([] : List UInt8)) Z (pu_assign Z (AEv.const Z)) (xe ?_))
    obtain ⟨s121, s121e, h122⟩ := letO_of h
    refine aw_meet (ν := Unit) (fun v => [(3, .ptr p67 0), (6, .ptr p69 0), (10, .sl (.own t77) 2 (r76.2.1.map api.Request.av)), (14, .str s121)]) (fun v => [(p67, .cells (api.Conn.ct .no .no { c_ with In := r76.1, Asked := s94 })), (p69, .cells [.i 0, .i 0, .str ([] : List UInt8), .sl .full 1 (([] : List (List UInt8)).map AV.str), .i 0, .i 0, .bool false, .i 0, .i 0, .i 0, .sl .full 2 (([] : List api.Held).map api.Held.av), .str ([] : List UInt8), .i 0, .bool false, .bool false]), (t77, .spare)]) ?_ ?_
    ·have h := s121e.symm
     refine aw_block (xr (xm Z Z Z (xa (.bool (!decide (r76.2.2 = 0))) Z (pu_int (v := .bool (!decide (r76.2.2 = 0))) Z Z (tm Z) (AEv.int _ _) Z) (xm Z Z Z (xe (aw_cond (b := (!decide (r76.2.2 = 0))) (tm Z) (fun hb132 => ?_) (fun hb132 => ?_)))))))
     ·replace h := ite_f (ndec_t hb132) h
      refine aw_region (xa (.str [69, 82, 82, 32, 80, 114, 111, 116, 111, 99, 111, 108, 32, 101, 114, 114, 111, 114]) Z (pu_assign Z (AEv.const Z)) (xe ?_))
      subst h
      exact ⟨(), Weak.mkL [0, 2, 4] (by decide) ⟨⟨_, Z, cr, Z⟩, ⟨_, Z, cr, Z⟩, ⟨_, Z, Z⟩, trivial⟩ ⟨tm Z, tm Z, tm Z, tm Z, trivial⟩⟩
     ·replace h := ite_t (ndec_f hb132) h
      obtain ⟨s126, s126e, h127⟩ := letO_of h
      refine aw_meet (ν := Unit) (fun v => [(3, .ptr p67 0), (6, .ptr p69 0), (10, .sl (.own t77) 2 (r76.2.1.map api.Request.av)), (14, .str ([] : List UInt8)), (50, .bool s126)]) (fun v => [(p67, .cells (api.Conn.ct .no .no { c_ with In := r76.1, Asked := s94 })), (p69, .cells [.i 0, .i 0, .str ([] : List UInt8), .sl .full 1 (([] : List (List UInt8)).map AV.str), .i 0, .i 0, .bool false, .i 0, .i 0, .i 0, .sl .full 2 (([] : List api.Held).map api.Held.av), .str ([] : List UInt8), .i 0, .bool false, .bool false]), (t77, .spare)]) ?_ ?_
      ·have h := s126e.symm
       refine aw_region (xa (.ptr p67 9) Z (fa Z underlying56 Z sizeOf3 Z Z Z) (xc Z (op_load1 (i := 0) Z isAgg3 (tm Z) Z Z (xa (.ptr p68 5) Z (fa Z underlying53 Z sizeOf3 Z Z Z) (xc Z (op_load1 (i := 1) Z isAgg3 (tm Z) Z Z (xa (.bool (decide (t_.In < s94))) Z (pu_int (v := .bool (decide (t_.In < s94))) Z Z (tm Z) (tm Z) Z) (xm Z Z Z ?_))))))))
       rcases Bool.eq_false_or_eq_true (decide (t_.In < s94)) with hb129 | hb129
       ·replace h := ite_t (dec_t hb129) h
        refine aops_known 56 Z hb129 (xn Z Z Z (xn Z Z Z (xn Z Z Z (xn Z Z Z (xn Z Z Z (xn Z Z Z (xn Z Z Z (xn Z Z Z (xa (.bool true) Z (pu_pick (b := true) Z (tm Z) (fun _ => (AEv.bool _)) (fun h => nomatch h)) ?_)))))))))
        refine xm Z Z Z (xn Z Z Z (xn Z Z Z (xn Z Z Z (xn Z Z Z (xn Z Z Z (xn Z Z Z (xn Z Z Z (xn Z Z Z (xn Z Z Z ?_)))))))))
        refine xn Z Z Z (xn Z Z Z (xn Z Z Z (xa (.bool true) Z (pu_pick (b := true) Z (tm Z) (fun _ => (AEv.bool _)) (fun h => nomatch h)) (xm Z Z Z (xe ?_)))))
        subst h
        exact ⟨(), Weak.mkL [0, 2, 4] (by decide) ⟨⟨_, Z, cr, Z⟩, ⟨_, Z, cr, Z⟩, ⟨_, Z, Z⟩, trivial⟩ ⟨tm Z, tm Z, tm Z, tm Z, tm Z, trivial⟩⟩
       ·replace h := ite_f (dec_f hb129) h
        refine aops_known 56 Z hb129 (xp (.ptr p78 3) Z Z (fa Z underlying29 Z sizeOf3 Z Z Z) (xg Z Z (op_load1 (i := 3) Z isAgg3 (tm Z) Z Z (xp (.ptr p68 5) Z Z (fa Z underlying53 Z sizeOf3 Z Z Z) (xg Z Z (op_load1 (i := 1) Z isAgg3 (tm Z) Z Z (xp (.ptr p67 9) Z Z (fa Z underlying56 Z sizeOf3 Z Z Z) (xg Z Z (op_load1 (i := 0) Z isAgg3 (tm Z) Z Z (xp (.i (IntKind.wrap .i64 (t_.In - s94))) Z Z (pu_int (v := .i (IntKind.wrap .i64 (t_.In - s94))) Z Z (tm Z) (tm Z) Z) (xp (.bool (decide ((IntKind.wrap .i64 (t_.In - s94)) < r76.1.Size))) Z Z (pu_int (v := .bool (decide ((IntKind.wrap .i64 (t_.In - s94)) < r76.1.Size))) Z Z (tm Z) (tm Z) Z) (xa (.bool (decide ((IntKind.wrap .i64 (t_.In - s94)) < r76.1.Size))) Z (pu_pick (b := false) Z (tm Z) (fun h => nomatch h) (fun _ => (tm Z))) ?_))))))))))))
        refine xm Z Z Z ?_
        rcases Bool.eq_false_or_eq_true (decide ((IntKind.wrap .i64 (t_.In - s94)) < r76.1.Size)) with hb130 | hb130
        ·replace h := ite_t (dec_t hb130) h
         refine aops_known 66 Z hb130 (xn Z Z Z (xn Z Z Z (xn Z Z Z (xn Z Z Z (xn Z Z Z (xn Z Z Z (xn Z Z Z (xn Z Z Z (xn Z Z Z ?_)))))))))
         refine xn Z Z Z (xn Z Z Z (xn Z Z Z (xa (.bool true) Z (pu_pick (b := true) Z (tm Z) (fun _ => (AEv.bool _)) (fun h => nomatch h)) (xm Z Z Z (xe ?_)))))
         subst h
         exact ⟨(), Weak.mkL [0, 2, 4] (by decide) ⟨⟨_, Z, cr, Z⟩, ⟨_, Z, cr, Z⟩, ⟨_, Z, Z⟩, trivial⟩ ⟨tm Z, tm Z, tm Z, tm Z, tm Z, trivial⟩⟩
        ·replace h := ite_f (dec_f hb130) h
         refine aops_known 66 Z hb130 (xp (.ptr p78 0) Z Z (fa Z underlying29 Z sizeOf9 Z Z Z) (xg Z Z (op_load1 (i := 3) Z isAgg9 (tm Z) Z Z (xp (.i (r76.1.Rest.length : Int)) Z Z (pu_strLen Z underlying9 (tm Z)) (xp (.ptr p68 5) Z Z (fa Z underlying53 Z sizeOf3 Z Z Z) (xg Z Z (op_load1 (i := 1) Z isAgg3 (tm Z) Z Z (xp (.ptr p67 9) Z Z (fa Z underlying56 Z sizeOf3 Z Z Z) (xg Z Z (op_load1 (i := 0) Z isAgg3 (tm Z) Z Z (xp (.i (IntKind.wrap .i64 (t_.In - s94))) Z Z (pu_int (v := .i (IntKind.wrap .i64 (t_.In - s94))) Z Z (tm Z) (tm Z) Z) (xp (.ptr p78 3) Z Z (fa Z underlying29 Z sizeOf3 Z Z Z) ?_))))))))))))
         refine xg Z Z (op_load1 (i := 3) Z isAgg3 (tm Z) Z Z (xp (.i (IntKind.wrap .i64 ((IntKind.wrap .i64 (t_.In - s94)) - r76.1.Size))) Z Z (pu_int (v := .i (IntKind.wrap .i64 ((IntKind.wrap .i64 (t_.In - s94)) - r76.1.Size))) Z Z (tm Z) (tm Z) Z) (xp (.bool (decide ((IntKind.wrap .i64 ((IntKind.wrap .i64 (t_.In - s94)) - r76.1.Size)) < (r76.1.Rest.length : Int)))) Z Z (pu_int (v := .bool (decide ((IntKind.wrap .i64 ((IntKind.wrap .i64 (t_.In - s94)) - r76.1.Size)) < (r76.1.Rest.length : Int)))) Z Z (tm Z) (tm Z) Z) (xa (.bool (decide ((IntKind.wrap .i64 ((IntKind.wrap .i64 (t_.In - s94)) - r76.1.Size)) < (r76.1.Rest.length : Int)))) Z (pu_pick (b := false) Z (tm Z) (fun h => nomatch h) (fun _ => (tm Z))) (xm Z Z Z (xe ?_))))))
         subst h
         exact ⟨(), Weak.mkL [0, 2, 4] (by decide) ⟨⟨_, Z, cr, Z⟩, ⟨_, Z, cr, Z⟩, ⟨_, Z, Z⟩, trivial⟩ ⟨tm Z, tm Z, tm Z, tm Z, (AEv.le (tm Z) vr), trivial⟩⟩
      ·intro _
       have h := h127
       refine aw_cond (b := s126) (tm Z) (fun hb131 => ?_) (fun hb131 => ?_)
       ·replace h := ite_t hb131 h
        refine aw_region (xa (.str [69, 82, 82, 32, 105, 110, 112, 117, 116, 32, 98, 117, 102, 102, 101, 114, 32, 105, 115, 32, 102, 117, 108, 108]) Z (pu_assign Z (AEv.const Z)) (xe ?_))
        subst h
        exact ⟨(), Weak.mkL [0, 1, 2] (by decide) ⟨⟨_, Z, cr, Z⟩, ⟨_, Z, cr, Z⟩, ⟨_, Z, Z⟩, trivial⟩ ⟨tm Z, tm Z, tm Z, tm Z, trivial⟩⟩
       ·replace h := ite_fb hb131 h
        refine aw_skip ?_
        subst h
        exact ⟨(), Weak.mkL [0, 1, 2] (by decide) ⟨⟨_, Z, cr, Z⟩, ⟨_, Z, cr, Z⟩, ⟨_, Z, Z⟩, trivial⟩ ⟨tm Z, tm Z, tm Z, tm Z, trivial⟩⟩
    ·intro _
     have h := h122
     refine xr (xm Z Z Z (xa (.bool (!decide (s121 = ([] : List UInt8)))) Z (pu_str (v := .bool (!decide (s121 = ([] : List UInt8)))) Z Z (tm Z) (AEv.const Z) Z) (xa (.ptr p67 13) Z (fa Z underlying56 Z sizeOf4 Z Z Z) (ac0 Z Z (op_store (i := 0) (cs' := (api.Conn.ct .no .no { c_ with In := r76.1, Asked := s94, Shut := (!decide (s121 = ([] : List UInt8))) })) Z sizeOf4 (tm Z) (v := .bool (!decide (s121 = ([] : List UInt8)))) (tm Z) Z Z Z (nb Z) Z (xe (xr (xc Z (op_loadN (i := 0) Z isAgg56 sizeOf56 (tm Z) Z (nb Z) Z ?_)))))))))
     refine xm Z Z Z (xm Z Z Z (ac0 Z Z (op_store (i := 1) (cs' := (api.Conn.ct .no .no { c_ with In := r76.1, Asked := s94, Shut := (!decide (s121 = ([] : List UInt8))) })) Z sizeOf56 (tm Z) (v := .agg (api.Conn.ct .no .no { c_ with In := r76.1, Asked := s94, Shut := (!decide (s121 = ([] : List UInt8))) })) (tm Z) Z Z Z (nb Z) Z (xm Z Z Z (xm Z Z Z (xe (aw_ret ?_)))))))
     obtain rfl := some_of h
     exact ⟨[.agg (api.Conn.ct .no .no { c_ with In := r76.1, Asked := s94, Shut := (!decide (s121 = ([] : List UInt8))) }), .sl (.own t77) 2 (r76.2.1.map api.Request.av), .str s121], .tup [.agg (api.Conn.ct .no .no { c_ with In := r76.1, Asked := s94, Shut := (!decide (s121 = ([] : List UInt8))) }), .sl (.own t77) 2 (r76.2.1.map api.Request.av), .str s121], [(t77, .spare)], ⟨(CellOk.agg 1 (tm Z) Z isAgg56 sizeOf56 (nb Z) Z), (tm Z), (tm Z), trivial⟩, (AV.Le.tup cr), Weak.mkL [2] (by decide) ⟨⟨_, Z, Z⟩, trivial⟩ trivial, ⟨t77, Z, Z⟩⟩

theorem mewslaw43.alive.ok  {r : Bool} (h : mewslaw43.alive = some r) : Go.Lift.Spec prog 25 [] [] (fun v H => v = .bool r ∧ H = []) := by
 unfold mewslaw43.alive at h
 refine Go.Lift.Spec.of_body (rs := [.tmp 0]) func25 Z Z (nb Z) Z (xr (xa (.bool false) Z (pu_assign Z (AEv.bool _)) (xe (xr (xa (.agg [.i 9, .i 9, .i 9]) Z (pu_build (zs := [.i 0, .i 0, .i 0]) (szs := [1, 1, 1]) (aparts := [(0, .i 9), (1, .i 9), (2, .i 9)]) (cs := [.i 9, .i 9, .i 9]) Z underlying23 zeroValue23 Z ⟨sizeOf3, sizeOf3, sizeOf3, trivial⟩ ⟨Z, (AEv.int _ _), ⟨Z, (AEv.int _ _), ⟨Z, (AEv.int _ _), trivial⟩⟩⟩ Z) (xa (.agg [.str ([] : List UInt8), .str ([] : List UInt8), .i 0, .i 0, .i 0, .i 100, .i 100, .i 0, .i 0, .i 0, .i 0, .i 9, .i 9, .i 9]) Z (pu_build (zs := [.str ([] : List UInt8), .str ([] : List UInt8), .i 0, .i 0, .i 0, .i 0, .i 0, .i 0, .i 0, .i 0, .i 0, .i 0, .i 0, .i 0]) (szs := [1, 1, 1, 1, 1, 1, 1, 1, 1, 1, 1, 3]) (aparts := [(5, .i 100), (6, .i 100), (11, .agg [.i 9, .i 9, .i 9])]) (cs := [.str ([] : List UInt8), .str ([] : List UInt8), .i 0, .i 0, .i 0, .i 100, .i 100, .i 0, .i 0, .i 0, .i 0, .i 9, .i 9, .i 9]) Z underlying53 zeroValue53 Z ⟨sizeOf9, sizeOf9, sizeOf3, sizeOf3, sizeOf3, sizeOf3, sizeOf3, sizeOf3, sizeOf3, sizeOf3, sizeOf3, sizeOf23, trivial⟩ ⟨Z, (AEv.int _ _), ⟨Z, (AEv.int _ _), ⟨Z, (tm Z), trivial⟩⟩⟩ Z) (xc Z (op_alloc (cs := [.str ([] : List UInt8), .str ([] : List UInt8), .i 0, .i 0, .i 0, .i 0, .i 0, .i 0, .i 0, .i 0, .i 0, .i 0, .i 0, .i 0]) (v := .agg [.str ([] : List UInt8), .str ([] : List UInt8), .i 0, .i 0, .i 0, .i 0, .i 0, .i 0, .i 0, .i 0, .i 0, .i 0, .i 0, .i 0]) Z zeroValue53 Z Z Z ?_))))))))
 intro p30
 refine ac0 Z Z (op_store (i := 0) (cs' := [.str ([] : List UInt8), .str ([] : List UInt8), .i 0, .i 0, .i 0, .i 100, .i 100, .i 0, .i 0, .i 0, .i 0, .i 9, .i 9, .i 9]) Z sizeOf53 (tm Z) (v := .agg [.str ([] : List UInt8), .str ([] : List UInt8), .i 0, .i 0, .i 0, .i 100, .i 100, .i 0, .i 0, .i 0, .i 0, .i 9, .i 9, .i 9]) (tm Z) Z Z Z (nb Z) Z (xe (aw_seq ?_)))
 obtain ⟨r31, r31e, h⟩ := bind_some h
 obtain ⟨r32, r32e, h⟩ := bind_some h
 obtain ⟨r33, r33e, h⟩ := bind_some h
 refine aw_reserve fun p34 => (aw_planR (by decide +kernel) [[], [(1, 0, false)], [], [(1, 0, false)], [], [(0, 0, true)], [(0, 1, true)]] [[5, 6], []] [[[(p34, .resv)], [(p34, .cells [.i 0, .i 0, .str ([] : List UInt8), .sl .full 1 (([] : List (List UInt8)).map AV.str), .i 0, .i 0, .bool false, .i 0, .i 0, .i 0, .sl .full 2 (([] : List api.Held).map api.Held.av), .str ([] : List UInt8), .i 0, .bool false, .bool false])], [(p34, .cells (api.Conn.ct .no .no r33))]], [[(p30, .cells [.str ([] : List UInt8), .str ([] : List UInt8), .i 0, .i 0, .i 0, .i 100, .i 100, .i 0, .i 0, .i 0, .i 0, .i 9, .i 9, .i 9])]]] [.agg (api.Conn.ct .full .full r31), .agg [.str ([] : List UInt8), .str ([] : List UInt8), .i 0, .i 0, .i 0, .i 100, .i 100, .i 0, .i 0, .i 0, .i 0, .i 9, .i 9, .i 9], .agg (api.Conn.ct .no .no r32), .agg [.str ([] : List UInt8), .str ([] : List UInt8), .i 0, .i 0, .i 0, .i 100, .i 100, .i 0, .i 0, .i 0, .i 0, .i 9, .i 9, .i 9], .agg (api.Conn.ct .no .no r33), .ptr p34 0, .un] (by decide +kernel) Z Z ?_ ?_)
 ·exact ⟨stepg_plain Z (op_call (vs := [.i 7]) (H := []) Z call26 ⟨(AEv.int _ _), trivial⟩ (R := []) (List.Perm.refl _) (conn.Open.ok r31e) (by rintro _ _ ⟨rfl, rfl⟩; exact ⟨Z, Z⟩)), stepg_plain Z (op_loadN (i := 0) Z isAgg53 sizeOf53 (tm Z) Z (nb Z) Z ⟨Z, Z⟩), stepg_plain Z (op_call (vs := [.agg (api.Conn.ct .no .no r31), .str [97], .i 2, .i 0, .agg [.str ([] : List UInt8), .str ([] : List UInt8), .i 0, .i 0, .i 0, .i 100, .i 100, .i 0, .i 0, .i 0, .i 0, .i 9, .i 9, .i 9]]) (H := []) Z call27 ⟨(AEv.le (tm Z) (AV.Le.agg ⟨vr, vr, vr, (AV.Le.forget _ _ _), vr, vr, vr, vr, vr, vr, (AV.Le.forget _ _ _), vr, vr, vr, vr, trivial⟩)), (AEv.const Z), (AEv.int _ _), (AEv.int _ _), (tm Z), trivial⟩ (R := []) (List.Perm.refl _) (conn.Say.ok r32e) (by rintro _ _ ⟨rfl, rfl⟩; exact ⟨Z, Z⟩)), stepg_plain Z (op_loadN (i := 0) Z isAgg53 sizeOf53 (tm Z) Z (nb Z) Z ⟨Z, Z⟩), stepg_plain Z (op_call (vs := [.agg (api.Conn.ct .no .no r32), .str [98], .i 0, .i 0, .agg [.str ([] : List UInt8), .str ([] : List UInt8), .i 0, .i 0, .i 0, .i 100, .i 100, .i 0, .i 0, .i 0, .i 0, .i 9, .i 9, .i 9]]) (H := []) Z call27 ⟨(tm Z), (AEv.const Z), (AEv.int _ _), (AEv.int _ _), (tm Z), trivial⟩ (R := []) (List.Perm.refl _) (conn.Say.ok r33e) (by rintro _ _ ⟨rfl, rfl⟩; exact ⟨Z, Z⟩)), stepg_plain Z (aop_settleP (op_alloc (cs := [.i 0, .i 0, .str ([] : List UInt8), .sl .full 1 (([] : List (List UInt8)).map AV.str), .i 0, .i 0, .bool false, .i 0, .i 0, .i 0, .sl .full 2 (([] : List api.Held).map api.Held.av), .str ([] : List UInt8), .i 0, .bool false, .bool false]) (v := .agg [.i 0, .i 0, .str ([] : List UInt8), .sl .full 1 (([] : List (List UInt8)).map AV.str), .i 0, .i 0, .bool false, .i 0, .i 0, .i 0, .sl .full 2 (([] : List api.Held).map api.Held.av), .str ([] : List UInt8), .i 0, .bool false, .bool false]) Z zeroValue56 Z Z Z fun t => ⟨t, Z, Z⟩) ⟨Z, Z⟩), stepg_plain Z (op_store (i := 0) (cs' := (api.Conn.ct .no .no r33)) Z sizeOf56 (tm Z) (v := .agg (api.Conn.ct .no .no r33)) (tm Z) Z Z Z (nb Z) Z ⟨Z, Z⟩), trivial⟩
 refine xr (xc Z (op_loadN (i := 0) Z isAgg56 sizeOf56 (tm Z) Z (nb Z) Z ?_))
 obtain ⟨r35, r35e, h⟩ := bind_some h
 refine xc Z (op_call (vs := [.agg (api.Conn.ct .no .no r33), .i 2]) (H := []) Z call28 ⟨(tm Z), (AEv.int _ _), trivial⟩ (List.Perm.refl _) (conn.Free.ok r35e) ?_)
 rintro _ _ ⟨t36, rfl, rfl⟩
 obtain ⟨r37, r37e, h⟩ := bind_some h
 refine xc Z (op_call (vs := [.agg (api.Conn.ct .no .no r35), .i 9]) (H := []) Z call29 ⟨(AEv.le (tm Z) (AV.Le.agg ⟨vr, vr, vr, vr, vr, vr, vr, vr, vr, vr, (AV.Le.forget _ _ _), vr, vr, vr, vr, trivial⟩)), (AEv.int _ _), trivial⟩ (List.Perm.refl _) (conn.Take.ok r37e) ?_)
 rintro _ _ ⟨rfl, rfl⟩
 refine xm Z Z Z (xa (.agg (api.Conn.ct .no .no r37.1)) Z (pu_extract Z (tm Z) (nb Z) Z) (xa (.str r37.2) Z (pu_extract Z (tm Z) (nb Z) Z) (xc Z (op_alloc (cs := [.i 0, .i 0, .str ([] : List UInt8), .sl .full 1 (([] : List (List UInt8)).map AV.str), .i 0, .i 0, .bool false, .i 0, .i 0, .i 0, .sl .full 2 (([] : List api.Held).map api.Held.av), .str ([] : List UInt8), .i 0, .bool false, .bool false]) (v := .agg [.i 0, .i 0, .str ([] : List UInt8), .sl .full 1 (([] : List (List UInt8)).map AV.str), .i 0, .i 0, .bool false, .i 0, .i 0, .i 0, .sl .full 2 (([] : List api.Held).map api.Held.av), .str ([] : List UInt8), .i 0, .bool false, .bool false]) Z zeroValue56 Z Z Z ?_))))
 intro p38
 refine ac0 Z Z (op_store (i := 0) (cs' := (api.Conn.ct .no .no r37.1)) Z sizeOf56 (tm Z) (v := .agg (api.Conn.ct .no .no r37.1)) (tm Z) Z Z Z (nb Z) Z (xm Z Z Z (xe (aw_seq ?_))))
 obtain ⟨r39, r39e, h⟩ := bind_some h
 obtain ⟨r40, r40e, h⟩ := bind_some h
 refine aw_reserve fun p41 => (aw_planR (by decide +kernel) [[], [(4, 0, false)], [], [], [], [], [], [(0, 0, true)], [(0, 1, true)], [], []] [[7, 8], [], [], [], []] [[[(p41, .resv)], [(p41, .cells [.i 0, .i 0, .str ([] : List UInt8), .sl .full 1 (([] : List (List UInt8)).map AV.str), .i 0, .i 0, .bool false, .i 0, .i 0, .i 0, .sl .full 2 (([] : List api.Held).map api.Held.av), .str ([] : List UInt8), .i 0, .bool false, .bool false])], [(p41, .cells (api.Conn.ct .no .no r40.1))]], [[(p38, .cells (api.Conn.ct .no .no r37.1))]], [[(t36, .spare)]], [[(p34, .cells (api.Conn.ct .no .no r33))]], [[(p30, .cells [.str ([] : List UInt8), .str ([] : List UInt8), .i 0, .i 0, .i 0, .i 100, .i 100, .i 0, .i 0, .i 0, .i 0, .i 9, .i 9, .i 9])]]] [.agg (api.Conn.ct .full .full r39), .agg [.str ([] : List UInt8), .str ([] : List UInt8), .i 0, .i 0, .i 0, .i 100, .i 100, .i 0, .i 0, .i 0, .i 0, .i 9, .i 9, .i 9], .tup [.agg (api.Conn.ct .no .no r40.1), .sl .no 2 (r40.2.1.map api.Request.av), .str r40.2.2], .tup [.agg (api.Conn.ct .no .no r40.1), .sl .no 2 (r40.2.1.map api.Request.av), .str r40.2.2], .agg (api.Conn.ct .no .no r40.1), .sl .no 2 (r40.2.1.map api.Request.av), .str r40.2.2, .ptr p41 0, .un, .sl .no 2 (r40.2.1.map api.Request.av), .str r40.2.2] (by decide +kernel) Z Z ?_ ?_)
 ·exact ⟨stepg_plain Z (op_call (vs := [.i 7]) (H := []) Z call26 ⟨(AEv.int _ _), trivial⟩ (R := []) (List.Perm.refl _) (conn.Open.ok r39e) (by rintro _ _ ⟨rfl, rfl⟩; exact ⟨Z, Z⟩)), stepg_plain Z (op_loadN (i := 0) Z isAgg53 sizeOf53 (tm Z) Z (nb Z) Z ⟨Z, Z⟩), stepg_plain Z (aop_forget (.tup [.agg (api.Conn.ct .no .no r40.1), .sl .no 2 (r40.2.1.map api.Request.av), .str r40.2.2]) [] (op_call (vs := [.agg (api.Conn.ct .no .no r39), .str [71, 69, 84, 32, 97, 10, 120], .agg [.str ([] : List UInt8), .str ([] : List UInt8), .i 0, .i 0, .i 0, .i 100, .i 100, .i 0, .i 0, .i 0, .i 0, .i 9, .i 9, .i 9]]) (H := []) Z call32 ⟨(AEv.le (tm Z) (AV.Le.agg ⟨vr, vr, vr, (AV.Le.forget _ _ _), vr, vr, vr, vr, vr, vr, (AV.Le.forget _ _ _), vr, vr, vr, vr, trivial⟩)), (AEv.const Z), (tm Z), trivial⟩ (R := []) (List.Perm.refl _) (conn.Read.ok r40e) (by rintro _ _ ⟨_, rfl, rfl⟩; exact ⟨([] : List Nat), _, Z, Z, (AV.Le.tup ⟨vr, (AV.Le.forget _ _ _), vr, trivial⟩), List.nodup_nil, Z⟩)) ⟨Z, Z⟩), ym Z Z Z, yp Z (pu_extract Z (tm Z) (nb Z) Z), yp Z (pu_extract Z (tm Z) (nb Z) Z), yp Z (pu_extract Z (tm Z) (nb Z) Z), stepg_plain Z (aop_settleP (op_alloc (cs := [.i 0, .i 0, .str ([] : List UInt8), .sl .full 1 (([] : List (List UInt8)).map AV.str), .i 0, .i 0, .bool false, .i 0, .i 0, .i 0, .sl .full 2 (([] : List api.Held).map api.Held.av), .str ([] : List UInt8), .i 0, .bool false, .bool false]) (v := .agg [.i 0, .i 0, .str ([] : List UInt8), .sl .full 1 (([] : List (List UInt8)).map AV.str), .i 0, .i 0, .bool false, .i 0, .i 0, .i 0, .sl .full 2 (([] : List api.Held).map api.Held.av), .str ([] : List UInt8), .i 0, .bool false, .bool false]) Z zeroValue56 Z Z Z fun t => ⟨t, Z, Z⟩) ⟨Z, Z⟩), stepg_plain Z (op_store (i := 0) (cs' := (api.Conn.ct .no .no r40.1)) Z sizeOf56 (tm Z) (v := .agg (api.Conn.ct .no .no r40.1)) (tm Z) Z Z Z (nb Z) Z ⟨Z, Z⟩), ym Z Z Z, ym Z Z Z, trivial⟩
 obtain ⟨s49, s49e, h50⟩ := letO_of h
 refine aw_meet (ν := Unit) (fun v => [(0, .bool s49)]) (fun v => []) ?_ ?_
 ·have h := s49e.symm
  refine aw_region (xa (.ptr p34 11) Z (fa Z underlying56 Z sizeOf9 Z Z Z) (xc Z (op_load1 (i := 3) Z isAgg9 (tm Z) Z Z (xa (.bool (decide (r33.Out = ([] : List UInt8)))) Z (pu_str (v := .bool (decide (r33.Out = ([] : List UInt8)))) Z Z (tm Z) (AEv.const Z) Z) (xm Z Z Z ?_)))))
  rcases Bool.eq_false_or_eq_true (decide (r33.Out = ([] : List UInt8))) with hb52 | hb52
  ·replace h := ite_t (dec_t hb52) h
   refine aops_known 31 Z hb52 (xq Z Z Z Z (xp (.bool (decide (r37.2 = [97, 98]))) Z Z (pu_str (v := .bool (decide (r37.2 = [97, 98]))) Z Z (tm Z) (AEv.const Z) Z) (xa (.bool (decide (r37.2 = [97, 98]))) Z (pu_pick (b := true) Z (tm Z) (fun _ => (tm Z)) (fun h => nomatch h)) (xm Z Z Z ?_))))
   rcases Bool.eq_false_or_eq_true (decide (r37.2 = [97, 98])) with hb53 | hb53
   ·replace h := ite_t (dec_t hb53) h
    refine aops_known 35 Z hb53 (xp (.ptr p38 12) Z Z (fa Z underlying56 Z sizeOf3 Z Z Z) (xg Z Z (op_load1 (i := 1) Z isAgg3 (tm Z) Z Z (xp (.bool (decide (r37.1.Taken = 2))) Z Z (pu_int (v := .bool (decide (r37.1.Taken = 2))) Z Z (tm Z) (AEv.int _ _) Z) (xa (.bool (decide (r37.1.Taken = 2))) Z (pu_pick (b := true) Z (tm Z) (fun _ => (tm Z)) (fun h => nomatch h)) (xm Z Z Z ?_))))))
    rcases Bool.eq_false_or_eq_true (decide (r37.1.Taken = 2)) with hb54 | hb54
    ·replace h := ite_t (dec_t hb54) h
     refine aops_known 40 Z hb54 (xq Z Z Z Z (xp (.i (r40.2.1.length : Int)) Z Z (pu_lenM Z underlying30 (tm Z)) (xp (.bool (decide ((r40.2.1.length : Int) = 1))) Z Z (pu_int (v := .bool (decide ((r40.2.1.length : Int) = 1))) Z Z (tm Z) (AEv.int _ _) Z) (xa (.bool (decide ((r40.2.1.length : Int) = 1))) Z (pu_pick (b := true) Z (tm Z) (fun _ => (tm Z)) (fun h => nomatch h)) (xm Z Z Z ?_)))))
     rcases Bool.eq_false_or_eq_true (decide ((r40.2.1.length : Int) = 1)) with hb55 | hb55
     ·replace h := ite_t (dec_t hb55) h
      refine aops_known 45 Z hb55 (xq Z Z Z Z (xp (.bool (decide (r40.2.2 = ([] : List UInt8)))) Z Z (pu_str (v := .bool (decide (r40.2.2 = ([] : List UInt8)))) Z Z (tm Z) (AEv.const Z) Z) (xa (.bool (decide (r40.2.2 = ([] : List UInt8)))) Z (pu_pick (b := true) Z (tm Z) (fun _ => (tm Z)) (fun h => nomatch h)) (xm Z Z Z ?_))))
      rcases Bool.eq_false_or_eq_true (decide (r40.2.2 = ([] : List UInt8))) with hb56 | hb56
      ·replace h := ite_t (dec_t hb56) h
       refine aops_known 49 Z hb56 (xp (.ptr p41 9) Z Z (fa Z underlying56 Z sizeOf3 Z Z Z) (xg Z Z (op_load1 (i := 0) Z isAgg3 (tm Z) Z Z (xp (.bool (decide (r40.1.Asked = 6))) Z Z (pu_int (v := .bool (decide (r40.1.Asked = 6))) Z Z (tm Z) (AEv.int _ _) Z) (xa (.bool (decide (r40.1.Asked = 6))) Z (pu_pick (b := true) Z (tm Z) (fun _ => (tm Z)) (fun h => nomatch h)) (xm Z Z Z ?_))))))
       rcases Bool.eq_false_or_eq_true (decide (r40.1.Asked = 6)) with hb57 | hb57
       ·replace h := ite_t (dec_t hb57) h
        refine aops_known 54 Z hb57 (xp (.ptr p41 2) Z Z (fa Z underlying56 Z sizeOf29 Z Z Z) (xp (.ptr p41 2) Z Z (fa Z underlying29 Z sizeOf9 Z Z Z) (xg Z Z (op_load1 (i := 0) Z isAgg9 (tm Z) Z Z (xp (.bool (decide (r40.1.In.Rest = [120]))) Z Z (pu_str (v := .bool (decide (r40.1.In.Rest = [120]))) Z Z (tm Z) (AEv.const Z) Z) (xa (.bool (decide (r40.1.In.Rest = [120]))) Z (pu_pick (b := true) Z (tm Z) (fun _ => (tm Z)) (fun h => nomatch h)) (xm Z Z Z ?_)))))))
        rcases Bool.eq_false_or_eq_true (decide (r40.1.In.Rest = [120])) with hb58 | hb58
        ·replace h := ite_t (dec_t hb58) h
         refine aops_known 60 Z hb58 (xp (.ptr p41 1) Z Z (fa Z underlying56 Z sizeOf3 Z Z Z) (xg Z Z (op_load1 (i := 0) Z isAgg3 (tm Z) Z Z (xp (.bool (decide (r40.1.Tenant = (-1)))) Z Z (pu_int (v := .bool (decide (r40.1.Tenant = (-1)))) Z Z (tm Z) (AEv.int _ _) Z) (xa (.bool (decide (r40.1.Tenant = (-1)))) Z (pu_pick (b := true) Z (tm Z) (fun _ => (tm Z)) (fun h => nomatch h)) (xm Z Z Z (xe ?_)))))))
         subst h
         exact ⟨(), Weak.mkL [] (by decide) trivial ⟨(AEv.le (tm Z) vr), trivial⟩⟩
        ·replace h := ite_f (dec_f hb58) h
         refine aops_known 60 Z hb58 (xn Z Z Z (xn Z Z Z (xn Z Z Z (xa (.bool false) Z (pu_pick (b := false) Z (tm Z) (fun h => nomatch h) (fun _ => (AEv.bool _))) (xm Z Z Z (xe ?_))))))
         subst h
         exact ⟨(), Weak.mkL [] (by decide) trivial ⟨tm Z, trivial⟩⟩
       ·replace h := ite_f (dec_f hb57) h
        refine aops_known 54 Z hb57 (xn Z Z Z (xn Z Z Z (xn Z Z Z (xn Z Z Z (xa (.bool false) Z (pu_pick (b := false) Z (tm Z) (fun h => nomatch h) (fun _ => (AEv.bool _))) (xm Z Z Z (xn Z Z Z (xn Z Z Z (xn Z Z Z ?_)))))))))
        refine xa (.bool false) Z (pu_pick (b := false) Z (tm Z) (fun h => nomatch h) (fun _ => (AEv.bool _))) (xm Z Z Z (xe ?_))
        subst h
        exact ⟨(), Weak.mkL [] (by decide) trivial ⟨tm Z, trivial⟩⟩
      ·replace h := ite_f (dec_f hb56) h
       refine aops_known 49 Z hb56 (xn Z Z Z (xn Z Z Z (xn Z Z Z (xa (.bool false) Z (pu_pick (b := false) Z (tm Z) (fun h => nomatch h) (fun _ => (AEv.bool _))) (xm Z Z Z (xn Z Z Z (xn Z Z Z (xn Z Z Z (xn Z Z Z ?_)))))))))
       refine xa (.bool false) Z (pu_pick (b := false) Z (tm Z) (fun h => nomatch h) (fun _ => (AEv.bool _))) (xm Z Z Z (xn Z Z Z (xn Z Z Z (xn Z Z Z (xa (.bool false) Z (pu_pick (b := false) Z (tm Z) (fun h => nomatch h) (fun _ => (AEv.bool _))) (xm Z Z Z (xe ?_)))))))
       subst h
       exact ⟨(), Weak.mkL [] (by decide) trivial ⟨tm Z, trivial⟩⟩
     ·replace h := ite_f (dec_f hb55) h
      refine aops_known 45 Z hb55 (xn Z Z Z (xn Z Z Z (xa (.bool false) Z (pu_pick (b := false) Z (tm Z) (fun h => nomatch h) (fun _ => (AEv.bool _))) (xm Z Z Z (xn Z Z Z (xn Z Z Z (xn Z Z Z (xa (.bool false) Z (pu_pick (b := false) Z (tm Z) (fun h => nomatch h) (fun _ => (AEv.bool _))) (xm Z Z Z ?_)))))))))
      refine xn Z Z Z (xn Z Z Z (xn Z Z Z (xn Z Z Z (xa (.bool false) Z (pu_pick (b := false) Z (tm Z) (fun h => nomatch h) (fun _ => (AEv.bool _))) (xm Z Z Z (xn Z Z Z (xn Z Z Z (xn Z Z Z (xa (.bool false) Z (pu_pick (b := false) Z (tm Z) (fun h => nomatch h) (fun _ => (AEv.bool _))) ?_)))))))))
      refine xm Z Z Z (xe ?_)
      subst h
      exact ⟨(), Weak.mkL [] (by decide) trivial ⟨tm Z, trivial⟩⟩
    ·replace h := ite_f (dec_f hb54) h
     refine aops_known 40 Z hb54 (xn Z Z Z (xn Z Z Z (xn Z Z Z (xa (.bool false) Z (pu_pick (b := false) Z (tm Z) (fun h => nomatch h) (fun _ => (AEv.bool _))) (xm Z Z Z (xn Z Z Z (xn Z Z Z (xa (.bool false) Z (pu_pick (b := false) Z (tm Z) (fun h => nomatch h) (fun _ => (AEv.bool _))) (xm Z Z Z ?_)))))))))
     refine xn Z Z Z (xn Z Z Z (xn Z Z Z (xa (.bool false) Z (pu_pick (b := false) Z (tm Z) (fun h => nomatch h) (fun _ => (AEv.bool _))) (xm Z Z Z (xn Z Z Z (xn Z Z Z (xn Z Z Z (xn Z Z Z (xa (.bool false) Z (pu_pick (b := false) Z (tm Z) (fun h => nomatch h) (fun _ => (AEv.bool _))) ?_)))))))))
     refine xm Z Z Z (xn Z Z Z (xn Z Z Z (xn Z Z Z (xa (.bool false) Z (pu_pick (b := false) Z (tm Z) (fun h => nomatch h) (fun _ => (AEv.bool _))) (xm Z Z Z (xe ?_))))))
     subst h
     exact ⟨(), Weak.mkL [] (by decide) trivial ⟨tm Z, trivial⟩⟩
   ·replace h := ite_f (dec_f hb53) h
    refine aops_known 35 Z hb53 (xn Z Z Z (xn Z Z Z (xn Z Z Z (xa (.bool false) Z (pu_pick (b := false) Z (tm Z) (fun h => nomatch h) (fun _ => (AEv.bool _))) (xm Z Z Z (xn Z Z Z (xn Z Z Z (xn Z Z Z (xa (.bool false) Z (pu_pick (b := false) Z (tm Z) (fun h => nomatch h) (fun _ => (AEv.bool _))) ?_)))))))))
    refine xm Z Z Z (xn Z Z Z (xn Z Z Z (xa (.bool false) Z (pu_pick (b := false) Z (tm Z) (fun h => nomatch h) (fun _ => (AEv.bool _))) (xm Z Z Z (xn Z Z Z (xn Z Z Z (xn Z Z Z (xa (.bool false) Z (pu_pick (b := false) Z (tm Z) (fun h => nomatch h) (fun _ => (AEv.bool _))) (xm Z Z Z ?_)))))))))
    refine xn Z Z Z (xn Z Z Z (xn Z Z Z (xn Z Z Z (xa (.bool false) Z (pu_pick (b := false) Z (tm Z) (fun h => nomatch h) (fun _ => (AEv.bool _))) (xm Z Z Z (xn Z Z Z (xn Z Z Z (xn Z Z Z (xa (.bool false) Z (pu_pick (b := false) Z (tm Z) (fun h => nomatch h) (fun _ => (AEv.bool _))) ?_)))))))))
    refine xm Z Z Z (xe ?_)
    subst h
    exact ⟨(), Weak.mkL [] (by decide) trivial ⟨tm Z, trivial⟩⟩
  ·replace h := ite_f (dec_f hb52) h
   refine aops_known 31 Z hb52 (xn Z Z Z (xn Z Z Z (xa (.bool false) Z (pu_pick (b := false) Z (tm Z) (fun h => nomatch h) (fun _ => (AEv.bool _))) (xm Z Z Z (xn Z Z Z (xn Z Z Z (xn Z Z Z (xa (.bool false) Z (pu_pick (b := false) Z (tm Z) (fun h => nomatch h) (fun _ => (AEv.bool _))) (xm Z Z Z ?_)))))))))
   refine xn Z Z Z (xn Z Z Z (xn Z Z Z (xa (.bool false) Z (pu_pick (b := false) Z (tm Z) (fun h => nomatch h) (fun _ => (AEv.bool _))) (xm Z Z Z (xn Z Z Z (xn Z Z Z (xa (.bool false) Z (pu_pick (b := false) Z (tm Z) (fun h => nomatch h) (fun _ => (AEv.bool _))) (xm Z Z Z (xn Z Z Z ?_)))))))))
   refine xn Z Z Z (xn Z Z Z (xa (.bool false) Z (pu_pick (b := false) Z (tm Z) (fun h => nomatch h) (fun _ => (AEv.bool _))) (xm Z Z Z (xn Z Z Z (xn Z Z Z (xn Z Z Z (xn Z Z Z (xa (.bool false) Z (pu_pick (b := false) Z (tm Z) (fun h => nomatch h) (fun _ => (AEv.bool _))) (xm Z Z Z ?_)))))))))
   refine xn Z Z Z (xn Z Z Z (xn Z Z Z (xa (.bool false) Z (pu_pick (b := false) Z (tm Z) (fun h => nomatch h) (fun _ => (AEv.bool _))) (xm Z Z Z (xe ?_)))))
   subst h
   exact ⟨(), Weak.mkL [] (by decide) trivial ⟨tm Z, trivial⟩⟩
 ·intro _
  have h := h50
  refine aw_ret ?_
  obtain rfl := some_of h
  exact ⟨[.bool s49], _, [], ⟨(tm Z), trivial⟩, vr, Weak.mkL [] (by decide) trivial trivial, ⟨Z, Z⟩⟩

theorem mewslaw43.right_.ok {t_ : api.Tenant} {r : api.Tenant} (h : mewslaw43.right_ t_ = some r) : Go.Lift.Spec prog 31 [.agg (api.Tenant.ct t_)] [] (fun v H => v = .agg [.str r.Name, .str r.Token, .i r.Memory, .i r.Policy, .i r.Conns, .i r.In, .i r.Out, .i r.Burst, .i r.Rate, .i r.Disk, .i r.Sync, .i r.Limits.Args, .i r.Limits.Bulk, .i r.Limits.Line] ∧ H = []) := by
 unfold mewslaw43.right_ at h
 refine Go.Lift.Spec.of_body (rs := [.cell 2 53]) func31 Z Z (nb Z) Z (xr (xc Z (op_box (cs := (api.Tenant.ct t_)) (v := .agg (api.Tenant.ct t_)) Z (tm Z) Z Z ?_)))
 intro p3
 refine xc Z (op_alloc (cs := [.str ([] : List UInt8), .str ([] : List UInt8), .i 0, .i 0, .i 0, .i 0, .i 0, .i 0, .i 0, .i 0, .i 0, .i 0, .i 0, .i 0]) (v := .agg [.str ([] : List UInt8), .str ([] : List UInt8), .i 0, .i 0, .i 0, .i 0, .i 0, .i 0, .i 0, .i 0, .i 0, .i 0, .i 0, .i 0]) Z zeroValue53 Z Z Z ?_)
 intro p4
 refine xe (xr (xa (.ptr p3 5) Z (fa Z underlying53 Z sizeOf3 Z Z Z) (xc Z (op_load1 (i := 1) Z isAgg3 (tm Z) Z Z (xa (.i (if t_.In < 0 then 0 else t_.In)) Z (pu_max2 Z (tm Z) (AEv.int _ _)) (xa (.i (if 1048576 < (if t_.In < 0 then 0 else t_.In) then 1048576 else (if t_.In < 0 then 0 else t_.In))) Z (pu_min2 Z (tm Z) (AEv.int _ _)) (xa (.ptr p3 5) Z (fa Z underlying53 Z sizeOf3 Z Z Z) (ac0 Z Z (op_store (i := 1) (cs' := (api.Tenant.ct { t_ with In := if 1048576 < (if t_.In < 0 then 0 else t_.In) then 1048576 else (if t_.In < 0 then 0 else t_.In) })) Z sizeOf3 (tm Z) (v := .i (if 1048576 < (if t_.In < 0 then 0 else t_.In) then 1048576 else (if t_.In < 0 then 0 else t_.In))) (tm Z) Z Z Z (nb Z) Z (xe ?_))))))))))
 refine xr (xa (.ptr p3 6) Z (fa Z underlying53 Z sizeOf3 Z Z Z) (xc Z (op_load1 (i := 1) Z isAgg3 (tm Z) Z Z (xa (.i (if t_.Out < 0 then 0 else t_.Out)) Z (pu_max2 Z (tm Z) (AEv.int _ _)) (xa (.i (if 4194304 < (if t_.Out < 0 then 0 else t_.Out) then 4194304 else (if t_.Out < 0 then 0 else t_.Out))) Z (pu_min2 Z (tm Z) (AEv.int _ _)) (xa (.ptr p3 6) Z (fa Z underlying53 Z sizeOf3 Z Z Z) (ac0 Z Z (op_store (i := 1) (cs' := (api.Tenant.ct { t_ with In := if 1048576 < (if t_.In < 0 then 0 else t_.In) then 1048576 else (if t_.In < 0 then 0 else t_.In), Out := if 4194304 < (if t_.Out < 0 then 0 else t_.Out) then 4194304 else (if t_.Out < 0 then 0 else t_.Out) })) Z sizeOf3 (tm Z) (v := .i (if 4194304 < (if t_.Out < 0 then 0 else t_.Out) then 4194304 else (if t_.Out < 0 then 0 else t_.Out))) (tm Z) Z Z Z (nb Z) Z (xe (aw_seq ?_))))))))))
 refine aw_region (xc Z (op_loadN (i := 1) Z isAgg53 sizeOf53 (tm Z) Z (nb Z) Z (ac0 Z Z (op_store (i := 0) (cs' := (api.Tenant.ct { t_ with In := if 1048576 < (if t_.In < 0 then 0 else t_.In) then 1048576 else (if t_.In < 0 then 0 else t_.In), Out := if 4194304 < (if t_.Out < 0 then 0 else t_.Out) then 4194304 else (if t_.Out < 0 then 0 else t_.Out) })) Z sizeOf53 (tm Z) (v := .agg (api.Tenant.ct { t_ with In := if 1048576 < (if t_.In < 0 then 0 else t_.In) then 1048576 else (if t_.In < 0 then 0 else t_.In), Out := if 4194304 < (if t_.Out < 0 then 0 else t_.Out) then 4194304 else (if t_.Out < 0 then 0 else t_.Out) })) (tm Z) Z Z Z (nb Z) Z (xe (aw_ret ?_))))))
 obtain rfl := some_of h
 exact ⟨[.agg (api.Tenant.ct { t_ with In := if 1048576 < (if t_.In < 0 then 0 else t_.In) then 1048576 else (if t_.In < 0 then 0 else t_.In), Out := if 4194304 < (if t_.Out < 0 then 0 else t_.Out) then 4194304 else (if t_.Out < 0 then 0 else t_.Out) })], _, [], ⟨(CellOk.agg 0 (tm Z) Z isAgg53 sizeOf53 (nb Z) Z), trivial⟩, vr, Weak.mkL [] (by decide) trivial trivial, ⟨Z, Z⟩⟩

theorem mewsref43.Read.ok {c_ : api.Conn} {all_ : List UInt8} {read : Int} {t_ : api.Tenant} {r : api.Conn × (List api.Request) × (List UInt8)} (h : mewsref43.Read c_ all_ read t_ = some r) : Go.Lift.Spec prog 33 [.agg (api.Conn.ct .no .no c_), .str all_, .i read, .agg (api.Tenant.ct t_)] [] (fun v H => ∃ n0, v = .tup [.agg [.i r.1.Born, .i r.1.Tenant, .str r.1.In.Rest, .sl .no 1 (r.1.In.Args.map AV.str), .i r.1.In.Left, .i r.1.In.Size, .bool r.1.In.Body, .i r.1.In.Need, .i r.1.In.Dead, .i r.1.Asked, .sl .no 2 (r.1.Held.map api.Held.av), .str r.1.Out, .i r.1.Taken, .bool r.1.Shut, .bool r.1.Closed], .sl (.own n0) 2 (r.2.1.map api.Request.av), .str r.2.2] ∧ H = [(n0, .spare)]) := by
 unfold mewsref43.Read at h
 refine Go.Lift.Spec.of_body (rs := [.cell 8 56, .tmp 9, .tmp 10]) func33 Z Z (nb Z) Z (xr (xc Z (op_box (cs := (api.Conn.ct .no .no c_)) (v := .agg (api.Conn.ct .no .no c_)) Z (tm Z) Z Z ?_)))
 intro p61
 refine xc Z (op_box (cs := (api.Tenant.ct t_)) (v := .agg (api.Tenant.ct t_)) Z (tm Z) Z Z ?_)
 intro p62
 refine xc Z (op_alloc (cs := [.i 0, .i 0, .str ([] : List UInt8), .sl .full 1 (([] : List (List UInt8)).map AV.str), .i 0, .i 0, .bool false, .i 0, .i 0, .i 0, .sl .full 2 (([] : List api.Held).map api.Held.av), .str ([] : List UInt8), .i 0, .bool false, .bool false]) (v := .agg [.i 0, .i 0, .str ([] : List UInt8), .sl .full 1 (([] : List (List UInt8)).map AV.str), .i 0, .i 0, .bool false, .i 0, .i 0, .i 0, .sl .full 2 (([] : List api.Held).map api.Held.av), .str ([] : List UInt8), .i 0, .bool false, .bool false]) Z zeroValue56 Z Z Z ?_)
 intro p63
 refine xa (.sl .full 2 (([] : List api.Request).map api.Request.av)) Z (pu_assign Z (AEv.nil 2 (by decide))) (xa (.str ([] : List UInt8)) Z (pu_assign Z (AEv.const Z)) (xe (xr (xm Z Z Z (xa (.ptr p62 11) Z (fa Z underlying53 Z sizeOf23 Z Z Z) (xc Z (op_loadN (i := 1) Z isAgg23 sizeOf23 (tm Z) Z (nb Z) Z ?_)))))))
 obtain ⟨r64, r64e, h⟩ := bind_some h
 refine xc Z (op_call (vs := [.str all_, .agg [.i t_.Limits.Args, .i t_.Limits.Bulk, .i t_.Limits.Line]]) (H := []) Z call16 ⟨(tm Z), (tm Z), trivial⟩ (List.Perm.refl _) (mewsref05.All.ok r64e) ?_)
 rintro _ _ ⟨t65, rfl, rfl⟩
 refine xm Z Z Z (xa (.agg (api.Input.ct .no r64.1)) Z (pu_extract Z (tm Z) (nb Z) Z) (xa (.sl (.own t65) 2 (r64.2.map api.Request.av)) Z (pu_extract Z (tm Z) (nb Z) Z) (xc Z (op_alloc (cs := [.str ([] : List UInt8), .sl .full 1 (([] : List (List UInt8)).map AV.str), .i 0, .i 0, .bool false, .i 0, .i 0]) (v := .agg [.str ([] : List UInt8), .sl .full 1 (([] : List (List UInt8)).map AV.str), .i 0, .i 0, .bool false, .i 0, .i 0]) Z zeroValue29 Z Z Z ?_))))
 intro p66
 refine ac0 Z Z (op_store (i := 0) (cs' := (api.Input.ct .no r64.1)) Z sizeOf29 (tm Z) (v := .agg (api.Input.ct .no r64.1)) (tm Z) Z Z Z (nb Z) Z (xm Z Z Z (xe (xr (xc Z (op_loadN (i := 0) Z isAgg29 sizeOf29 (tm Z) Z (nb Z) Z (xa (.ptr p61 2) Z (fa Z underlying56 Z sizeOf29 Z Z Z) (ac0 Z Z (op_store (i := 4) (cs' := (api.Conn.ct .no .no { c_ with In := r64.1 })) Z sizeOf29 (tm Z) (v := .agg (api.Input.ct .no r64.1)) (tm Z) Z Z Z (nb Z) Z (xe (aw_seq ?_)))))))))))
 refine aw_region (xa (.sl .full 2 (([] : List api.Request).map api.Request.av)) Z (pu_assign Z (AEv.nil 2 (by decide))) (xe ?_))
 obtain ⟨s91, s91e, h93⟩ := bind_some h
 refine aw_meet (ν := Nat) (fun v => [(4, .ptr p61 0), (7, .ptr p62 0), (8, .ptr p63 0), (11, .ptr p66 0), (13, .sl (.own v) 2 (s91.1.map api.Request.av))]) (fun v => [(p61, .cells (api.Conn.ct .no .no { c_ with In := r64.1, Asked := s91.2 })), (p62, .cells (api.Tenant.ct t_)), (p63, .cells [.i 0, .i 0, .str ([] : List UInt8), .sl .full 1 (([] : List (List UInt8)).map AV.str), .i 0, .i 0, .bool false, .i 0, .i 0, .i 0, .sl .full 2 (([] : List api.Held).map api.Held.av), .str ([] : List UInt8), .i 0, .bool false, .bool false]), (p66, .cells (api.Input.ct .no r64.1)), (v, .spare)]) ?_ ?_
 ·have h := s91e
  refine xr (xm Z Z Z (xm Z Z Z (xe (aw_block (aw_claim 13 (tm Z) fun t118 => (aw_while (σ := mewsref43.Read.S0) (ν := Nat) (mewsref43.Read.body0 r64) (fun s108 v => [(4, .ptr p61 0), (7, .ptr p62 0), (8, .ptr p63 0), (11, .ptr p66 0), (12, .sl (.own t65) 2 (r64.2.map api.Request.av)), (13, .sl (.own v) 2 (s108.out.map api.Request.av)), (14, .i s108.i)]) (fun s108 v => [(p61, .cells (api.Conn.ct .no .no { c_ with In := r64.1, Asked := s108.c })), (p62, .cells (api.Tenant.ct t_)), (p63, .cells [.i 0, .i 0, .str ([] : List UInt8), .sl .full 1 (([] : List (List UInt8)).map AV.str), .i 0, .i 0, .bool false, .i 0, .i 0, .i 0, .sl .full 2 (([] : List api.Held).map api.Held.av), .str ([] : List UInt8), .i 0, .bool false, .bool false]), (p66, .cells (api.Input.ct .no r64.1)), (t65, .spare), (v, .spare)]) ⟨([] : List api.Request), read, c_.Asked⟩ t118 _ h (Weak.mkL [5, 4, 3, 1, 2, 0] (by decide) ⟨⟨_, Z, cr, Z⟩, ⟨_, Z, cr, Z⟩, ⟨_, Z, cr, Z⟩, ⟨_, Z, cr, Z⟩, ⟨_, Z, Z⟩, ⟨_, Z, Z⟩, trivial⟩ ⟨tm Z, tm Z, tm Z, tm Z, tm Z, tm Z, tm Z, trivial⟩) ?_))))))
  rintro s108 n109 x111 h hx110
  unfold mewsref43.Read.body0 at h
  refine aw_seq (xr (xm Z Z Z (xm Z Z Z (xa (.i (r64.2.length : Int)) Z (pu_lenM Z underlying30 (tm Z)) (xa (.bool (decide (s108.i < (r64.2.length : Int)))) Z (pu_int (v := .bool (decide (s108.i < (r64.2.length : Int)))) Z Z (tm Z) (tm Z) Z) (xe (aw_cond (b := decide (s108.i < (r64.2.length : Int))) (tm Z) (fun hb117 => ?_) (fun hb117 => ?_))))))))
  ·replace h := ite_t (dec_t hb117) h
   refine aw_skip (aw_seq (aw_block (xr (xm Z Z Z (xm Z Z Z (xm Z Z Z ?_))))))
   obtain ⟨c113, h⟩ := need_of h
   refine xa (.vptr [.sl .no 1 ((ix r64.2 s108.i).Args.map AV.str), .i (ix r64.2 s108.i).Size]) Z (pu_indexAddrM Z underlying30 sizeOf44 (tm Z) (tm Z) c113 Z) (xc Z (op_loadVN Z isAgg44 sizeOf44 (tm Z) (nb Z) Z (xc Z (op_buildSlice (xs := ([(ix r64.2 s108.i)] : List api.Request).map api.Request.av) (aparts := [(0, .agg [.sl .no 1 ((ix r64.2 s108.i).Args.map AV.str), .i (ix r64.2 s108.i).Size])]) Z underlying30 sizeOf44 zeroValue44 (by decide) (by decide) ⟨Z, (tm Z), trivial⟩ Z Z Z ?_))))
   obtain ⟨c114, h⟩ := need_of h
   refine xc Z (op_appendOM (q := 5) Z underlying30 underlying30 (.inl Z) typeInfo44 Z Z Z (by decide) (tm Z) Z (given_sl (tm Z)) c114 ?_)
   intro t115
   refine xm Z Z Z (xe ?_)
   obtain ⟨c116, h⟩ := need_of h
   refine aw_planR (by decide +kernel) [[], [(0, 0, false)], [], [], [], [], [], [], [], [(0, 0, true)]] [[9], [], [], [], [], []] [[[(p61, .cells (api.Conn.ct .no .no { c_ with In := r64.1, Asked := s108.c }))], [(p61, .cells (api.Conn.ct .no .no { c_ with In := r64.1, Asked := IntKind.wrap .i64 (s108.c + (ix r64.2 s108.i).Size) }))]], [[(p62, .cells (api.Tenant.ct t_))]], [[(p63, .cells [.i 0, .i 0, .str ([] : List UInt8), .sl .full 1 (([] : List (List UInt8)).map AV.str), .i 0, .i 0, .bool false, .i 0, .i 0, .i 0, .sl .full 2 (([] : List api.Held).map api.Held.av), .str ([] : List UInt8), .i 0, .bool false, .bool false])]], [[(p66, .cells (api.Input.ct .no r64.1))]], [[(t65, .spare)]], [[(t115, .spare)]]] [.ptr p61 9, .i s108.c, .sl (.own t65) 2 (r64.2.map api.Request.av), .i s108.i, .vptr [.sl .no 1 ((ix r64.2 s108.i).Args.map AV.str), .i (ix r64.2 s108.i).Size], .vptr [.i (ix r64.2 s108.i).Size], .i (ix r64.2 s108.i).Size, .i (IntKind.wrap .i64 (s108.c + (ix r64.2 s108.i).Size)), .ptr p61 9, .un] (by decide +kernel) Z Z ?_ ?_
   ·exact ⟨yp Z (fa Z underlying56 Z sizeOf3 Z Z Z), stepg_plain Z (op_load1 (i := 0) Z isAgg3 (tm Z) Z Z ⟨Z, Z⟩), ym Z Z Z, ym Z Z Z, yp Z (pu_indexAddrM Z underlying30 sizeOf44 (tm Z) (tm Z) c116 Z), yp Z (fa Z underlying44 Z sizeOf3 Z Z Z), stepg_plain Z (op_loadV1 Z isAgg3 (tm Z) Z ⟨Z, Z⟩), yp Z (pu_int (v := .i (IntKind.wrap .i64 (s108.c + (ix r64.2 s108.i).Size))) Z Z (tm Z) (tm Z) Z), yp Z (fa Z underlying56 Z sizeOf3 Z Z Z), stepg_plain Z (op_store (i := 0) (cs' := (api.Conn.ct .no .no { c_ with In := r64.1, Asked := IntKind.wrap .i64 (s108.c + (ix r64.2 s108.i).Size) })) Z sizeOf3 (tm Z) (v := .i (IntKind.wrap .i64 (s108.c + (ix r64.2 s108.i).Size))) (tm Z) Z Z Z (nb Z) Z ⟨Z, Z⟩), trivial⟩
   refine aw_region (xm Z Z Z (xa (.i (IntKind.wrap .i64 (s108.i + 1))) Z (pu_int (v := .i (IntKind.wrap .i64 (s108.i + 1))) Z Z (tm Z) (AEv.int _ _) Z) (xm Z Z Z (xe ?_))))
   obtain rfl := some_of h
   exact ⟨_, t115, Z, Weak.mkL [0, 1, 2, 3, 4, 5] (by decide) ⟨⟨_, Z, ⟨vr, vr, vr, vr, vr, vr, vr, vr, vr, vr, vr, vr, vr, vr, vr, trivial⟩, Z⟩, ⟨_, Z, cr, Z⟩, ⟨_, Z, cr, Z⟩, ⟨_, Z, cr, Z⟩, ⟨_, Z, Z⟩, ⟨_, Z, Z⟩, trivial⟩ ⟨tm Z, tm Z, tm Z, tm Z, tm Z, (AEv.le (tm Z) vr), (AEv.le (tm Z) vr), trivial⟩⟩
  ·replace h := ite_f (dec_f hb117) h
   refine aw_exit ?_
   obtain rfl := some_of h
   have h := congrArg some (hx110 _ rfl)
   obtain rfl := some_of h
   exact ⟨n109, Weak.mkL [0, 1, 2, 3, 5] (by decide) ⟨⟨_, Z, cr, Z⟩, ⟨_, Z, cr, Z⟩, ⟨_, Z, cr, Z⟩, ⟨_, Z, cr, Z⟩, ⟨_, Z, Z⟩, trivial⟩ ⟨tm Z, tm Z, tm Z, tm Z, tm Z, trivial⟩⟩
 ·intro n92
  have h := h93
  refine aw_seq (xr (xa (.ptr p66 6) Z (fa Z underlying29 Z sizeOf27 Z Z Z) (xc Z (op_load1 (i := 3) Z isAgg27 (tm Z) Z Z (xa (.bool (!decide (r64.1.Dead = 0))) Z (pu_int (v := .bool (!decide (r64.1.Dead = 0))) Z Z (tm Z) (AEv.int _ _) Z) (xe (aw_cond (b := (!decide (r64.1.Dead = 0))) (tm Z) (fun hb120 => ?_) (fun hb120 => ?_))))))))
  ·replace h := ite_f (ndec_t hb120) h
   refine xr (xa (.ptr p61 13) Z (fa Z underlying56 Z sizeOf4 Z Z Z) (ac0 Z Z (op_store (i := 0) (cs' := (api.Conn.ct .no .no { c_ with In := r64.1, Asked := s91.2, Shut := true })) Z sizeOf4 (tm Z) (v := .bool true) (AEv.bool _) Z Z Z (nb Z) Z (xe (xr (xc Z (op_loadN (i := 0) Z isAgg56 sizeOf56 (tm Z) Z (nb Z) Z (xm Z Z Z (ac0 Z Z (op_store (i := 2) (cs' := (api.Conn.ct .no .no { c_ with In := r64.1, Asked := s91.2, Shut := true })) Z sizeOf56 (tm Z) (v := .agg (api.Conn.ct .no .no { c_ with In := r64.1, Asked := s91.2, Shut := true })) (tm Z) Z Z Z (nb Z) Z ?_))))))))))
   refine xm Z Z Z (xa (.str [69, 82, 82, 32, 80, 114, 111, 116, 111, 99, 111, 108, 32, 101, 114, 114, 111, 114]) Z (pu_assign Z (AEv.const Z)) (xe (aw_ret ?_)))
   obtain rfl := some_of h
   exact ⟨[.agg (api.Conn.ct .no .no { c_ with In := r64.1, Asked := s91.2, Shut := true }), .sl (.own n92) 2 (s91.1.map api.Request.av), .str [69, 82, 82, 32, 80, 114, 111, 116, 111, 99, 111, 108, 32, 101, 114, 114, 111, 114]], .tup [.agg (api.Conn.ct .no .no { c_ with In := r64.1, Asked := s91.2, Shut := true }), .sl (.own n92) 2 (s91.1.map api.Request.av), .str [69, 82, 82, 32, 80, 114, 111, 116, 111, 99, 111, 108, 32, 101, 114, 114, 111, 114]], [(n92, .spare)], ⟨(CellOk.agg 2 (tm Z) Z isAgg56 sizeOf56 (nb Z) Z), (tm Z), (tm Z), trivial⟩, (AV.Le.tup cr), Weak.mkL [4] (by decide) ⟨⟨_, Z, Z⟩, trivial⟩ trivial, ⟨n92, Z, Z⟩⟩
  ·replace h := ite_t (ndec_f hb120) h
   refine aw_skip (aw_seq (xr (xa (.ptr p61 9) Z (fa Z underlying56 Z sizeOf3 Z Z Z) (xc Z (op_load1 (i := 0) Z isAgg3 (tm Z) Z Z (xa (.ptr p66 3) Z (fa Z underlying29 Z sizeOf3 Z Z Z) (xc Z (op_load1 (i := 3) Z isAgg3 (tm Z) Z Z (xa (.i (IntKind.wrap .i64 (s91.2 + r64.1.Size))) Z (pu_int (v := .i (IntKind.wrap .i64 (s91.2 + r64.1.Size))) Z Z (tm Z) (tm Z) Z) (xa (.ptr p66 0) Z (fa Z underlying29 Z sizeOf9 Z Z Z) ?_))))))))))
   refine xc Z (op_load1 (i := 3) Z isAgg9 (tm Z) Z Z (xa (.i (r64.1.Rest.length : Int)) Z (pu_strLen Z underlying9 (tm Z)) (xa (.i (IntKind.wrap .i64 ((IntKind.wrap .i64 (s91.2 + r64.1.Size)) + (r64.1.Rest.length : Int)))) Z (pu_int (v := .i (IntKind.wrap .i64 ((IntKind.wrap .i64 (s91.2 + r64.1.Size)) + (r64.1.Rest.length : Int)))) Z Z (tm Z) (tm Z) Z) (xa (.ptr p62 5) Z (fa Z underlying53 Z sizeOf3 Z Z Z) (xc Z (op_load1 (i := 1) Z isAgg3 (tm Z) Z Z (xa (.bool (decide (t_.In < (IntKind.wrap .i64 ((IntKind.wrap .i64 (s91.2 + r64.1.Size)) + (r64.1.Rest.length : Int)))))) Z (pu_int (v := .bool (decide (t_.In < (IntKind.wrap .i64 ((IntKind.wrap .i64 (s91.2 + r64.1.Size)) + (r64.1.Rest.length : Int)))))) Z Z (tm Z) (tm Z) Z) (xe (aw_cond (b := decide (t_.In < (IntKind.wrap .i64 ((IntKind.wrap .i64 (s91.2 + r64.1.Size)) + (r64.1.Rest.length : Int))))) (tm Z) (fun hb119 => ?_) (fun hb119 => ?_))))))))))
   ·replace h := ite_t (dec_t hb119) h
    refine xr (xa (.ptr p61 13) Z (fa Z underlying56 Z sizeOf4 Z Z Z) (ac0 Z Z (op_store (i := 0) (cs' := (api.Conn.ct .no .no { c_ with In := r64.1, Asked := s91.2, Shut := true })) Z sizeOf4 (tm Z) (v := .bool true) (AEv.bool _) Z Z Z (nb Z) Z (xe (xr (xc Z (op_loadN (i := 0) Z isAgg56 sizeOf56 (tm Z) Z (nb Z) Z (xm Z Z Z (ac0 Z Z (op_store (i := 2) (cs' := (api.Conn.ct .no .no { c_ with In := r64.1, Asked := s91.2, Shut := true })) Z sizeOf56 (tm Z) (v := .agg (api.Conn.ct .no .no { c_ with In := r64.1, Asked := s91.2, Shut := true })) (tm Z) Z Z Z (nb Z) Z ?_))))))))))
    refine xm Z Z Z (xa (.str [69, 82, 82, 32, 105, 110, 112, 117, 116, 32, 98, 117, 102, 102, 101, 114, 32, 105, 115, 32, 102, 117, 108, 108]) Z (pu_assign Z (AEv.const Z)) (xe (aw_ret ?_)))
    obtain rfl := some_of h
    exact ⟨[.agg (api.Conn.ct .no .no { c_ with In := r64.1, Asked := s91.2, Shut := true }), .sl (.own n92) 2 (s91.1.map api.Request.av), .str [69, 82, 82, 32, 105, 110, 112, 117, 116, 32, 98, 117, 102, 102, 101, 114, 32, 105, 115, 32, 102, 117, 108, 108]], .tup [.agg (api.Conn.ct .no .no { c_ with In := r64.1, Asked := s91.2, Shut := true }), .sl (.own n92) 2 (s91.1.map api.Request.av), .str [69, 82, 82, 32, 105, 110, 112, 117, 116, 32, 98, 117, 102, 102, 101, 114, 32, 105, 115, 32, 102, 117, 108, 108]], [(n92, .spare)], ⟨(CellOk.agg 2 (tm Z) Z isAgg56 sizeOf56 (nb Z) Z), (tm Z), (tm Z), trivial⟩, (AV.Le.tup cr), Weak.mkL [4] (by decide) ⟨⟨_, Z, Z⟩, trivial⟩ trivial, ⟨n92, Z, Z⟩⟩
   ·replace h := ite_f (dec_f hb119) h
    refine aw_skip (xr (xc Z (op_loadN (i := 0) Z isAgg56 sizeOf56 (tm Z) Z (nb Z) Z (xm Z Z Z (ac0 Z Z (op_store (i := 2) (cs' := (api.Conn.ct .no .no { c_ with In := r64.1, Asked := s91.2 })) Z sizeOf56 (tm Z) (v := .agg (api.Conn.ct .no .no { c_ with In := r64.1, Asked := s91.2 })) (tm Z) Z Z Z (nb Z) Z (xm Z Z Z (xa (.str ([] : List UInt8)) Z (pu_assign Z (AEv.const Z)) (xe (aw_ret ?_))))))))))
    obtain rfl := some_of h
    exact ⟨[.agg (api.Conn.ct .no .no { c_ with In := r64.1, Asked := s91.2 }), .sl (.own n92) 2 (s91.1.map api.Request.av), .str ([] : List UInt8)], .tup [.agg (api.Conn.ct .no .no { c_ with In := r64.1, Asked := s91.2 }), .sl (.own n92) 2 (s91.1.map api.Request.av), .str ([] : List UInt8)], [(n92, .spare)], ⟨(CellOk.agg 2 (tm Z) Z isAgg56 sizeOf56 (nb Z) Z), (tm Z), (tm Z), trivial⟩, (AV.Le.tup cr), Weak.mkL [4] (by decide) ⟨⟨_, Z, Z⟩, trivial⟩ trivial, ⟨n92, Z, Z⟩⟩

theorem conn.Done.ok {c_ : api.Conn} {size : Int} {r : api.Conn} (h : conn.Done c_ size = some r) : Go.Lift.Spec prog 34 [.agg (api.Conn.ct .no .no c_), .i size] [] (fun v H => v = .agg [.i r.Born, .i r.Tenant, .str r.In.Rest, .sl .no 1 (r.In.Args.map AV.str), .i r.In.Left, .i r.In.Size, .bool r.In.Body, .i r.In.Need, .i r.In.Dead, .i r.Asked, .sl .no 2 (r.Held.map api.Held.av), .str r.Out, .i r.Taken, .bool r.Shut, .bool r.Closed] ∧ H = []) := by
 unfold conn.Done at h
 refine Go.Lift.Spec.of_body (rs := [.cell 4 56]) func34 Z Z (nb Z) Z (xr (xc Z (op_box (cs := (api.Conn.ct .no .no c_)) (v := .agg (api.Conn.ct .no .no c_)) Z (tm Z) Z Z ?_)))
 intro p3
 refine xc Z (op_alloc (cs := [.i 0, .i 0, .str ([] : List UInt8), .sl .full 1 (([] : List (List UInt8)).map AV.str), .i 0, .i 0, .bool false, .i 0, .i 0, .i 0, .sl .full 2 (([] : List api.Held).map api.Held.av), .str ([] : List UInt8), .i 0, .bool false, .bool false]) (v := .agg [.i 0, .i 0, .str ([] : List UInt8), .sl .full 1 (([] : List (List UInt8)).map AV.str), .i 0, .i 0, .bool false, .i 0, .i 0, .i 0, .sl .full 2 (([] : List api.Held).map api.Held.av), .str ([] : List UInt8), .i 0, .bool false, .bool false]) Z zeroValue56 Z Z Z ?_)
 intro p4
 refine xe (xr (xa (.ptr p3 9) Z (fa Z underlying56 Z sizeOf3 Z Z Z) (xc Z (op_load1 (i := 1) Z isAgg3 (tm Z) Z Z (xm Z Z Z (xa (.i (if size < 0 then 0 else size)) Z (pu_max2 Z (tm Z) (AEv.int _ _)) (xa (.i (IntKind.wrap .i64 (c_.Asked - (if size < 0 then 0 else size)))) Z (pu_int (v := .i (IntKind.wrap .i64 (c_.Asked - (if size < 0 then 0 else size)))) Z Z (tm Z) (tm Z) Z) (xa (.i (if (IntKind.wrap .i64 (c_.Asked - (if size < 0 then 0 else size))) < 0 then 0 else (IntKind.wrap .i64 (c_.Asked - (if size < 0 then 0 else size))))) Z (pu_max2 Z (tm Z) (AEv.int _ _)) (xa (.ptr p3 9) Z (fa Z underlying56 Z sizeOf3 Z Z Z) ?_)))))))))
 refine ac0 Z Z (op_store (i := 1) (cs' := (api.Conn.ct .no .no { c_ with Asked := if (IntKind.wrap .i64 (c_.Asked - (if size < 0 then 0 else size))) < 0 then 0 else (IntKind.wrap .i64 (c_.Asked - (if size < 0 then 0 else size))) })) Z sizeOf3 (tm Z) (v := .i (if (IntKind.wrap .i64 (c_.Asked - (if size < 0 then 0 else size))) < 0 then 0 else (IntKind.wrap .i64 (c_.Asked - (if size < 0 then 0 else size))))) (tm Z) Z Z Z (nb Z) Z (xe (xr (xc Z (op_loadN (i := 1) Z isAgg56 sizeOf56 (tm Z) Z (nb Z) Z (ac0 Z Z (op_store (i := 0) (cs' := (api.Conn.ct .no .no { c_ with Asked := if (IntKind.wrap .i64 (c_.Asked - (if size < 0 then 0 else size))) < 0 then 0 else (IntKind.wrap .i64 (c_.Asked - (if size < 0 then 0 else size))) })) Z sizeOf56 (tm Z) (v := .agg (api.Conn.ct .no .no { c_ with Asked := if (IntKind.wrap .i64 (c_.Asked - (if size < 0 then 0 else size))) < 0 then 0 else (IntKind.wrap .i64 (c_.Asked - (if size < 0 then 0 else size))) })) (tm Z) Z Z Z (nb Z) Z (xe (aw_ret ?_)))))))))
 obtain rfl := some_of h
 exact ⟨[.agg (api.Conn.ct .no .no { c_ with Asked := if (IntKind.wrap .i64 (c_.Asked - (if size < 0 then 0 else size))) < 0 then 0 else (IntKind.wrap .i64 (c_.Asked - (if size < 0 then 0 else size))) })], _, [], ⟨(CellOk.agg 0 (tm Z) Z isAgg56 sizeOf56 (nb Z) Z), trivial⟩, vr, Weak.mkL [] (by decide) trivial trivial, ⟨Z, Z⟩⟩

theorem mewsref43.Free.ok {c_ : api.Conn} {durable : Int} {r : api.Conn} (h : mewsref43.Free c_ durable = some r) : Go.Lift.Spec prog 36 [.agg (api.Conn.ct .no .no c_), .i durable] [] (fun v H => v = .agg [.i r.Born, .i r.Tenant, .str r.In.Rest, .sl .no 1 (r.In.Args.map AV.str), .i r.In.Left, .i r.In.Size, .bool r.In.Body, .i r.In.Need, .i r.In.Dead, .i r.Asked, .sl .no 2 (r.Held.map api.Held.av), .str r.Out, .i r.Taken, .bool r.Shut, .bool r.Closed] ∧ H = []) := by
 unfold mewsref43.Free at h
 refine Go.Lift.Spec.of_body (rs := [.cell 4 56]) func36 Z Z (nb Z) Z (xr (xc Z (op_box (cs := (api.Conn.ct .no .no c_)) (v := .agg (api.Conn.ct .no .no c_)) Z (tm Z) Z Z ?_)))
 intro p115
 refine xc Z (op_alloc (cs := [.i 0, .i 0, .str ([] : List UInt8), .sl .full 1 (([] : List (List UInt8)).map AV.str), .i 0, .i 0, .bool false, .i 0, .i 0, .i 0, .sl .full 2 (([] : List api.Held).map api.Held.av), .str ([] : List UInt8), .i 0, .bool false, .bool false]) (v := .agg [.i 0, .i 0, .str ([] : List UInt8), .sl .full 1 (([] : List (List UInt8)).map AV.str), .i 0, .i 0, .bool false, .i 0, .i 0, .i 0, .sl .full 2 (([] : List api.Held).map api.Held.av), .str ([] : List UInt8), .i 0, .bool false, .bool false]) Z zeroValue56 Z Z Z ?_)
 intro p116
 refine xe ?_
 obtain ⟨s162, s162e, h163⟩ := bind_some h
 refine aw_meet (ν := Unit) (fun v => [(2, .ptr p115 0), (4, .ptr p116 0)]) (fun v => [(p115, .cells (api.Conn.ct .no .no { c_ with Held := s162.1, Out := s162.2 })), (p116, .cells [.i 0, .i 0, .str ([] : List UInt8), .sl .full 1 (([] : List (List UInt8)).map AV.str), .i 0, .i 0, .bool false, .i 0, .i 0, .i 0, .sl .full 2 (([] : List api.Held).map api.Held.av), .str ([] : List UInt8), .i 0, .bool false, .bool false])]) ?_ ?_
 ·have h := s162e
  refine aw_block (aw_while (σ := mewsref43.Free.S0) (ν := Unit) (mewsref43.Free.body0 durable) (fun s193 v => [(1, .i durable), (2, .ptr p115 0), (4, .ptr p116 0)]) (fun s193 v => [(p115, .cells (api.Conn.ct .no .no { c_ with Held := s193.c, Out := s193.c2 })), (p116, .cells [.i 0, .i 0, .str ([] : List UInt8), .sl .full 1 (([] : List (List UInt8)).map AV.str), .i 0, .i 0, .bool false, .i 0, .i 0, .i 0, .sl .full 2 (([] : List api.Held).map api.Held.av), .str ([] : List UInt8), .i 0, .bool false, .bool false])]) ⟨c_.Held, c_.Out⟩ () _ h (Weak.mkL [1, 0] (by decide) ⟨⟨_, Z, cr, Z⟩, ⟨_, Z, cr, Z⟩, trivial⟩ ⟨tm Z, tm Z, tm Z, trivial⟩) ?_)
  rintro s193 _ x195 h hx194
  unfold mewsref43.Free.body0 at h
  refine aw_seq ?_
  obtain ⟨s199, s199e, h200⟩ := bind_some h
  refine aw_meet (ν := Unit) (fun v => [(1, .i durable), (2, .ptr p115 0), (4, .ptr p116 0), (17, .bool s199)]) (fun v => [(p115, .cells (api.Conn.ct .no .no { c_ with Held := s193.c, Out := s193.c2 })), (p116, .cells [.i 0, .i 0, .str ([] : List UInt8), .sl .full 1 (([] : List (List UInt8)).map AV.str), .i 0, .i 0, .bool false, .i 0, .i 0, .i 0, .sl .full 2 (([] : List api.Held).map api.Held.av), .str ([] : List UInt8), .i 0, .bool false, .bool false])]) ?_ ?_
  ·have h := s199e
   refine aw_region (xa (.ptr p115 10) Z (fa Z underlying56 Z sizeOf54 Z Z Z) (xc Z (op_load1 (i := 0) Z isAgg54 (tm Z) Z Z (xa (.i (s193.c.length : Int)) Z (pu_lenM Z underlying54 (tm Z)) (xa (.bool (decide (0 < (s193.c.length : Int)))) Z (pu_int (v := .bool (decide (0 < (s193.c.length : Int)))) Z Z (tm Z) (AEv.int _ _) Z) (xm Z Z Z ?_))))))
   rcases Bool.eq_false_or_eq_true (decide (0 < (s193.c.length : Int))) with hb202 | hb202
   ·replace h := ite_t (dec_t hb202) h
    refine aops_known 9 Z hb202 (xp (.ptr p115 10) Z Z (fa Z underlying56 Z sizeOf54 Z Z Z) (xg Z Z (op_load1 (i := 0) Z isAgg54 (tm Z) Z Z ?_)))
    obtain ⟨c203, h⟩ := need_of h
    refine xp (.vptr [.i (ix s193.c 0).Need, .str (ix s193.c 0).S]) Z Z (pu_indexAddrM Z underlying54 sizeOf61 (tm Z) (AEv.int _ _) c203 Z) (xp (.vptr [.i (ix s193.c 0).Need, .str (ix s193.c 0).S]) Z Z (fa Z underlying61 Z sizeOf3 Z Z Z) (xg Z Z (op_loadV1 Z isAgg3 (tm Z) Z (xq Z Z Z Z (xp (.bool (decide ((ix s193.c 0).Need ≤ durable))) Z Z (pu_int (v := .bool (decide ((ix s193.c 0).Need ≤ durable))) Z Z (tm Z) (tm Z) Z) (xa (.bool (decide ((ix s193.c 0).Need ≤ durable))) Z (pu_pick (b := true) Z (tm Z) (fun _ => (tm Z)) (fun h => nomatch h)) (xe ?_)))))))
    obtain rfl := some_of h
    exact ⟨(), Weak.mkL [0, 1] (by decide) ⟨⟨_, Z, cr, Z⟩, ⟨_, Z, cr, Z⟩, trivial⟩ ⟨tm Z, tm Z, tm Z, (AEv.le (tm Z) vr), trivial⟩⟩
   ·replace h := ite_f (dec_f hb202) h
    refine aops_known 9 Z hb202 (xn Z Z Z (xn Z Z Z (xn Z Z Z (xn Z Z Z (xn Z Z Z (xn Z Z Z (xn Z Z Z (xa (.bool false) Z (pu_pick (b := false) Z (tm Z) (fun h => nomatch h) (fun _ => (AEv.bool _))) (xe ?_)))))))))
    obtain rfl := some_of h
    exact ⟨(), Weak.mkL [0, 1] (by decide) ⟨⟨_, Z, cr, Z⟩, ⟨_, Z, cr, Z⟩, trivial⟩ ⟨tm Z, tm Z, tm Z, tm Z, trivial⟩⟩
  ·intro _
   have h := h200
   refine aw_cond (b := s199) (tm Z) (fun hb209 => ?_) (fun hb209 => ?_)
   ·replace h := ite_t hb209 h
    refine aw_skip (aw_block (aw_seq ?_))
    obtain ⟨c204, h⟩ := need_of h
    obtain ⟨c205, h⟩ := need_of h
    refine aw_planR (by decide +kernel) [[], [(0, 0, false)], [], [(0, 0, false)], [], [], [], [], [], [(0, 0, true)]] [[9], []] [[[(p115, .cells (api.Conn.ct .no .no { c_ with Held := s193.c, Out := s193.c2 }))], [(p115, .cells (api.Conn.ct .no .no { c_ with Held := s193.c, Out := s193.c2 ++ (ix s193.c 0).S }))]], [[(p116, .cells [.i 0, .i 0, .str ([] : List UInt8), .sl .full 1 (([] : List (List UInt8)).map AV.str), .i 0, .i 0, .bool false, .i 0, .i 0, .i 0, .sl .full 2 (([] : List api.Held).map api.Held.av), .str ([] : List UInt8), .i 0, .bool false, .bool false])]]] [.ptr p115 11, .str s193.c2, .ptr p115 10, .sl .no 2 (s193.c.map api.Held.av), .vptr [.i (ix s193.c 0).Need, .str (ix s193.c 0).S], .vptr [.str (ix s193.c 0).S], .str (ix s193.c 0).S, .str (s193.c2 ++ (ix s193.c 0).S), .ptr p115 11, .un] (by decide +kernel) Z Z ?_ ?_
    ·exact ⟨yp Z (fa Z underlying56 Z sizeOf9 Z Z Z), stepg_plain Z (op_load1 (i := 0) Z isAgg9 (tm Z) Z Z ⟨Z, Z⟩), yp Z (fa Z underlying56 Z sizeOf54 Z Z Z), stepg_plain Z (op_load1 (i := 0) Z isAgg54 (tm Z) Z Z ⟨Z, Z⟩), yp Z (pu_indexAddrM Z underlying54 sizeOf61 (tm Z) (AEv.int _ _) c204 Z), yp Z (fa Z underlying61 Z sizeOf9 Z Z Z), stepg_plain Z (op_loadV1 Z isAgg9 (tm Z) Z ⟨Z, Z⟩), yp Z (pu_strAdd Z (tm Z) (tm Z) c205), yp Z (fa Z underlying56 Z sizeOf9 Z Z Z), stepg_plain Z (op_store (i := 0) (cs' := (api.Conn.ct .no .no { c_ with Held := s193.c, Out := s193.c2 ++ (ix s193.c 0).S })) Z sizeOf9 (tm Z) (v := .str (s193.c2 ++ (ix s193.c 0).S)) (tm Z) Z Z Z (nb Z) Z ⟨Z, Z⟩), trivial⟩
    refine aw_region (xa (.ptr p115 10) Z (fa Z underlying56 Z sizeOf54 Z Z Z) (xc Z (op_load1 (i := 0) Z isAgg54 (tm Z) Z Z ?_)))
    obtain ⟨c206, h⟩ := need_of h
    refine xa (.sl .no 2 ((sub s193.c 1 (s193.c.length : Int)).map api.Held.av)) Z (pu_sliceM Z underlying54 sizeOf61 (tm Z) ⟨_, (AEv.int _ _)⟩ Z c206) ?_
    obtain ⟨c207, h⟩ := need_of h
    refine xc Z (op_appendFM Z underlying54 underlying54 (.inl Z) typeInfo61 Z Z Z (by decide) (AEv.nil 2 (by decide)) (given_sl (tm Z)) c207 ?_)
    intro t208
    refine xa (.ptr p115 10) Z (fa Z underlying56 Z sizeOf54 Z Z Z) (ac0 Z Z (op_store (i := 1) (cs' := (api.Conn.ct .no (.own t208) { c_ with Held := ([] : List api.Held) ++ (sub s193.c 1 (s193.c.length : Int)), Out := s193.c2 ++ (ix s193.c 0).S })) Z sizeOf54 (tm Z) (v := .sl (.own t208) 2 ((([] : List api.Held) ++ (sub s193.c 1 (s193.c.length : Int))).map api.Held.av)) (tm Z) Z Z Z (nb Z) Z (xe ?_)))
    obtain rfl := some_of h
    exact ⟨_, (), Z, Weak.mkL [1, 2] (by decide) ⟨⟨_, Z, ⟨vr, vr, vr, vr, vr, vr, vr, vr, vr, vr, (AV.Le.forget _ _ _), vr, vr, vr, vr, trivial⟩, Z⟩, ⟨_, Z, cr, Z⟩, trivial⟩ ⟨tm Z, tm Z, tm Z, trivial⟩⟩
   ·replace h := ite_fb hb209 h
    refine aw_exit ?_
    obtain rfl := some_of h
    have h := congrArg some (hx194 _ rfl)
    obtain rfl := some_of h
    exact ⟨(), Weak.mkL [0, 1] (by decide) ⟨⟨_, Z, cr, Z⟩, ⟨_, Z, cr, Z⟩, trivial⟩ ⟨tm Z, tm Z, trivial⟩⟩
 ·intro _
  have h := h163
  obtain ⟨s218, s218e, h219⟩ := letO_of h
  refine aw_meet (ν := Unit) (fun v => [(2, .ptr p115 0), (4, .ptr p116 0)]) (fun v => [(p115, .cells (api.Conn.ct .no .no { c_ with Held := s162.1, Out := s162.2, Closed := s218 })), (p116, .cells [.i 0, .i 0, .str ([] : List UInt8), .sl .full 1 (([] : List (List UInt8)).map AV.str), .i 0, .i 0, .bool false, .i 0, .i 0, .i 0, .sl .full 2 (([] : List api.Held).map api.Held.av), .str ([] : List UInt8), .i 0, .bool false, .bool false])]) ?_ ?_
  ·have h := s218e.symm
   obtain ⟨s223, s223e, h224⟩ := letO_of h
   refine aw_meet (ν := Unit) (fun v => [(2, .ptr p115 0), (4, .ptr p116 0), (44, .bool s223)]) (fun v => [(p115, .cells (api.Conn.ct .no .no { c_ with Held := s162.1, Out := s162.2 })), (p116, .cells [.i 0, .i 0, .str ([] : List UInt8), .sl .full 1 (([] : List (List UInt8)).map AV.str), .i 0, .i 0, .bool false, .i 0, .i 0, .i 0, .sl .full 2 (([] : List api.Held).map api.Held.av), .str ([] : List UInt8), .i 0, .bool false, .bool false])]) ?_ ?_
   ·have h := s223e.symm
    refine aw_region (xa (.ptr p115 13) Z (fa Z underlying56 Z sizeOf4 Z Z Z) (xc Z (op_load1 (i := 0) Z isAgg4 (tm Z) Z Z (xm Z Z Z ?_))))
    rcases Bool.eq_false_or_eq_true c_.Shut with hb226 | hb226
    ·replace h := ite_t hb226 h
     refine aops_known 34 Z hb226 (xp (.ptr p115 9) Z Z (fa Z underlying56 Z sizeOf3 Z Z Z) (xg Z Z (op_load1 (i := 0) Z isAgg3 (tm Z) Z Z (xp (.bool (decide (c_.Asked = 0))) Z Z (pu_int (v := .bool (decide (c_.Asked = 0))) Z Z (tm Z) (AEv.int _ _) Z) (xa (.bool (decide (c_.Asked = 0))) Z (pu_pick (b := true) Z (tm Z) (fun _ => (tm Z)) (fun h => nomatch h)) (xm Z Z Z ?_))))))
     rcases Bool.eq_false_or_eq_true (decide (c_.Asked = 0)) with hb227 | hb227
     ·replace h := ite_t (dec_t hb227) h
      refine aops_known 39 Z hb227 (xp (.ptr p115 10) Z Z (fa Z underlying56 Z sizeOf54 Z Z Z) (xg Z Z (op_load1 (i := 0) Z isAgg54 (tm Z) Z Z (xp (.i (s162.1.length : Int)) Z Z (pu_lenM Z underlying54 (tm Z)) (xp (.bool (decide ((s162.1.length : Int) = 0))) Z Z (pu_int (v := .bool (decide ((s162.1.length : Int) = 0))) Z Z (tm Z) (AEv.int _ _) Z) (xa (.bool (decide ((s162.1.length : Int) = 0))) Z (pu_pick (b := true) Z (tm Z) (fun _ => (tm Z)) (fun h => nomatch h)) (xe ?_)))))))
      subst h
      exact ⟨(), Weak.mkL [0, 1] (by decide) ⟨⟨_, Z, cr, Z⟩, ⟨_, Z, cr, Z⟩, trivial⟩ ⟨tm Z, tm Z, (AEv.le (tm Z) vr), trivial⟩⟩
     ·replace h := ite_f (dec_f hb227) h
      refine aops_known 39 Z hb227 (xn Z Z Z (xn Z Z Z (xn Z Z Z (xn Z Z Z (xa (.bool false) Z (pu_pick (b := false) Z (tm Z) (fun h => nomatch h) (fun _ => (AEv.bool _))) (xe ?_))))))
      subst h
      exact ⟨(), Weak.mkL [0, 1] (by decide) ⟨⟨_, Z, cr, Z⟩, ⟨_, Z, cr, Z⟩, trivial⟩ ⟨tm Z, tm Z, tm Z, trivial⟩⟩
    ·replace h := ite_fb hb226 h
     refine aops_known 34 Z hb226 (xn Z Z Z (xn Z Z Z (xn Z Z Z (xa (.bool false) Z (pu_pick (b := false) Z (tm Z) (fun h => nomatch h) (fun _ => (AEv.bool _))) (xm Z Z Z (xn Z Z Z (xn Z Z Z (xn Z Z Z (xn Z Z Z ?_)))))))))
     refine xa (.bool false) Z (pu_pick (b := false) Z (tm Z) (fun h => nomatch h) (fun _ => (AEv.bool _))) (xe ?_)
     subst h
     exact ⟨(), Weak.mkL [0, 1] (by decide) ⟨⟨_, Z, cr, Z⟩, ⟨_, Z, cr, Z⟩, trivial⟩ ⟨tm Z, tm Z, tm Z, trivial⟩⟩
   ·intro _
    have h := h224
    refine aw_cond (b := s223) (tm Z) (fun hb228 => ?_) (fun hb228 => ?_)
    ·replace h := ite_t hb228 h
     refine aw_region (xa (.ptr p115 14) Z (fa Z underlying56 Z sizeOf4 Z Z Z) (ac0 Z Z (op_store (i := 0) (cs' := (api.Conn.ct .no .no { c_ with Held := s162.1, Out := s162.2, Closed := true })) Z sizeOf4 (tm Z) (v := .bool true) (AEv.bool _) Z Z Z (nb Z) Z (xe ?_))))
     subst h
     exact ⟨(), Weak.mkL [0, 1] (by decide) ⟨⟨_, Z, cr, Z⟩, ⟨_, Z, cr, Z⟩, trivial⟩ ⟨tm Z, tm Z, trivial⟩⟩
    ·replace h := ite_fb hb228 h
     refine aw_skip ?_
     subst h
     exact ⟨(), Weak.mkL [0, 1] (by decide) ⟨⟨_, Z, cr, Z⟩, ⟨_, Z, cr, Z⟩, trivial⟩ ⟨tm Z, tm Z, trivial⟩⟩
  ·intro _
   have h := h219
   refine xr (xc Z (op_loadN (i := 0) Z isAgg56 sizeOf56 (tm Z) Z (nb Z) Z (ac0 Z Z (op_store (i := 1) (cs' := (api.Conn.ct .no .no { c_ with Held := s162.1, Out := s162.2, Closed := s218 })) Z sizeOf56 (tm Z) (v := .agg (api.Conn.ct .no .no { c_ with Held := s162.1, Out := s162.2, Closed := s218 })) (tm Z) Z Z Z (nb Z) Z (xe (aw_ret ?_))))))
   obtain rfl := some_of h
   exact ⟨[.agg (api.Conn.ct .no .no { c_ with Held := s162.1, Out := s162.2, Closed := s218 })], _, [], ⟨(CellOk.agg 1 (tm Z) Z isAgg56 sizeOf56 (nb Z) Z), trivial⟩, vr, Weak.mkL [] (by decide) trivial trivial, ⟨Z, Z⟩⟩

end Go.Pu
