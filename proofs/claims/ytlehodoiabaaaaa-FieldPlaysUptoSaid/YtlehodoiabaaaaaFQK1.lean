/- Printed by lift.py: the functions come to them. -/
import Derived.Test.YtlehodoiabaaaaaLiftW
import Derived.Test.YtlehodoiabaaaaaFQK0
set_option maxRecDepth 100000
set_option maxHeartbeats 0
namespace Go.Pu
open Go.Lift Go.Proofs.Try Go.RowKit Go.Proofs

theorem mewsref10.Same.ok {a : List api.Scored} {b : List api.Scored} {r : Bool} (h : mewsref10.Same a b = some r) : Go.Lift.Spec prog 50 [.sl .no 2 (a.map api.Scored.av), .sl .no 2 (b.map api.Scored.av)] [] (fun v H => v = .bool r ∧ H = []) := by
 unfold mewsref10.Same at h
 refine Go.Lift.Spec.of_body (rs := [.tmp 4]) func50 Z Z (nb Z) Z (xr (xa (.bool false) Z (pu_assign Z (AEv.bool _)) (xe (aw_seq (xr (xm Z Z Z (xa (.i (a.length : Int)) Z (pu_lenM Z underlying26 (tm Z)) ?_)))))))
 refine xm Z Z Z (xa (.i (b.length : Int)) Z (pu_lenM Z underlying26 (tm Z)) (xa (.bool (!decide ((a.length : Int) = (b.length : Int)))) Z (pu_int (v := .bool (!decide ((a.length : Int) = (b.length : Int)))) Z Z (tm Z) (tm Z) Z) (xe (aw_cond (b := (!decide ((a.length : Int) = (b.length : Int)))) (tm Z) (fun hb82 => ?_) (fun hb82 => ?_)))))
 ·replace h := ite_f (ndec_t hb82) h
  refine xr (xa (.bool false) Z (pu_assign Z (AEv.bool _)) (xe (aw_ret ?_)))
  obtain rfl := some_of h
  exact ⟨[.bool false], _, [], ⟨(tm Z), trivial⟩, vr, Weak.mkL [] (by decide) trivial trivial, ⟨Z, Z⟩⟩
 ·replace h := ite_t (ndec_f hb82) h
  refine aw_skip ?_
  obtain ⟨s81, s81e, h61⟩ := bind_some h
  refine aw_join (σ := Unit) (ν := Unit) (fun u v => []) (fun u v => []) (fun u => s81 = .inl u) ?_ ?_
  ·intro s60
   intro _
   rintro rfl
   have h := onSum_inl h61
   refine xr (xa (.bool true) Z (pu_assign Z (AEv.bool _)) (xe (aw_ret ?_)))
   obtain rfl := some_of h
   exact ⟨[.bool true], _, [], ⟨(tm Z), trivial⟩, vr, Weak.mkL [] (by decide) trivial trivial, ⟨Z, Z⟩⟩
  ·have h := s81e
   refine xr (xa (.i 0) Z (pu_assign Z (AEv.int _ _)) (xe (aw_block (aw_while (σ := mewsref10.Same.S0) (ν := Unit) (mewsref10.Same.body0 a b) (fun s73 v => [(0, .sl .no 2 (a.map api.Scored.av)), (1, .sl .no 2 (b.map api.Scored.av)), (5, .i s73.i)]) (fun s73 v => []) ⟨0⟩ () _ h (Weak.mkL [] (by decide) trivial ⟨tm Z, tm Z, tm Z, trivial⟩) ?_))))
   rintro s73 _ x75 h hx74
   unfold mewsref10.Same.body0 at h
   refine aw_seq (xr (xm Z Z Z (xm Z Z Z (xa (.i (a.length : Int)) Z (pu_lenM Z underlying26 (tm Z)) (xa (.bool (decide (s73.i < (a.length : Int)))) Z (pu_int (v := .bool (decide (s73.i < (a.length : Int)))) Z Z (tm Z) (tm Z) Z) (xe (aw_cond (b := decide (s73.i < (a.length : Int))) (tm Z) (fun hb80 => ?_) (fun hb80 => ?_))))))))
   ·replace h := ite_t (dec_t hb80) h
    refine aw_skip (aw_seq (aw_block (aw_seq ?_)))
    obtain ⟨c77, h⟩ := need_of h
    obtain ⟨c78, h⟩ := need_of h
    refine aw_planR (by decide +kernel) [[], [], [], [], [], [], [], [], []] [] [] [.sl .no 2 (a.map api.Scored.av), .i s73.i, .vptr [.str (ix a s73.i).Member, .i (ix a s73.i).Score], .agg [.str (ix a s73.i).Member, .i (ix a s73.i).Score], .sl .no 2 (b.map api.Scored.av), .i s73.i, .vptr [.str (ix b s73.i).Member, .i (ix b s73.i).Score], .agg [.str (ix b s73.i).Member, .i (ix b s73.i).Score], .bool (!decide ((ix a s73.i) = (ix b s73.i)))] (by decide +kernel) Z Z ?_ ?_
    ·exact ⟨ym Z Z Z, ym Z Z Z, yp Z (pu_indexAddrM Z underlying26 sizeOf80 (tm Z) (tm Z) c77 Z), stepg_plain Z (op_loadVN Z isAgg80 sizeOf80 (tm Z) (nb Z) Z ⟨Z, Z⟩), ym Z Z Z, ym Z Z Z, yp Z (pu_indexAddrM Z underlying26 sizeOf80 (tm Z) (tm Z) c78 Z), stepg_plain Z (op_loadVN Z isAgg80 sizeOf80 (tm Z) (nb Z) Z ⟨Z, Z⟩), yp Z (APure.eq (pu_structNe (b := (decide ((ix a s73.i).Member = (ix b s73.i).Member) && (decide ((ix a s73.i).Score = (ix b s73.i).Score) && true))) Z underlying80 (by kernel_rfl) (by kernel_rfl) (tm Z) (tm Z) ⟨_, _, _, _, ⟨by decide, isAgg9, Z, Z, CEq.str underlying9⟩, ⟨_, _, _, _, ⟨by decide, isAgg2, Z, Z, CEq.int underlying2⟩, Z, Z⟩, Z⟩) (congrArg (fun b => AV.bool (!b)) (api.Scored.eq_iff (ix a s73.i) (ix b s73.i)).symm)), trivial⟩
    refine aw_cond (b := (!decide ((ix a s73.i) = (ix b s73.i)))) (tm Z) (fun hb79 => ?_) (fun hb79 => ?_)
    ·replace h := ite_f (ndec_t hb79) h
     refine xr (xa (.bool false) Z (pu_assign Z (AEv.bool _)) (xe (aw_ret ?_)))
     obtain rfl := some_of h
     have h := congrArg some (hx74 _ rfl)
     obtain rfl := some_of h
     have h := onSum_inr h61
     obtain rfl := some_of h
     exact ⟨[.bool false], _, [], ⟨(tm Z), trivial⟩, vr, Weak.mkL [] (by decide) trivial trivial, ⟨Z, Z⟩⟩
    ·replace h := ite_t (ndec_f hb79) h
     refine aw_skip (aw_region (xm Z Z Z (xa (.i (IntKind.wrap .i64 (s73.i + 1))) Z (pu_int (v := .i (IntKind.wrap .i64 (s73.i + 1))) Z Z (tm Z) (AEv.int _ _) Z) (xm Z Z Z (xe ?_)))))
     obtain rfl := some_of h
     exact ⟨_, (), Z, Weak.mkL [] (by decide) trivial ⟨tm Z, tm Z, (AEv.le (tm Z) vr), trivial⟩⟩
   ·replace h := ite_f (dec_f hb80) h
    refine aw_exit ?_
    obtain rfl := some_of h
    have h := congrArg some (hx74 _ rfl)
    exact ⟨(), (), (some_of h).symm, Weak.mkL [] (by decide) trivial trivial⟩

theorem mewsref19.Same.ok {a : api.Value} {b : api.Value} {r : Bool} (h : mewsref19.Same a b = some r) : Go.Lift.Spec prog 33 [.agg (api.Value.ct .no .no .no a), .agg (api.Value.ct .no .no .no b)] [] (fun v H => v = .bool r ∧ H = []) := by
 unfold mewsref19.Same at h
 refine Go.Lift.Spec.of_body (rs := [.tmp 4]) func33 Z Z (nb Z) Z (xr (xc Z (op_box (cs := (api.Value.ct .no .no .no a)) (v := .agg (api.Value.ct .no .no .no a)) Z (tm Z) Z Z ?_)))
 intro p20
 refine xc Z (op_box (cs := (api.Value.ct .no .no .no b)) (v := .agg (api.Value.ct .no .no .no b)) Z (tm Z) Z Z ?_)
 intro p21
 refine xa (.bool false) Z (pu_assign Z (AEv.bool _)) (xe ?_)
 obtain ⟨s29, s29e, h30⟩ := bind_some h
 refine aw_meet (ν := Unit) (fun v => [(4, .bool s29)]) (fun v => []) ?_ ?_
 ·have h := s29e
  refine aw_region (xa (.ptr p20 0) Z (fa Z underlying28 Z sizeOf3 Z Z Z) (xc Z (op_load1 (i := 1) Z isAgg3 (tm Z) Z Z (xa (.ptr p21 0) Z (fa Z underlying28 Z sizeOf3 Z Z Z) (xc Z (op_load1 (i := 0) Z isAgg3 (tm Z) Z Z (xa (.bool (decide (a.Kind = b.Kind))) Z (pu_int (v := .bool (decide (a.Kind = b.Kind))) Z Z (tm Z) (tm Z) Z) (xm Z Z Z ?_))))))))
  rcases Bool.eq_false_or_eq_true (decide (a.Kind = b.Kind)) with hb32 | hb32
  ·replace h := ite_t (dec_t hb32) h
   refine aops_known 10 Z hb32 (xp (.ptr p20 1) Z Z (fa Z underlying28 Z sizeOf9 Z Z Z) (xg Z Z (op_load1 (i := 1) Z isAgg9 (tm Z) Z Z (xp (.ptr p21 1) Z Z (fa Z underlying28 Z sizeOf9 Z Z Z) (xg Z Z (op_load1 (i := 0) Z isAgg9 (tm Z) Z Z (xp (.bool (decide (a.Text = b.Text))) Z Z (pu_str (v := .bool (decide (a.Text = b.Text))) Z Z (tm Z) (tm Z) Z) (xa (.bool (decide (a.Text = b.Text))) Z (pu_pick (b := true) Z (tm Z) (fun _ => (tm Z)) (fun h => nomatch h)) (xm Z Z Z ?_)))))))))
   rcases Bool.eq_false_or_eq_true (decide (a.Text = b.Text)) with hb33 | hb33
   ·replace h := ite_t (dec_t hb33) h
    refine aops_known 17 Z hb33 (xp (.ptr p20 2) Z Z (fa Z underlying28 Z sizeOf25 Z Z Z) (xg Z Z (op_load1 (i := 1) Z isAgg25 (tm Z) Z Z (xp (.ptr p21 2) Z Z (fa Z underlying28 Z sizeOf25 Z Z Z) (xg Z Z (op_load1 (i := 0) Z isAgg25 (tm Z) Z Z ?_))))))
    obtain ⟨r34, r34e, h⟩ := bind_some h
    refine xg Z Z (op_call (vs := [.sl .no 1 (a.List_.map AV.str), .sl .no 1 (b.List_.map AV.str)]) (H := []) Z call48 ⟨(tm Z), (tm Z), trivial⟩ (List.Perm.refl _) (mewsref19.texts.ok r34e) ?_)
    rintro _ _ ⟨rfl, rfl⟩
    refine xa (.bool r34) Z (pu_pick (b := true) Z (tm Z) (fun _ => (tm Z)) (fun h => nomatch h)) (xm Z Z Z ?_)
    rcases Bool.eq_false_or_eq_true r34 with hb35 | hb35
    ·replace h := ite_t hb35 h
     refine aops_known 24 Z hb35 (xp (.ptr p20 3) Z Z (fa Z underlying28 Z sizeOf23 Z Z Z) (xg Z Z (op_load1 (i := 1) Z isAgg23 (tm Z) Z Z (xp (.ptr p21 3) Z Z (fa Z underlying28 Z sizeOf23 Z Z Z) (xg Z Z (op_load1 (i := 0) Z isAgg23 (tm Z) Z Z ?_))))))
     obtain ⟨r36, r36e, h⟩ := bind_some h
     refine xg Z Z (op_call (vs := [.sl .no 2 (a.Hash.map api.Field.av), .sl .no 2 (b.Hash.map api.Field.av)]) (H := []) Z call49 ⟨(tm Z), (tm Z), trivial⟩ (List.Perm.refl _) (mewsref19.fields.ok r36e) ?_)
     rintro _ _ ⟨rfl, rfl⟩
     refine xa (.bool r36) Z (pu_pick (b := true) Z (tm Z) (fun _ => (tm Z)) (fun h => nomatch h)) (xm Z Z Z ?_)
     rcases Bool.eq_false_or_eq_true r36 with hb37 | hb37
     ·replace h := ite_t hb37 h
      refine aops_known 31 Z hb37 (xp (.ptr p20 4) Z Z (fa Z underlying28 Z sizeOf26 Z Z Z) (xg Z Z (op_load1 (i := 1) Z isAgg26 (tm Z) Z Z (xp (.ptr p21 4) Z Z (fa Z underlying28 Z sizeOf26 Z Z Z) (xg Z Z (op_load1 (i := 0) Z isAgg26 (tm Z) Z Z ?_))))))
      obtain ⟨r38, r38e, h⟩ := bind_some h
      refine xg Z Z (op_call (vs := [.sl .no 2 (a.ZSet.map api.Scored.av), .sl .no 2 (b.ZSet.map api.Scored.av)]) (H := []) Z call50 ⟨(tm Z), (tm Z), trivial⟩ (List.Perm.refl _) (mewsref10.Same.ok r38e) ?_)
      rintro _ _ ⟨rfl, rfl⟩
      refine xa (.bool r38) Z (pu_pick (b := true) Z (tm Z) (fun _ => (tm Z)) (fun h => nomatch h)) (xm Z Z Z (xe ?_))
      obtain rfl := some_of h
      exact ⟨(), Weak.mkL [] (by decide) trivial ⟨tm Z, trivial⟩⟩
     ·replace h := ite_fb hb37 h
      refine aops_known 31 Z hb37 (xn Z Z Z (xn Z Z Z (xn Z Z Z (xn Z Z Z (xn Z Z Z (xa (.bool false) Z (pu_pick (b := false) Z (tm Z) (fun h => nomatch h) (fun _ => (AEv.bool _))) (xm Z Z Z (xe ?_))))))))
      obtain rfl := some_of h
      exact ⟨(), Weak.mkL [] (by decide) trivial ⟨tm Z, trivial⟩⟩
    ·replace h := ite_fb hb35 h
     refine aops_known 24 Z hb35 (xn Z Z Z (xn Z Z Z (xn Z Z Z (xn Z Z Z (xn Z Z Z (xa (.bool false) Z (pu_pick (b := false) Z (tm Z) (fun h => nomatch h) (fun _ => (AEv.bool _))) (xm Z Z Z (xn Z Z Z (xn Z Z Z ?_)))))))))
     refine xn Z Z Z (xn Z Z Z (xn Z Z Z (xa (.bool false) Z (pu_pick (b := false) Z (tm Z) (fun h => nomatch h) (fun _ => (AEv.bool _))) (xm Z Z Z (xe ?_)))))
     obtain rfl := some_of h
     exact ⟨(), Weak.mkL [] (by decide) trivial ⟨tm Z, trivial⟩⟩
   ·replace h := ite_f (dec_f hb33) h
    refine aops_known 17 Z hb33 (xn Z Z Z (xn Z Z Z (xn Z Z Z (xn Z Z Z (xn Z Z Z (xa (.bool false) Z (pu_pick (b := false) Z (tm Z) (fun h => nomatch h) (fun _ => (AEv.bool _))) (xm Z Z Z (xn Z Z Z (xn Z Z Z ?_)))))))))
    refine xn Z Z Z (xn Z Z Z (xn Z Z Z (xa (.bool false) Z (pu_pick (b := false) Z (tm Z) (fun h => nomatch h) (fun _ => (AEv.bool _))) (xm Z Z Z (xn Z Z Z (xn Z Z Z (xn Z Z Z (xn Z Z Z (xn Z Z Z ?_)))))))))
    refine xa (.bool false) Z (pu_pick (b := false) Z (tm Z) (fun h => nomatch h) (fun _ => (AEv.bool _))) (xm Z Z Z (xe ?_))
    obtain rfl := some_of h
    exact ⟨(), Weak.mkL [] (by decide) trivial ⟨tm Z, trivial⟩⟩
  ·replace h := ite_f (dec_f hb32) h
   refine aops_known 10 Z hb32 (xn Z Z Z (xn Z Z Z (xn Z Z Z (xn Z Z Z (xn Z Z Z (xa (.bool false) Z (pu_pick (b := false) Z (tm Z) (fun h => nomatch h) (fun _ => (AEv.bool _))) (xm Z Z Z (xn Z Z Z (xn Z Z Z ?_)))))))))
   refine xn Z Z Z (xn Z Z Z (xn Z Z Z (xa (.bool false) Z (pu_pick (b := false) Z (tm Z) (fun h => nomatch h) (fun _ => (AEv.bool _))) (xm Z Z Z (xn Z Z Z (xn Z Z Z (xn Z Z Z (xn Z Z Z (xn Z Z Z ?_)))))))))
   refine xa (.bool false) Z (pu_pick (b := false) Z (tm Z) (fun h => nomatch h) (fun _ => (AEv.bool _))) (xm Z Z Z (xn Z Z Z (xn Z Z Z (xn Z Z Z (xn Z Z Z (xn Z Z Z (xa (.bool false) Z (pu_pick (b := false) Z (tm Z) (fun h => nomatch h) (fun _ => (AEv.bool _))) (xm Z Z Z (xe ?_)))))))))
   obtain rfl := some_of h
   exact ⟨(), Weak.mkL [] (by decide) trivial ⟨tm Z, trivial⟩⟩
 ·intro _
  have h := h30
  refine aw_ret ?_
  obtain rfl := some_of h
  exact ⟨[.bool s29], _, [], ⟨(tm Z), trivial⟩, vr, Weak.mkL [] (by decide) trivial trivial, ⟨Z, Z⟩⟩

theorem mewsref22.Same.ok {a : List api.Field} {b : List api.Field} {r : Bool} (h : mewsref22.Same a b = some r) : Go.Lift.Spec prog 20 [.sl .no 2 (a.map api.Field.av), .sl .no 2 (b.map api.Field.av)] [] (fun v H => v = .bool r ∧ H = []) := by
 unfold mewsref22.Same at h
 refine Go.Lift.Spec.of_body (rs := [.tmp 4]) func20 Z Z (nb Z) Z (xr (xa (.bool false) Z (pu_assign Z (AEv.bool _)) (xe (xr (xm Z Z Z (xa (.agg (api.Value.ct .full .no .full ({ Kind := 0, Text := ([] : List UInt8), List_ := ([] : List (List UInt8)), Hash := a, ZSet := ([] : List api.Scored) } : api.Value))) Z (pu_build (zs := [.i 0, .str ([] : List UInt8), .sl .full 1 (([] : List (List UInt8)).map AV.str), .sl .full 2 (([] : List api.Field).map api.Field.av), .sl .full 2 (([] : List api.Scored).map api.Scored.av)]) (szs := [1, 1, 1, 1, 1]) (aparts := [(3, .sl .no 2 (a.map api.Field.av))]) (cs := [.i 0, .str ([] : List UInt8), .sl .full 1 (([] : List (List UInt8)).map AV.str), .sl .no 2 (a.map api.Field.av), .sl .full 2 (([] : List api.Scored).map api.Scored.av)]) Z underlying28 zeroValue28 Z ⟨sizeOf3, sizeOf9, sizeOf25, sizeOf23, sizeOf26, trivial⟩ ⟨Z, (tm Z), trivial⟩ Z) (xm Z Z Z ?_)))))))
 refine xa (.agg (api.Value.ct .full .no .full ({ Kind := 0, Text := ([] : List UInt8), List_ := ([] : List (List UInt8)), Hash := b, ZSet := ([] : List api.Scored) } : api.Value))) Z (pu_build (zs := [.i 0, .str ([] : List UInt8), .sl .full 1 (([] : List (List UInt8)).map AV.str), .sl .full 2 (([] : List api.Field).map api.Field.av), .sl .full 2 (([] : List api.Scored).map api.Scored.av)]) (szs := [1, 1, 1, 1, 1]) (aparts := [(3, .sl .no 2 (b.map api.Field.av))]) (cs := [.i 0, .str ([] : List UInt8), .sl .full 1 (([] : List (List UInt8)).map AV.str), .sl .no 2 (b.map api.Field.av), .sl .full 2 (([] : List api.Scored).map api.Scored.av)]) Z underlying28 zeroValue28 Z ⟨sizeOf3, sizeOf9, sizeOf25, sizeOf23, sizeOf26, trivial⟩ ⟨Z, (tm Z), trivial⟩ Z) ?_
 obtain ⟨r2, r2e, h⟩ := bind_some h
 refine xc Z (op_call (vs := [.agg (api.Value.ct .no .no .no ({ Kind := 0, Text := ([] : List UInt8), List_ := ([] : List (List UInt8)), Hash := a, ZSet := ([] : List api.Scored) } : api.Value)), .agg (api.Value.ct .no .no .no ({ Kind := 0, Text := ([] : List UInt8), List_ := ([] : List (List UInt8)), Hash := b, ZSet := ([] : List api.Scored) } : api.Value))]) (H := []) Z call33 ⟨(AEv.le (tm Z) (AV.Le.agg ⟨vr, vr, (AV.Le.forget _ _ _), vr, (AV.Le.forget _ _ _), trivial⟩)), (AEv.le (tm Z) (AV.Le.agg ⟨vr, vr, (AV.Le.forget _ _ _), vr, (AV.Le.forget _ _ _), trivial⟩)), trivial⟩ (List.Perm.refl _) (mewsref19.Same.ok r2e) ?_)
 rintro _ _ ⟨rfl, rfl⟩
 refine xm Z Z Z (xe (aw_ret ?_))
 obtain rfl := some_of h
 exact ⟨[.bool r2], _, [], ⟨(tm Z), trivial⟩, vr, Weak.mkL [] (by decide) trivial trivial, ⟨Z, Z⟩⟩

theorem mewslaw22.alive.ok  {r : Bool} (h : mewslaw22.alive = some r) : Go.Lift.Spec prog 7 [] [] (fun v H => v = .bool r ∧ H = []) := by
 unfold mewslaw22.alive at h
 refine Go.Lift.Spec.of_body (rs := [.tmp 0]) func7 Z Z (nb Z) Z (aw_regNew fun rg => (xr (xa (.bool false) Z (pu_assign Z (AEv.bool _)) (xe (aw_seq (aw_region ?_))))))
 obtain ⟨r14, r14e, h⟩ := bind_some h
 refine xc Z (op_call (vs := [.int .u64 1]) (H := [(rg, .abs (regAbs ([] : Reg)))]) Z call14 ⟨(AEv.int _ _), trivial⟩ (List.Perm.refl _) (dict.New_string.ok r14e rg) ?_)
 rintro _ _ ⟨rfl, rfl⟩
 refine xm Z Z Z (xe (xr (xm Z Z Z (xa (.agg [.str [97], .str [49]]) Z (pu_build (zs := [.str ([] : List UInt8), .str ([] : List UInt8)]) (szs := [1, 1]) (aparts := [(0, .str [97]), (1, .str [49])]) (cs := [.str [97], .str [49]]) Z underlying34 zeroValue34 Z ⟨sizeOf9, sizeOf9, trivial⟩ ⟨Z, (AEv.const Z), ⟨Z, (AEv.const Z), trivial⟩⟩ Z) (xa (.agg [.str [98], .str [50]]) Z (pu_build (zs := [.str ([] : List UInt8), .str ([] : List UInt8)]) (szs := [1, 1]) (aparts := [(0, .str [98]), (1, .str [50])]) (cs := [.str [98], .str [50]]) Z underlying34 zeroValue34 Z ⟨sizeOf9, sizeOf9, trivial⟩ ⟨Z, (AEv.const Z), ⟨Z, (AEv.const Z), trivial⟩⟩ Z) (xa (.agg [.str [97], .str [51]]) Z (pu_build (zs := [.str ([] : List UInt8), .str ([] : List UInt8)]) (szs := [1, 1]) (aparts := [(0, .str [97]), (1, .str [51])]) (cs := [.str [97], .str [51]]) Z underlying34 zeroValue34 Z ⟨sizeOf9, sizeOf9, trivial⟩ ⟨Z, (AEv.const Z), ⟨Z, (AEv.const Z), trivial⟩⟩ Z) (xc Z (op_buildSlice (xs := ([({ Key := [97], Val := [49] } : api.Field), ({ Key := [98], Val := [50] } : api.Field), ({ Key := [97], Val := [51] } : api.Field)] : List api.Field).map api.Field.av) (aparts := [(0, .agg [.str [97], .str [49]]), (1, .agg [.str [98], .str [50]]), (2, .agg [.str [97], .str [51]])]) Z underlying23 sizeOf34 zeroValue34 (by decide) (by decide) ⟨Z, (tm Z), ⟨Z, (tm Z), ⟨Z, (tm Z), trivial⟩⟩⟩ Z Z Z ?_))))))))
 obtain ⟨r15, r15e, h⟩ := bind_some h
 refine xc Z (op_call (vs := [.rp rg r14.1, .sl .no 2 ([({ Key := [97], Val := [49] } : api.Field), ({ Key := [98], Val := [50] } : api.Field), ({ Key := [97], Val := [51] } : api.Field)].map api.Field.av)]) (H := [(rg, .abs (regAbs r14.2))]) Z call15 ⟨(tm Z), (AEv.le (tm Z) (AV.Le.forget _ _ _)), trivial⟩ (List.Perm.refl _) (field.Put.ok r15e rg) ?_)
 rintro _ _ ⟨rfl, rfl⟩
 refine xm Z Z Z (xe ?_)
 obtain ⟨s20, s20e, h21⟩ := bind_some h
 refine aw_meet (ν := Unit) (fun v => [(0, .bool s20.1)]) (fun v => [(rg, .abs (regAbs s20.2))]) ?_ ?_
 ·have h := s20e
  refine aw_region (xm Z Z Z (xa (.bool (decide (r15.1 = 2))) Z (pu_int (v := .bool (decide (r15.1 = 2))) Z Z (tm Z) (AEv.int _ _) Z) (xm Z Z Z ?_)))
  rcases Bool.eq_false_or_eq_true (decide (r15.1 = 2)) with hb23 | hb23
  ·replace h := ite_t (dec_t hb23) h
   refine aops_known 12 Z hb23 (xq Z Z Z Z ?_)
   obtain ⟨r24, r24e, h⟩ := bind_some h
   refine xg Z Z (op_call (vs := [.rp rg r14.1]) (H := [(rg, .abs (regAbs r15.2))]) Z call9 ⟨(tm Z), trivial⟩ (List.Perm.refl _) (field.All.ok r24e rg) ?_)
   rintro _ _ ⟨t25, rfl, rfl⟩
   refine xp (.agg [.str [97], .str [51]]) Z Z (pu_build (zs := [.str ([] : List UInt8), .str ([] : List UInt8)]) (szs := [1, 1]) (aparts := [(0, .str [97]), (1, .str [51])]) (cs := [.str [97], .str [51]]) Z underlying34 zeroValue34 Z ⟨sizeOf9, sizeOf9, trivial⟩ ⟨Z, (AEv.const Z), ⟨Z, (AEv.const Z), trivial⟩⟩ Z) (xp (.agg [.str [98], .str [50]]) Z Z (pu_build (zs := [.str ([] : List UInt8), .str ([] : List UInt8)]) (szs := [1, 1]) (aparts := [(0, .str [98]), (1, .str [50])]) (cs := [.str [98], .str [50]]) Z underlying34 zeroValue34 Z ⟨sizeOf9, sizeOf9, trivial⟩ ⟨Z, (AEv.const Z), ⟨Z, (AEv.const Z), trivial⟩⟩ Z) (xg Z Z (op_buildSlice (xs := ([({ Key := [97], Val := [51] } : api.Field), ({ Key := [98], Val := [50] } : api.Field)] : List api.Field).map api.Field.av) (aparts := [(0, .agg [.str [97], .str [51]]), (1, .agg [.str [98], .str [50]])]) Z underlying23 sizeOf34 zeroValue34 (by decide) (by decide) ⟨Z, (tm Z), ⟨Z, (tm Z), trivial⟩⟩ Z Z Z ?_)))
   obtain ⟨r26, r26e, h⟩ := bind_some h
   refine xg Z Z (op_call (vs := [.sl .no 2 (r24.1.map api.Field.av), .sl .no 2 ([({ Key := [97], Val := [51] } : api.Field), ({ Key := [98], Val := [50] } : api.Field)].map api.Field.av)]) (H := []) Z call20 ⟨(AEv.le (tm Z) (AV.Le.forget _ _ _)), (AEv.le (tm Z) (AV.Le.forget _ _ _)), trivial⟩ (List.Perm.refl _) (mewsref22.Same.ok r26e) ?_)
   rintro _ _ ⟨rfl, rfl⟩
   refine xa (.bool r26) Z (pu_pick (b := true) Z (tm Z) (fun _ => (tm Z)) (fun h => nomatch h)) (xm Z Z Z (xe ?_))
   obtain rfl := some_of h
   exact ⟨(), Weak.mkL [0] (by decide) ⟨⟨_, Z, Z⟩, trivial⟩ ⟨tm Z, trivial⟩⟩
  ·replace h := ite_f (dec_f hb23) h
   refine aops_known 12 Z hb23 (xn Z Z Z (xn Z Z Z (xn Z Z Z (xn Z Z Z (xn Z Z Z (xn Z Z Z (xa (.bool false) Z (pu_pick (b := false) Z (tm Z) (fun h => nomatch h) (fun _ => (AEv.bool _))) (xm Z Z Z (xe ?_)))))))))
   obtain rfl := some_of h
   exact ⟨(), Weak.mkL [0] (by decide) ⟨⟨_, Z, Z⟩, trivial⟩ ⟨tm Z, trivial⟩⟩
 ·intro _
  have h := h21
  refine aw_ret ?_
  obtain rfl := some_of h
  exact ⟨[.bool s20.1], _, [], ⟨(tm Z), trivial⟩, vr, Weak.mkL [] (by decide) trivial trivial, ⟨Z, Z⟩⟩

theorem field.Make.ok {seed : Int} {fields : List api.Field} {mem : Reg} {r : RP × Reg} (h : field.Make seed fields mem = some r) (rg : Nat) : Go.Lift.Spec prog 8 [.int .u64 seed, .sl .no 2 (fields.map api.Field.av)] [(rg, .abs (regAbs mem))] (fun v H => v = .rp rg r.1 ∧ H = [(rg, .abs (regAbs r.2))]) := by
 unfold field.Make at h
 refine Go.Lift.Spec.of_body (rs := [.tmp 4]) func8 Z Z (nb Z) Z (xr (xa (.rp rg (none : RP)) Z (pu_assign Z (AEv.rpn _)) (xe (xr (xm Z Z Z ?_)))))
 obtain ⟨r3, r3e, h⟩ := bind_some h
 refine xc Z (op_call (vs := [.int .u64 seed]) (H := [(rg, .abs (regAbs mem))]) Z call14 ⟨(tm Z), trivial⟩ (List.Perm.refl _) (dict.New_string.ok r3e rg) ?_)
 rintro _ _ ⟨rfl, rfl⟩
 refine xm Z Z Z (xe (xr (xm Z Z Z (xm Z Z Z ?_))))
 obtain ⟨r4, r4e, h⟩ := bind_some h
 refine xc Z (op_call (vs := [.rp rg r3.1, .sl .no 2 (fields.map api.Field.av)]) (H := [(rg, .abs (regAbs r3.2))]) Z call15 ⟨(tm Z), (tm Z), trivial⟩ (List.Perm.refl _) (field.Put.ok r4e rg) ?_)
 rintro _ _ ⟨rfl, rfl⟩
 refine xe (xr (xm Z Z Z (xm Z Z Z (xe (aw_ret ?_)))))
 obtain rfl := some_of h
 exact ⟨[.rp rg r3.1], _, [(rg, .abs (regAbs r4.2))], ⟨(tm Z), trivial⟩, vr, Weak.mkL [0] (by decide) ⟨⟨_, Z, Z⟩, trivial⟩ trivial, ⟨Z, Z⟩⟩

theorem mewslaw22.keys.ok {l : List api.Field} {r : (List (List UInt8)) × (List UInt8)} (h : mewslaw22.keys l = some r) : Go.Lift.Spec prog 10 [.sl .no 2 (l.map api.Field.av)] [] (fun v H => ∃ n0, v = .tup [.sl (.own n0) 1 (r.1.map AV.str), .str r.2] ∧ H = [(n0, .spare)]) := by
 unfold mewslaw22.keys at h
 refine Go.Lift.Spec.of_body (rs := [.tmp 2, .tmp 3]) func10 Z Z (nb Z) Z (xr (xa (.sl .full 1 (([] : List (List UInt8)).map AV.str)) Z (pu_assign Z (AEv.nil 1 (by decide))) (xa (.str ([] : List UInt8)) Z (pu_assign Z (AEv.const Z)) (xe (xr (xa (.sl .full 1 (([] : List (List UInt8)).map AV.str)) Z (pu_assign Z (AEv.nil 1 (by decide))) (xe ?_)))))))
 refine xr (xa (.str ([] : List UInt8)) Z (pu_assign Z (AEv.const Z)) (xe ?_))
 obtain ⟨s122, s122e, h124⟩ := bind_some h
 refine aw_meet (ν := Nat) (fun v => [(4, .sl (.own v) 1 (s122.1.map AV.str)), (5, .str s122.2)]) (fun v => [(v, .spare)]) ?_ ?_
 ·have h := s122e
  refine xr (xm Z Z Z (xa (.i (l.length : Int)) Z (pu_lenM Z underlying23 (tm Z)) (xa (.i 0) Z (pu_move Z (AEv.int _ _)) (xe (aw_block (aw_claim 4 (tm Z) fun t164 => (aw_while (σ := mewslaw22.keys.S0) (ν := Nat) (mewslaw22.keys.body0 l) (fun s149 v => [(4, .sl (.own v) 1 (s149.out.map AV.str)), (5, .str s149.first), (8, .sl .no 2 (l.map api.Field.av)), (9, .i (l.length : Int)), (10, .i s149.t10)]) (fun s149 v => [(v, .spare)]) ⟨([] : List (List UInt8)), ([] : List UInt8), 0⟩ t164 _ h (Weak.mkL [0] (by decide) ⟨⟨_, Z, Z⟩, trivial⟩ ⟨tm Z, tm Z, tm Z, tm Z, tm Z, trivial⟩) ?_)))))))
  rintro s149 n150 x152 h hx151
  unfold mewslaw22.keys.body0 at h
  refine xr (xa (.bool (decide (s149.t10 < (l.length : Int)))) Z (pu_int (v := .bool (decide (s149.t10 < (l.length : Int)))) Z Z (tm Z) (tm Z) Z) (xe (aw_seq (aw_cond (b := decide (s149.t10 < (l.length : Int))) (tm Z) (fun hb163 => ?_) (fun hb163 => ?_)))))
  ·replace h := ite_t (dec_t hb163) h
   refine aw_skip (aw_seq (aw_block (xr (xm Z Z Z ?_))))
   obtain ⟨c154, h⟩ := need_of h
   refine xa (.vptr [.str (ix l s149.t10).Key, .str (ix l s149.t10).Val]) Z (pu_indexAddrM Z underlying23 sizeOf34 (tm Z) (tm Z) c154 Z) (xc Z (op_loadVN Z isAgg34 sizeOf34 (tm Z) (nb Z) Z (xc Z (op_alloc (cs := [.str ([] : List UInt8), .str ([] : List UInt8)]) (v := .agg [.str ([] : List UInt8), .str ([] : List UInt8)]) Z zeroValue34 Z Z Z ?_))))
   intro p155
   refine xm Z Z Z (ac0 Z Z (op_store (i := 0) (cs' := [.str (ix l s149.t10).Key, .str (ix l s149.t10).Val]) Z sizeOf34 (tm Z) (v := .agg [.str (ix l s149.t10).Key, .str (ix l s149.t10).Val]) (tm Z) Z Z Z (nb Z) Z (xe ?_)))
   obtain ⟨s157, s157e, h158⟩ := letO_of h
   refine aw_meet (ν := Unit) (fun v => [(4, .sl (.own n150) 1 (s149.out.map AV.str)), (5, .str s157), (7, .ptr p155 0), (8, .sl .no 2 (l.map api.Field.av)), (9, .i (l.length : Int)), (10, .i s149.t10)]) (fun v => [(n150, .spare), (p155, .cells [.str (ix l s149.t10).Key, .str (ix l s149.t10).Val])]) ?_ ?_
   ·have h := s157e.symm
    refine xr (xm Z Z Z (xa (.bool (decide (s149.t10 = 0))) Z (pu_int (v := .bool (decide (s149.t10 = 0))) Z Z (tm Z) (AEv.int _ _) Z) (xe (aw_cond (b := decide (s149.t10 = 0)) (tm Z) (fun hb160 => ?_) (fun hb160 => ?_)))))
    ·replace h := ite_t (dec_t hb160) h
     refine aw_region (xa (.ptr p155 0) Z (fa Z underlying34 Z sizeOf9 Z Z Z) (xc Z (op_load1 (i := 0) Z isAgg9 (tm Z) Z Z (xm Z Z Z (xe ?_)))))
     subst h
     exact ⟨(), Weak.mkL [1, 0] (by decide) ⟨⟨_, Z, Z⟩, ⟨_, Z, cr, Z⟩, trivial⟩ ⟨tm Z, tm Z, tm Z, tm Z, tm Z, tm Z, trivial⟩⟩
    ·replace h := ite_f (dec_f hb160) h
     refine aw_skip ?_
     subst h
     exact ⟨(), Weak.mkL [1, 0] (by decide) ⟨⟨_, Z, Z⟩, ⟨_, Z, cr, Z⟩, trivial⟩ ⟨tm Z, tm Z, tm Z, tm Z, tm Z, tm Z, trivial⟩⟩
   ·intro _
    have h := h158
    refine aw_region (xm Z Z Z (xa (.ptr p155 0) Z (fa Z underlying34 Z sizeOf9 Z Z Z) (xc Z (op_load1 (i := 1) Z isAgg9 (tm Z) Z Z (xc Z (op_buildSlice (xs := ([(ix l s149.t10).Key] : List (List UInt8)).map AV.str) (aparts := [(0, .str (ix l s149.t10).Key)]) Z underlying25 sizeOf9 zeroValue9 (by decide) (by decide) ⟨Z, (tm Z), trivial⟩ Z Z Z ?_))))))
    obtain ⟨c161, h⟩ := need_of h
    refine xc Z (op_appendOM (q := 0) Z underlying25 underlying25 (.inl Z) typeInfo9 Z Z Z (by decide) (tm Z) Z (given_sl (tm Z)) c161 ?_)
    intro t162
    refine xm Z Z Z (xe (aw_region (xa (.i (IntKind.wrap .i64 (s149.t10 + 1))) Z (pu_int (v := .i (IntKind.wrap .i64 (s149.t10 + 1))) Z Z (tm Z) (AEv.int _ _) Z) (xm Z Z Z (xe ?_)))))
    obtain rfl := some_of h
    exact ⟨_, t162, Z, Weak.mkL [0] (by decide) ⟨⟨_, Z, Z⟩, trivial⟩ ⟨(AEv.le (tm Z) vr), tm Z, tm Z, tm Z, (AEv.le (tm Z) vr), trivial⟩⟩
  ·replace h := ite_f (dec_f hb163) h
   refine aw_exit ?_
   obtain rfl := some_of h
   have h := congrArg some (hx151 _ rfl)
   obtain rfl := some_of h
   exact ⟨n150, Weak.mkL [0] (by decide) ⟨⟨_, Z, Z⟩, trivial⟩ ⟨tm Z, tm Z, trivial⟩⟩
 ·intro n123
  have h := h124
  refine xr (xm Z Z Z (xm Z Z Z (xm Z Z Z (xm Z Z Z (xe (aw_ret ?_))))))
  obtain rfl := some_of h
  exact ⟨[.sl (.own n123) 1 (s122.1.map AV.str), .str s122.2], _, [(n123, .spare)], ⟨(tm Z), (tm Z), trivial⟩, vr, Weak.mkL [0] (by decide) ⟨⟨_, Z, Z⟩, trivial⟩ trivial, ⟨n123, Z, Z⟩⟩

theorem dict.Table_string.Drop.ok {t_ : RP} {key : List UInt8} {mem : Reg} {r : Bool × Reg} (h : dict.Table_string.Drop t_ key mem = some r) (rg : Nat) : Go.Lift.Spec prog 26 [.rp rg t_, .str key] [(rg, .abs (regAbs mem))] (fun v H => v = .bool r.1 ∧ H = [(rg, .abs (regAbs r.2))]) := by
 unfold dict.Table_string.Drop at h
 refine Go.Lift.Spec.of_body (rs := [.tmp 4]) func26 Z Z (nb Z) Z (xr (xa (.bool false) Z (pu_assign Z (AEv.bool _)) (xe (aw_seq (xr (xm Z Z Z ?_))))))
 obtain ⟨r53, r53e, h⟩ := bind_some h
 refine xc Z (op_call (vs := [.rp rg t_]) (H := [(rg, .abs (regAbs mem))]) Z call38 ⟨(tm Z), trivial⟩ (List.Perm.refl _) (dict.Table_string.ready.ok r53e rg) ?_)
 rintro _ _ ⟨rfl, rfl⟩
 refine xa (.bool (!r53.1)) Z (pu_not Z (tm Z)) (xe (aw_cond (b := (!r53.1)) (tm Z) (fun hb104 => ?_) (fun hb104 => ?_)))
 ·replace h := ite_t hb104 h
  refine xr (xa (.bool false) Z (pu_assign Z (AEv.bool _)) (xe (aw_ret ?_)))
  obtain rfl := some_of h
  exact ⟨[.bool false], _, [(rg, .abs (regAbs r53.2))], ⟨(tm Z), trivial⟩, vr, Weak.mkL [0] (by decide) ⟨⟨_, Z, Z⟩, trivial⟩ trivial, ⟨Z, Z⟩⟩
 ·replace h := ite_fb hb104 h
  refine aw_skip (xr (xm Z Z Z ?_))
  obtain ⟨r54, r54e, h⟩ := bind_some h
  refine xc Z (op_call (vs := [.rp rg t_]) (H := [(rg, .abs (regAbs r53.2))]) Z call39 ⟨(tm Z), trivial⟩ (List.Perm.refl _) (dict.Table_string.step.ok r54e rg) ?_)
  rintro _ _ ⟨rfl, rfl⟩
  refine xe (xr (xm Z Z Z (xm Z Z Z ?_)))
  obtain ⟨r55, r55e, h⟩ := bind_some h
  refine xc Z (op_call (vs := [.rp rg t_, .str key]) (H := [(rg, .abs (regAbs r54.2))]) Z call37 ⟨(tm Z), (tm Z), trivial⟩ (List.Perm.refl _) (dict.Table_string.find.ok r55e rg) ?_)
  rintro _ _ ⟨rfl, rfl⟩
  refine xm Z Z Z (xe (aw_seq (xr (xm Z Z Z (xa (.bool r55.isNone) Z (pu_regNil Z underlying85 (tm Z) AEv.nilp) (xe (aw_cond (b := r55.isNone) (tm Z) (fun hb103 => ?_) (fun hb103 => ?_))))))))
  ·replace h := ite_t hb103 h
   refine xr (xa (.bool false) Z (pu_assign Z (AEv.bool _)) (xe (aw_ret ?_)))
   obtain rfl := some_of h
   exact ⟨[.bool false], _, [(rg, .abs (regAbs r54.2))], ⟨(tm Z), trivial⟩, vr, Weak.mkL [0] (by decide) ⟨⟨_, Z, Z⟩, trivial⟩ trivial, ⟨Z, Z⟩⟩
  ·replace h := ite_fb hb103 h
   refine aw_skip (xr (xm Z Z Z (xm Z Z Z ?_)))
   obtain ⟨c56, h⟩ := need_of h
   refine xa (.rp rg r55) Z (pu_regCheck Z (tm Z) c56) ?_
   obtain ⟨r57, r57e, h⟩ := bind_some h
   refine xc Z (op_regLoad (i := 0) (av := .rp rg r57) Z isAgg87 (tm Z) Z (rLdP_eq r57e) Z ?_)
   obtain ⟨c58, h⟩ := need_of h
   refine xa (.rp rg r57) Z (pu_regCheck Z (tm Z) c58) (xa (.rp rg (rpAdd r57 2)) Z (pu_regField Z underlying89 Z sizeOf87 (by decide) (tm Z) c58 Z) ?_)
   obtain ⟨r59, r59e, h⟩ := bind_some h
   refine xc Z (op_regLoad (i := 0) (av := .rp rg r59) Z isAgg87 (tm Z) Z (rLdP_eq r59e) Z (xa (.rp rg r55) Z (pu_regCheck Z (tm Z) c56) ?_))
   obtain ⟨r60, r60e, h⟩ := bind_some h
   refine ac0 Z Z (op_regStore (i := 0) [.pt r59] Z sizeOf87 (tm Z) (v := .rp rg r59) (tm Z) Z Z Z r60e (xe (xr (xm Z Z Z ?_))))
   obtain ⟨c61, h⟩ := need_of h
   refine xa (.rp rg t_) Z (pu_regCheck Z (tm Z) c61) (xa (.rp rg (rpAdd t_ 7)) Z (pu_regField Z underlying71 Z sizeOf3 (by decide) (tm Z) c61 Z) ?_)
   obtain ⟨r62, r62e, h⟩ := bind_some h
   refine xc Z (op_regLoad (i := 0) (av := .i r62) Z isAgg3 (tm Z) Z (rLdI_eq r62e) Z (xa (.i (IntKind.wrap .i64 (r62 - 1))) Z (pu_int (v := .i (IntKind.wrap .i64 (r62 - 1))) Z Z (tm Z) (AEv.int _ _) Z) (xa (.rp rg t_) Z (pu_regCheck Z (tm Z) c61) (xa (.rp rg (rpAdd t_ 7)) Z (pu_regField Z underlying71 Z sizeOf3 (by decide) (tm Z) c61 Z) ?_))))
   obtain ⟨r63, r63e, h⟩ := bind_some h
   refine ac0 Z Z (op_regStore (i := 0) [.it .i64 (IntKind.wrap .i64 (r62 - 1))] Z sizeOf3 (tm Z) (v := .i (IntKind.wrap .i64 (r62 - 1))) (tm Z) Z Z Z r63e (xe ?_))
   obtain ⟨s82, s82e, h83⟩ := bind_some h
   refine aw_meet (ν := Unit) (fun v => []) (fun v => [(rg, .abs (regAbs s82))]) ?_ ?_
   ·have h := s82e
    refine xr (xm Z Z Z (xa (.rp rg t_) Z (pu_regCheck Z (tm Z) c61) (xa (.rp rg (rpAdd t_ 1)) Z (pu_regField Z underlying71 Z sizeOf69 (by decide) (tm Z) c61 Z) ?_)))
    obtain ⟨c85, h⟩ := need_of h
    obtain ⟨c86, h⟩ := need_of h
    refine xa (.rp rg (rpAdd (rpAdd t_ 1) 0)) Z (pu_regIndexA Z underlying69 sizeOf67 (tm Z) (AEv.int _ _) c85 c86) ?_
    obtain ⟨r87, r87e, h⟩ := bind_some h
    obtain ⟨r88, r88e, h⟩ := bind_some h
    refine xc Z (op_regLoadN (i := 0) (vs := [.it .i64 r87, .sc r88]) (avs := [.i r87, .rs rg r88]) Z isAgg67 sizeOf67 (tm Z) Z ⟨rLdI_eq r87e, rLdL_eq r88e, trivial⟩ Z (by decide) Z (xc Z (op_alloc (cs := [.i 0, .rs rg (none : RS)]) (v := .agg [.i 0, .rs rg (none : RS)]) Z zeroValue67 Z Z Z ?_)))
    intro p89
    refine ac0 Z Z (op_store (i := 0) (cs' := [.i r87, .rs rg r88]) Z sizeOf67 (tm Z) (v := .agg [.i r87, .rs rg r88]) (tm Z) Z Z Z (nb Z) Z (xe ?_))
    obtain ⟨s94, s94e, h95⟩ := bind_some h
    refine aw_meet (ν := Unit) (fun v => [(0, .rp rg t_), (6, .ptr p89 0), (57, .bool s94)]) (fun v => [(rg, .abs (regAbs r63)), (p89, .cells [.i r87, .rs rg r88])]) ?_ ?_
    ·have h := s94e
     obtain ⟨r97, r97e, h⟩ := bind_some h
     rcases Bool.eq_false_or_eq_true (!r97) with hb98 | hb98
     ·replace h := ite_t hb98 h
      rcases Bool.eq_false_or_eq_true (decide (2 < r87)) with hb99 | hb99
      ·replace h := ite_t (dec_t hb99) h
       obtain ⟨r100, r100e, h⟩ := bind_some h
       refine aw_planR (by decide +kernel) [[], [], [], [(1, 0, false)], [], [], [], [(0, 0, false)], [], [], [], [], [], [], [(1, 0, false)], [], [], [(0, 0, false)], [], [], []] [[], []] [[[(p89, .cells [.i r87, .rs rg r88])]], [[(rg, .abs (regAbs r63))]]] [.rp rg t_, .rp rg t_, .rp rg (rpAdd t_ 6), .bool r97, .bool (!r97), .bool true, .ptr p89 0, .i r87, .bool (decide (2 < r87)), .bool (decide (2 < r87)), .bool true, .rp rg t_, .rp rg t_, .rp rg (rpAdd t_ 7), .i r100, .i (IntKind.wrap .i64 (8 * r100)), .ptr p89 1, .rs rg r88, .i (rsLen r88 : Int), .bool (decide ((IntKind.wrap .i64 (8 * r100)) < (rsLen r88 : Int))), .bool (decide ((IntKind.wrap .i64 (8 * r100)) < (rsLen r88 : Int)))] (by decide +kernel) Z Z ?_ ?_
       ·exact ⟨ym Z Z Z, yp Z (pu_regCheck Z (tm Z) c61), yp Z (pu_regField Z underlying71 Z sizeOf4 (by decide) (tm Z) c61 Z), stepg_plain Z (op_regLoad (i := 0) (av := .bool r97) Z isAgg4 (tm Z) Z (rLdB_eq r97e) Z ⟨Z, Z⟩), yp Z (pu_not Z (tm Z)), AStepG.cast (ym Z Z Z) (congrArg AV.bool hb98), yq Z Z (fa Z underlying67 Z sizeOf3 Z Z Z), yg Z Z (op_load1 (i := 0) Z isAgg3 (tm Z) Z Z ⟨Z, Z⟩), yq Z Z (pu_int (v := .bool (decide (2 < r87))) Z Z (tm Z) (AEv.int _ _) Z), yp Z (pu_pick (b := true) Z (tm Z) (fun _ => (tm Z)) (fun h => nomatch h)), AStepG.cast (ym Z Z Z) (congrArg AV.bool hb99), yq Z Z (pu_move Z (tm Z)), yq Z Z (pu_regCheck Z (tm Z) c61), yq Z Z (pu_regField Z underlying71 Z sizeOf3 (by decide) (tm Z) c61 Z), yg Z Z (op_regLoad (i := 0) (av := .i r100) Z isAgg3 (tm Z) Z (rLdI_eq r100e) Z ⟨Z, Z⟩), yq Z Z (pu_int (v := .i (IntKind.wrap .i64 (8 * r100))) Z Z (AEv.int _ _) (tm Z) Z), yq Z Z (fa Z underlying67 Z sizeOf65 Z Z Z), yg Z Z (op_load1 (i := 0) Z isAgg65 (tm Z) Z Z ⟨Z, Z⟩), yq Z Z (pu_regLen Z underlying65 (tm Z)), yq Z Z (pu_int (v := .bool (decide ((IntKind.wrap .i64 (8 * r100)) < (rsLen r88 : Int)))) Z Z (tm Z) (tm Z) Z), yp Z (pu_pick (b := true) Z (tm Z) (fun _ => (tm Z)) (fun h => nomatch h)), trivial⟩
       obtain rfl := some_of h
       exact ⟨(), Weak.mkL [1, 0] (by decide) ⟨⟨_, Z, Z⟩, ⟨_, Z, cr, Z⟩, trivial⟩ ⟨tm Z, tm Z, (AEv.le (tm Z) vr), trivial⟩⟩
      ·replace h := ite_f (dec_f hb99) h
       refine aw_planR (by decide +kernel) [[], [], [], [(1, 0, false)], [], [], [], [(0, 0, false)], [], [], [], [], [], [], [], [], [], [], [], [], []] [[], []] [[[(p89, .cells [.i r87, .rs rg r88])]], [[(rg, .abs (regAbs r63))]]] [.rp rg t_, .rp rg t_, .rp rg (rpAdd t_ 6), .bool r97, .bool (!r97), .bool true, .ptr p89 0, .i r87, .bool (decide (2 < r87)), .bool (decide (2 < r87)), .bool false, .lit undef, .lit undef, .lit undef, .lit undef, .lit undef, .lit undef, .lit undef, .lit undef, .lit undef, .bool false] (by decide +kernel) Z Z ?_ ?_
       ·exact ⟨ym Z Z Z, yp Z (pu_regCheck Z (tm Z) c61), yp Z (pu_regField Z underlying71 Z sizeOf4 (by decide) (tm Z) c61 Z), stepg_plain Z (op_regLoad (i := 0) (av := .bool r97) Z isAgg4 (tm Z) Z (rLdB_eq r97e) Z ⟨Z, Z⟩), yp Z (pu_not Z (tm Z)), AStepG.cast (ym Z Z Z) (congrArg AV.bool hb98), yq Z Z (fa Z underlying67 Z sizeOf3 Z Z Z), yg Z Z (op_load1 (i := 0) Z isAgg3 (tm Z) Z Z ⟨Z, Z⟩), yq Z Z (pu_int (v := .bool (decide (2 < r87))) Z Z (tm Z) (AEv.int _ _) Z), yp Z (pu_pick (b := true) Z (tm Z) (fun _ => (tm Z)) (fun h => nomatch h)), AStepG.cast (ym Z Z Z) (congrArg AV.bool hb99), yx Z Z Z, yx Z Z Z, yx Z Z Z, yx Z Z Z, yx Z Z Z, yx Z Z Z, yx Z Z Z, yx Z Z Z, yx Z Z Z, yp Z (pu_pick (b := false) Z (tm Z) (fun h => nomatch h) (fun _ => (AEv.bool _))), trivial⟩
       obtain rfl := some_of h
       exact ⟨(), Weak.mkL [1, 0] (by decide) ⟨⟨_, Z, Z⟩, ⟨_, Z, cr, Z⟩, trivial⟩ ⟨tm Z, tm Z, tm Z, trivial⟩⟩
     ·replace h := ite_fb hb98 h
      refine aw_planR (by decide +kernel) [[], [], [], [(1, 0, false)], [], [], [], [], [], [], [], [], [], [], [], [], [], [], [], [], []] [[], []] [[[(p89, .cells [.i r87, .rs rg r88])]], [[(rg, .abs (regAbs r63))]]] [.rp rg t_, .rp rg t_, .rp rg (rpAdd t_ 6), .bool r97, .bool (!r97), .bool false, .lit undef, .lit undef, .lit undef, .bool false, .bool false, .lit undef, .lit undef, .lit undef, .lit undef, .lit undef, .lit undef, .lit undef, .lit undef, .lit undef, .bool false] (by decide +kernel) Z Z ?_ ?_
      ·exact ⟨ym Z Z Z, yp Z (pu_regCheck Z (tm Z) c61), yp Z (pu_regField Z underlying71 Z sizeOf4 (by decide) (tm Z) c61 Z), stepg_plain Z (op_regLoad (i := 0) (av := .bool r97) Z isAgg4 (tm Z) Z (rLdB_eq r97e) Z ⟨Z, Z⟩), yp Z (pu_not Z (tm Z)), AStepG.cast (ym Z Z Z) (congrArg AV.bool hb98), yx Z Z Z, yx Z Z Z, yx Z Z Z, yp Z (pu_pick (b := false) Z (tm Z) (fun h => nomatch h) (fun _ => (AEv.bool _))), ym Z Z Z, yx Z Z Z, yx Z Z Z, yx Z Z Z, yx Z Z Z, yx Z Z Z, yx Z Z Z, yx Z Z Z, yx Z Z Z, yx Z Z Z, yp Z (pu_pick (b := false) Z (tm Z) (fun h => nomatch h) (fun _ => (AEv.bool _))), trivial⟩
      obtain rfl := some_of h
      exact ⟨(), Weak.mkL [1, 0] (by decide) ⟨⟨_, Z, Z⟩, ⟨_, Z, cr, Z⟩, trivial⟩ ⟨tm Z, tm Z, tm Z, trivial⟩⟩
    ·intro _
     have h := h95
     refine aw_cond (b := s94) (tm Z) (fun hb102 => ?_) (fun hb102 => ?_)
     ·replace h := ite_t hb102 h
      refine aw_region (xm Z Z Z (xa (.ptr p89 0) Z (fa Z underlying67 Z sizeOf3 Z Z Z) (xc Z (op_load1 (i := 1) Z isAgg3 (tm Z) Z Z (xa (.i (IntKind.wrap .i64 (r87 - 1))) Z (pu_int (v := .i (IntKind.wrap .i64 (r87 - 1))) Z Z (tm Z) (AEv.int _ _) Z) ?_)))))
      obtain ⟨r101, r101e, h⟩ := bind_some h
      refine xc Z (op_call (vs := [.rp rg t_, .i (IntKind.wrap .i64 (r87 - 1))]) (H := [(rg, .abs (regAbs r63))]) Z call40 ⟨(tm Z), (tm Z), trivial⟩ (List.Perm.refl _) (dict.Table_string.part.ok r101e rg) ?_)
      rintro _ _ ⟨rfl, rfl⟩
      refine xe ?_
      obtain rfl := some_of h
      exact ⟨(), Weak.mkL [0] (by decide) ⟨⟨_, Z, Z⟩, trivial⟩ trivial⟩
     ·replace h := ite_fb hb102 h
      refine aw_skip ?_
      obtain rfl := some_of h
      exact ⟨(), Weak.mkL [0] (by decide) ⟨⟨_, Z, Z⟩, trivial⟩ trivial⟩
   ·intro _
    have h := h83
    refine xr (xa (.bool true) Z (pu_assign Z (AEv.bool _)) (xe (aw_ret ?_)))
    obtain rfl := some_of h
    exact ⟨[.bool true], _, [(rg, .abs (regAbs s82))], ⟨(tm Z), trivial⟩, vr, Weak.mkL [0] (by decide) ⟨⟨_, Z, Z⟩, trivial⟩ trivial, ⟨Z, Z⟩⟩

theorem field.Drop.ok {t_ : RP} {keys : List (List UInt8)} {mem : Reg} {r : Int × Reg} (h : field.Drop t_ keys mem = some r) (rg : Nat) : Go.Lift.Spec prog 12 [.rp rg t_, .sl .no 1 (keys.map AV.str)] [(rg, .abs (regAbs mem))] (fun v H => v = .i r.1 ∧ H = [(rg, .abs (regAbs r.2))]) := by
 unfold field.Drop at h
 refine Go.Lift.Spec.of_body (rs := [.tmp 4]) func12 Z Z (nb Z) Z (xr (xa (.i 0) Z (pu_assign Z (AEv.int _ _)) (xe (xr (xa (.i 0) Z (pu_assign Z (AEv.int _ _)) (xe ?_))))))
 obtain ⟨s112, s112e, h113⟩ := bind_some h
 refine aw_meet (ν := Unit) (fun v => [(5, .i s112.1)]) (fun v => [(rg, .abs (regAbs s112.2))]) ?_ ?_
 ·have h := s112e
  refine xr (xm Z Z Z (xa (.i (keys.length : Int)) Z (pu_lenM Z underlying25 (tm Z)) (xa (.i 0) Z (pu_move Z (AEv.int _ _)) (xe (aw_block (aw_while (σ := field.Drop.S0) (ν := Unit) (field.Drop.body0 keys t_) (fun s137 v => [(0, .rp rg t_), (5, .i s137.n), (8, .sl .no 1 (keys.map AV.str)), (9, .i (keys.length : Int)), (10, .i s137.t10)]) (fun s137 v => [(rg, .abs (regAbs s137.mem))]) ⟨0, 0, mem⟩ () _ h (Weak.mkL [0] (by decide) ⟨⟨_, Z, Z⟩, trivial⟩ ⟨tm Z, tm Z, tm Z, tm Z, tm Z, trivial⟩) ?_))))))
  rintro s137 _ x139 h hx138
  unfold field.Drop.body0 at h
  refine xr (xa (.bool (decide (s137.t10 < (keys.length : Int)))) Z (pu_int (v := .bool (decide (s137.t10 < (keys.length : Int)))) Z Z (tm Z) (tm Z) Z) (xe (aw_seq (aw_cond (b := decide (s137.t10 < (keys.length : Int))) (tm Z) (fun hb150 => ?_) (fun hb150 => ?_)))))
  ·replace h := ite_t (dec_t hb150) h
   refine aw_skip ?_
   obtain ⟨s144, s144e, h145⟩ := bind_some h
   refine aw_meet (ν := Unit) (fun v => [(0, .rp rg t_), (5, .i s144.1), (8, .sl .no 1 (keys.map AV.str)), (9, .i (keys.length : Int)), (10, .i s137.t10)]) (fun v => [(rg, .abs (regAbs s144.2))]) ?_ ?_
   ·have h := s144e
    refine aw_block (aw_seq (aw_region ?_))
    obtain ⟨c147, h⟩ := need_of h
    refine xa (.vptr [.str (ix keys s137.t10)]) Z (pu_indexAddrM Z underlying25 sizeOf9 (tm Z) (tm Z) c147 Z) (xc Z (op_loadV1 Z isAgg9 (tm Z) Z (xm Z Z Z (xe (xr (xm Z Z Z (xm Z Z Z ?_)))))))
    obtain ⟨r148, r148e, h⟩ := bind_some h
    refine xc Z (op_call (vs := [.rp rg t_, .str (ix keys s137.t10)]) (H := [(rg, .abs (regAbs s137.mem))]) Z call26 ⟨(tm Z), (tm Z), trivial⟩ (List.Perm.refl _) (dict.Table_string.Drop.ok r148e rg) ?_)
    rintro _ _ ⟨rfl, rfl⟩
    refine xe (aw_cond (b := r148.1) (tm Z) (fun hb149 => ?_) (fun hb149 => ?_))
    ·replace h := ite_t hb149 h
     refine aw_region (xm Z Z Z (xa (.i (IntKind.wrap .i64 (s137.n + 1))) Z (pu_int (v := .i (IntKind.wrap .i64 (s137.n + 1))) Z Z (tm Z) (AEv.int _ _) Z) (xm Z Z Z (xe ?_))))
     obtain rfl := some_of h
     exact ⟨(), Weak.mkL [0] (by decide) ⟨⟨_, Z, Z⟩, trivial⟩ ⟨tm Z, (AEv.le (tm Z) vr), tm Z, tm Z, tm Z, trivial⟩⟩
    ·replace h := ite_fb hb149 h
     refine aw_skip ?_
     obtain rfl := some_of h
     exact ⟨(), Weak.mkL [0] (by decide) ⟨⟨_, Z, Z⟩, trivial⟩ ⟨tm Z, tm Z, tm Z, tm Z, tm Z, trivial⟩⟩
   ·intro _
    have h := h145
    refine aw_region (xa (.i (IntKind.wrap .i64 (s137.t10 + 1))) Z (pu_int (v := .i (IntKind.wrap .i64 (s137.t10 + 1))) Z Z (tm Z) (AEv.int _ _) Z) (xm Z Z Z (xe ?_)))
    obtain rfl := some_of h
    exact ⟨_, (), Z, Weak.mkL [0] (by decide) ⟨⟨_, Z, Z⟩, trivial⟩ ⟨tm Z, tm Z, tm Z, tm Z, (AEv.le (tm Z) vr), trivial⟩⟩
  ·replace h := ite_f (dec_f hb150) h
   refine aw_exit ?_
   obtain rfl := some_of h
   have h := congrArg some (hx138 _ rfl)
   obtain rfl := some_of h
   exact ⟨(), Weak.mkL [0] (by decide) ⟨⟨_, Z, Z⟩, trivial⟩ ⟨tm Z, trivial⟩⟩
 ·intro _
  have h := h113
  refine xr (xm Z Z Z (xm Z Z Z (xe (aw_ret ?_))))
  obtain rfl := some_of h
  exact ⟨[.i s112.1], _, [(rg, .abs (regAbs s112.2))], ⟨(tm Z), trivial⟩, vr, Weak.mkL [0] (by decide) ⟨⟨_, Z, Z⟩, trivial⟩ trivial, ⟨Z, Z⟩⟩

theorem num.Parse.ok {s_ : List UInt8} {r : Int × Bool} (h : num.Parse s_ = some r) : Go.Lift.Spec prog 42 [.str s_] [] (fun v H => v = .tup [.i r.1, .bool r.2] ∧ H = []) := by
 unfold num.Parse at h
 refine Go.Lift.Spec.of_body (rs := [.tmp 2, .tmp 3]) func42 Z Z (nb Z) Z (xr (xa (.i 0) Z (pu_assign Z (AEv.int _ _)) (xa (.bool false) Z (pu_assign Z (AEv.bool _)) (xe ?_))))
 obtain ⟨s113, s113e, h114⟩ := bind_some h
 refine aw_meet (ν := Unit) (fun v => [(0, .str s_), (4, .bool s113)]) (fun v => []) ?_ ?_
 ·have h := s113e
  refine aw_region (xm Z Z Z (xa (.bool (!decide (s_ = ([] : List UInt8)))) Z (pu_str (v := .bool (!decide (s_ = ([] : List UInt8)))) Z Z (tm Z) (AEv.const Z) Z) (xm Z Z Z ?_)))
  rcases Bool.eq_false_or_eq_true (!decide (s_ = ([] : List UInt8))) with hb116 | hb116
  ·replace h := ite_f (ndec_t hb116) h
   refine aops_known 11 Z hb116 (xq Z Z Z Z ?_)
   obtain ⟨c117, h⟩ := need_of h
   refine xp (.int .u8 (bix s_ 0)) Z Z (pu_strIdxM Z underlying9 (tm Z) (AEv.int _ _) c117) (xp (.bool (decide ((bix s_ 0) = 45))) Z Z (pu_int (v := .bool (decide ((bix s_ 0) = 45))) Z Z (tm Z) (AEv.int _ _) Z) (xa (.bool (decide ((bix s_ 0) = 45))) Z (pu_pick (b := true) Z (tm Z) (fun _ => (tm Z)) (fun h => nomatch h)) (xm Z Z Z (xe ?_))))
   obtain rfl := some_of h
   exact ⟨(), Weak.mkL [] (by decide) trivial ⟨tm Z, (AEv.le (tm Z) vr), trivial⟩⟩
  ·replace h := ite_t (ndec_f hb116) h
   refine aops_known 11 Z hb116 (xn Z Z Z (xn Z Z Z (xn Z Z Z (xa (.bool false) Z (pu_pick (b := false) Z (tm Z) (fun h => nomatch h) (fun _ => (AEv.bool _))) (xm Z Z Z (xe ?_))))))
   obtain rfl := some_of h
   exact ⟨(), Weak.mkL [] (by decide) trivial ⟨tm Z, tm Z, trivial⟩⟩
 ·intro _
  have h := h114
  refine xr (xm Z Z Z (xm Z Z Z (xe ?_)))
  obtain ⟨s120, s120e, h121⟩ := bind_some h
  refine aw_meet (ν := Unit) (fun v => [(4, .bool s113), (5, .str s120)]) (fun v => []) ?_ ?_
  ·have h := s120e
   refine xr (xm Z Z Z (xe (aw_cond (b := s113) (tm Z) (fun hb124 => ?_) (fun hb124 => ?_))))
   ·replace h := ite_t hb124 h
    refine aw_region (xm Z Z Z ?_)
    obtain ⟨c123, h⟩ := need_of h
    refine xa (.str (sub s_ 1 (s_.length : Int))) Z (pu_strSliceM Z underlying9 (tm Z) ⟨_, (AEv.int _ _)⟩ Z c123) (xm Z Z Z (xe ?_))
    obtain rfl := some_of h
    exact ⟨(), Weak.mkL [] (by decide) trivial ⟨tm Z, (AEv.le (tm Z) vr), trivial⟩⟩
   ·replace h := ite_fb hb124 h
    refine aw_skip ?_
    obtain rfl := some_of h
    exact ⟨(), Weak.mkL [] (by decide) trivial ⟨tm Z, tm Z, trivial⟩⟩
  ·intro _
   have h := h121
   refine aw_seq ?_
   obtain ⟨s130, s130e, h131⟩ := bind_some h
   refine aw_meet (ν := Unit) (fun v => [(4, .bool s113), (5, .str s120), (39, .bool s130)]) (fun v => []) ?_ ?_
   ·have h := s130e
    refine aw_region (xm Z Z Z (xa (.bool (decide (s120 = ([] : List UInt8)))) Z (pu_str (v := .bool (decide (s120 = ([] : List UInt8)))) Z Z (tm Z) (AEv.const Z) Z) (xm Z Z Z ?_)))
    rcases Bool.eq_false_or_eq_true (decide (s120 = ([] : List UInt8))) with hb133 | hb133
    ·replace h := ite_t (dec_t hb133) h
     refine aops_known 22 Z hb133 (xn Z Z Z (xn Z Z Z (xn Z Z Z (xa (.bool true) Z (pu_pick (b := true) Z (tm Z) (fun _ => (AEv.bool _)) (fun h => nomatch h)) (xm Z Z Z (xn Z Z Z (xn Z Z Z (xn Z Z Z (xn Z Z Z ?_)))))))))
     refine xv Z Z (xv Z Z (xv Z Z (xv Z Z (xv Z Z (xv Z Z (xn Z Z Z (xa (.bool true) Z (pu_pick (b := true) Z (tm Z) (fun _ => (AEv.bool _)) (fun h => nomatch h)) (xe ?_))))))))
     obtain rfl := some_of h
     exact ⟨(), Weak.mkL [] (by decide) trivial ⟨tm Z, tm Z, tm Z, trivial⟩⟩
    ·replace h := ite_f (dec_f hb133) h
     refine aops_known 22 Z hb133 (xq Z Z Z Z (xp (.i (s120.length : Int)) Z Z (pu_strLen Z underlying9 (tm Z)) (xp (.bool (decide (19 < (s120.length : Int)))) Z Z (pu_int (v := .bool (decide (19 < (s120.length : Int)))) Z Z (tm Z) (AEv.int _ _) Z) (xa (.bool (decide (19 < (s120.length : Int)))) Z (pu_pick (b := false) Z (tm Z) (fun h => nomatch h) (fun _ => (tm Z))) (xm Z Z Z ?_)))))
     rcases Bool.eq_false_or_eq_true (decide (19 < (s120.length : Int))) with hb134 | hb134
     ·replace h := ite_t (dec_t hb134) h
      refine aops_known 27 Z hb134 (xn Z Z Z (xn Z Z Z (xn Z Z Z (xn Z Z Z (xv Z Z (xv Z Z (xv Z Z (xv Z Z (xv Z Z ?_)))))))))
      refine xv Z Z (xn Z Z Z (xa (.bool true) Z (pu_pick (b := true) Z (tm Z) (fun _ => (AEv.bool _)) (fun h => nomatch h)) (xe ?_)))
      obtain rfl := some_of h
      exact ⟨(), Weak.mkL [] (by decide) trivial ⟨tm Z, tm Z, tm Z, trivial⟩⟩
     ·replace h := ite_f (dec_f hb134) h
      refine aops_known 27 Z hb134 (xq Z Z Z Z ?_)
      obtain ⟨c135, h⟩ := need_of h
      refine xp (.int .u8 (bix s120 0)) Z Z (pu_strIdxM Z underlying9 (tm Z) (AEv.int _ _) c135) (xp (.bool (decide ((bix s120 0) = 48))) Z Z (pu_int (v := .bool (decide ((bix s120 0) = 48))) Z Z (tm Z) (AEv.int _ _) Z) (xq Z Z Z Z ?_))
      rcases Bool.eq_false_or_eq_true (decide ((bix s120 0) = 48)) with hb136 | hb136
      ·replace h := ite_t (dec_t hb136) h
       refine aops_known 31 Z hb136 (xq Z Z Z Z (xq Z Z Z Z ?_))
       rcases Bool.eq_false_or_eq_true s113 with hb137 | hb137
       ·replace h := ite_t hb137 h
        refine aops_known 33 Z hb137 (xn Z Z Z (xn Z Z Z (xn Z Z Z (xp (.bool true) Z Z (pu_pick (b := true) Z (tm Z) (fun _ => (AEv.bool _)) (fun h => nomatch h)) (xp (.bool true) Z Z (pu_pick (b := true) Z (tm Z) (fun _ => (tm Z)) (fun h => nomatch h)) (xa (.bool true) Z (pu_pick (b := false) Z (tm Z) (fun h => nomatch h) (fun _ => (tm Z))) (xe ?_)))))))
        obtain rfl := some_of h
        exact ⟨(), Weak.mkL [] (by decide) trivial ⟨tm Z, tm Z, tm Z, trivial⟩⟩
       ·replace h := ite_fb hb137 h
        refine aops_known 33 Z hb137 (xq Z Z Z Z (xp (.i (s120.length : Int)) Z Z (pu_strLen Z underlying9 (tm Z)) (xp (.bool (decide (1 < (s120.length : Int)))) Z Z (pu_int (v := .bool (decide (1 < (s120.length : Int)))) Z Z (tm Z) (AEv.int _ _) Z) (xp (.bool (decide (1 < (s120.length : Int)))) Z Z (pu_pick (b := false) Z (tm Z) (fun h => nomatch h) (fun _ => (tm Z))) (xp (.bool (decide (1 < (s120.length : Int)))) Z Z (pu_pick (b := true) Z (tm Z) (fun _ => (tm Z)) (fun h => nomatch h)) (xa (.bool (decide (1 < (s120.length : Int)))) Z (pu_pick (b := false) Z (tm Z) (fun h => nomatch h) (fun _ => (tm Z))) (xe ?_)))))))
        obtain rfl := some_of h
        exact ⟨(), Weak.mkL [] (by decide) trivial ⟨tm Z, tm Z, (AEv.le (tm Z) vr), trivial⟩⟩
      ·replace h := ite_f (dec_f hb136) h
       refine aops_known 31 Z hb136 (xn Z Z Z (xn Z Z Z (xv Z Z (xv Z Z (xv Z Z (xn Z Z Z (xp (.bool false) Z Z (pu_pick (b := false) Z (tm Z) (fun h => nomatch h) (fun _ => (AEv.bool _))) (xa (.bool false) Z (pu_pick (b := false) Z (tm Z) (fun h => nomatch h) (fun _ => (tm Z))) (xe ?_)))))))))
       obtain rfl := some_of h
       exact ⟨(), Weak.mkL [] (by decide) trivial ⟨tm Z, tm Z, tm Z, trivial⟩⟩
   ·intro _
    have h := h131
    refine aw_cond (b := s130) (tm Z) (fun hb220 => ?_) (fun hb220 => ?_)
    ·replace h := ite_t hb220 h
     refine xr (xa (.i 0) Z (pu_assign Z (AEv.int _ _)) (xa (.bool false) Z (pu_assign Z (AEv.bool _)) (xe (aw_ret ?_))))
     obtain rfl := some_of h
     exact ⟨[.i 0, .bool false], _, [], ⟨(tm Z), (tm Z), trivial⟩, vr, Weak.mkL [] (by decide) trivial trivial, ⟨Z, Z⟩⟩
    ·replace h := ite_fb hb220 h
     refine aw_skip (xr (xa (.int .u64 0) Z (pu_assign Z (AEv.int _ _)) (xe ?_)))
     obtain ⟨s219, s219e, h172⟩ := bind_some h
     refine aw_join (σ := Int) (ν := Unit) (fun u v => [(4, .bool s113), (6, .int .u64 u)]) (fun u v => []) (fun u => s219 = .inl u) ?_ ?_
     ·intro s171
      intro _
      rintro rfl
      have h := onSum_inl h172
      refine aw_seq (aw_block ?_)
      obtain ⟨s208, s208e, h209⟩ := letO_of h
      refine aw_meet (ν := Unit) (fun v => [(4, .bool s113), (6, .int .u64 s171), (61, .bool s208)]) (fun v => []) ?_ ?_
      ·have h := s208e.symm
       refine aw_region (xm Z Z Z (xm Z Z Z ?_))
       rcases Bool.eq_false_or_eq_true s113 with hb211 | hb211
       ·replace h := ite_t hb211 h
        refine aops_known 63 Z hb211 (xq Z Z Z Z (xp (.bool (decide (s171 ≤ 9223372036854775808))) Z Z (pu_int (v := .bool (decide (s171 ≤ 9223372036854775808))) Z Z (tm Z) (AEv.int _ _) Z) (xa (.bool (decide (s171 ≤ 9223372036854775808))) Z (pu_pick (b := true) Z (tm Z) (fun _ => (tm Z)) (fun h => nomatch h)) (xm Z Z Z (xe ?_)))))
        subst h
        exact ⟨(), Weak.mkL [] (by decide) trivial ⟨tm Z, tm Z, (AEv.le (tm Z) vr), trivial⟩⟩
       ·replace h := ite_fb hb211 h
        refine aops_known 63 Z hb211 (xn Z Z Z (xn Z Z Z (xa (.bool false) Z (pu_pick (b := false) Z (tm Z) (fun h => nomatch h) (fun _ => (AEv.bool _))) (xm Z Z Z (xe ?_)))))
        subst h
        exact ⟨(), Weak.mkL [] (by decide) trivial ⟨tm Z, tm Z, tm Z, trivial⟩⟩
      ·intro _
       have h := h209
       refine aw_cond (b := s208) (tm Z) (fun hb218 => ?_) (fun hb218 => ?_)
       ·replace h := ite_t hb218 h
        refine xr (xm Z Z Z (xa (.i (IntKind.wrap .i64 s171)) Z (pu_conv Z underlying22 underlying2 (tm Z)) (xa (.i (IntKind.wrap .i64 (0 - (IntKind.wrap .i64 s171)))) Z (pu_neg Z (tm Z)) (xm Z Z Z (xa (.bool true) Z (pu_assign Z (AEv.bool _)) (xe (aw_ret ?_)))))))
        obtain rfl := some_of h
        exact ⟨[.i (IntKind.wrap .i64 (0 - (IntKind.wrap .i64 s171))), .bool true], _, [], ⟨(tm Z), (tm Z), trivial⟩, vr, Weak.mkL [] (by decide) trivial trivial, ⟨Z, Z⟩⟩
       ·replace h := ite_fb hb218 h
        obtain ⟨s213, s213e, h214⟩ := letO_of h
        refine aw_meet (ν := Unit) (fun v => [(6, .int .u64 s171), (70, .bool s213)]) (fun v => []) ?_ ?_
        ·have h := s213e.symm
         refine aw_region (xm Z Z Z (xm Z Z Z ?_))
         rcases Bool.eq_false_or_eq_true s113 with hb216 | hb216
         ·replace h := ite_t hb216 h
          refine aops_known 72 Z hb216 (xn Z Z Z (xn Z Z Z (xa (.bool true) Z (pu_pick (b := true) Z (tm Z) (fun _ => (AEv.bool _)) (fun h => nomatch h)) (xm Z Z Z (xe ?_)))))
          subst h
          exact ⟨(), Weak.mkL [] (by decide) trivial ⟨tm Z, tm Z, trivial⟩⟩
         ·replace h := ite_fb hb216 h
          refine aops_known 72 Z hb216 (xq Z Z Z Z (xp (.bool (decide (9223372036854775808 ≤ s171))) Z Z (pu_int (v := .bool (decide (9223372036854775808 ≤ s171))) Z Z (tm Z) (AEv.int _ _) Z) (xa (.bool (decide (9223372036854775808 ≤ s171))) Z (pu_pick (b := false) Z (tm Z) (fun h => nomatch h) (fun _ => (tm Z))) (xm Z Z Z (xe ?_)))))
          subst h
          exact ⟨(), Weak.mkL [] (by decide) trivial ⟨tm Z, (AEv.le (tm Z) vr), trivial⟩⟩
        ·intro _
         have h := h214
         refine aw_cond (b := s213) (tm Z) (fun hb217 => ?_) (fun hb217 => ?_)
         ·replace h := ite_t hb217 h
          refine xr (xa (.i 0) Z (pu_assign Z (AEv.int _ _)) (xa (.bool false) Z (pu_assign Z (AEv.bool _)) (xe (aw_ret ?_))))
          obtain rfl := some_of h
          exact ⟨[.i 0, .bool false], _, [], ⟨(tm Z), (tm Z), trivial⟩, vr, Weak.mkL [] (by decide) trivial trivial, ⟨Z, Z⟩⟩
         ·replace h := ite_fb hb217 h
          refine aw_skip (xr (xm Z Z Z (xa (.i (IntKind.wrap .i64 s171)) Z (pu_conv Z underlying22 underlying2 (tm Z)) (xm Z Z Z (xa (.bool true) Z (pu_assign Z (AEv.bool _)) (xe (aw_ret ?_)))))))
          obtain rfl := some_of h
          exact ⟨[.i (IntKind.wrap .i64 s171), .bool true], _, [], ⟨(tm Z), (tm Z), trivial⟩, vr, Weak.mkL [] (by decide) trivial trivial, ⟨Z, Z⟩⟩
     ·have h := s219e
      refine xr (xm Z Z Z (xa (.i (s120.length : Int)) Z (pu_strLen Z underlying9 (tm Z)) (xa (.i 0) Z (pu_move Z (AEv.int _ _)) (xe (aw_block (aw_while (σ := num.Parse.S0) (ν := Unit) (num.Parse.body0 s120) (fun s194 v => [(4, .bool s113), (5, .str s120), (6, .int .u64 s194.n), (41, .i (s120.length : Int)), (42, .i s194.t42)]) (fun s194 v => []) ⟨0, 0⟩ () _ h (Weak.mkL [] (by decide) trivial ⟨tm Z, tm Z, tm Z, tm Z, tm Z, trivial⟩) ?_))))))
      rintro s194 _ x196 h hx195
      unfold num.Parse.body0 at h
      refine xr (xa (.bool (decide (s194.t42 < (s120.length : Int)))) Z (pu_int (v := .bool (decide (s194.t42 < (s120.length : Int)))) Z Z (tm Z) (tm Z) Z) (xe (aw_seq (aw_cond (b := decide (s194.t42 < (s120.length : Int))) (tm Z) (fun hb206 => ?_) (fun hb206 => ?_)))))
      ·replace h := ite_t (dec_t hb206) h
       refine aw_skip (aw_seq (aw_block (xr (xm Z Z Z (xm Z Z Z (xe (aw_seq (aw_region ?_))))))))
       refine xm Z Z Z (xm Z Z Z ?_)
       obtain ⟨c198, h⟩ := need_of h
       refine xa (.int .u8 (bix s120 s194.t42)) Z (pu_strIdxM Z underlying9 (tm Z) (tm Z) c198) (xm Z Z Z (xe (aw_seq ?_)))
       obtain ⟨s200, s200e, h201⟩ := letO_of h
       refine aw_meet (ν := Unit) (fun v => [(4, .bool s113), (5, .str s120), (6, .int .u64 s194.n), (8, .int .u8 (bix s120 s194.t42)), (41, .i (s120.length : Int)), (42, .i s194.t42), (53, .bool s200)]) (fun v => []) ?_ ?_
       ·have h := s200e.symm
        refine aw_region (xm Z Z Z (xa (.bool (decide ((bix s120 s194.t42) < 48))) Z (pu_int (v := .bool (decide ((bix s120 s194.t42) < 48))) Z Z (tm Z) (AEv.int _ _) Z) (xm Z Z Z ?_)))
        rcases Bool.eq_false_or_eq_true (decide ((bix s120 s194.t42) < 48)) with hb203 | hb203
        ·replace h := ite_t (dec_t hb203) h
         refine aops_known 50 Z hb203 (xn Z Z Z (xn Z Z Z (xa (.bool true) Z (pu_pick (b := true) Z (tm Z) (fun _ => (AEv.bool _)) (fun h => nomatch h)) (xe ?_))))
         subst h
         exact ⟨(), Weak.mkL [] (by decide) trivial ⟨tm Z, tm Z, tm Z, tm Z, tm Z, tm Z, tm Z, trivial⟩⟩
        ·replace h := ite_f (dec_f hb203) h
         refine aops_known 50 Z hb203 (xq Z Z Z Z (xp (.bool (decide (57 < (bix s120 s194.t42)))) Z Z (pu_int (v := .bool (decide (57 < (bix s120 s194.t42)))) Z Z (tm Z) (AEv.int _ _) Z) (xa (.bool (decide (57 < (bix s120 s194.t42)))) Z (pu_pick (b := false) Z (tm Z) (fun h => nomatch h) (fun _ => (tm Z))) (xe ?_))))
         subst h
         exact ⟨(), Weak.mkL [] (by decide) trivial ⟨tm Z, tm Z, tm Z, tm Z, tm Z, tm Z, (AEv.le (tm Z) vr), trivial⟩⟩
       ·intro _
        have h := h201
        refine aw_cond (b := s200) (tm Z) (fun hb205 => ?_) (fun hb205 => ?_)
        ·replace h := ite_t hb205 h
         refine xr (xa (.i 0) Z (pu_assign Z (AEv.int _ _)) (xa (.bool false) Z (pu_assign Z (AEv.bool _)) (xe (aw_ret ?_))))
         obtain rfl := some_of h
         have h := congrArg some (hx195 _ rfl)
         obtain rfl := some_of h
         have h := onSum_inr h172
         obtain rfl := some_of h
         exact ⟨[.i 0, .bool false], _, [], ⟨(tm Z), (tm Z), trivial⟩, vr, Weak.mkL [] (by decide) trivial trivial, ⟨Z, Z⟩⟩
        ·replace h := ite_fb hb205 h
         refine aw_skip (aw_region (xm Z Z Z (xa (.int .u64 (IntKind.wrap .u64 (s194.n * 10))) Z (pu_int (v := .int .u64 (IntKind.wrap .u64 (s194.n * 10))) Z Z (tm Z) (AEv.int _ _) Z) (xm Z Z Z (xa (.int .u8 (IntKind.wrap .u8 ((bix s120 s194.t42) - 48))) Z (pu_int (v := .int .u8 (IntKind.wrap .u8 ((bix s120 s194.t42) - 48))) Z Z (tm Z) (AEv.int _ _) Z) (xa (.int .u64 (IntKind.wrap .u64 (IntKind.wrap .u8 ((bix s120 s194.t42) - 48)))) Z (pu_conv Z underlying5 underlying22 (tm Z)) ?_))))))
         obtain ⟨x204, x204e, h⟩ := letO_of h
         refine xa (.int .u64 x204) Z (APure.eq (pu_int (v := .int .u64 (IntKind.wrap .u64 ((IntKind.wrap .u64 (s194.n * 10)) + (IntKind.wrap .u64 (IntKind.wrap .u8 ((bix s120 s194.t42) - 48)))))) Z Z (tm Z) (tm Z) Z) (congrArg (AV.int .u64) x204e.symm)) (xm Z Z Z (xe (aw_region (xa (.i (IntKind.wrap .i64 (s194.t42 + 1))) Z (pu_int (v := .i (IntKind.wrap .i64 (s194.t42 + 1))) Z Z (tm Z) (AEv.int _ _) Z) (xm Z Z Z (xe ?_))))))
         obtain rfl := some_of h
         exact ⟨_, (), Z, Weak.mkL [] (by decide) trivial ⟨tm Z, tm Z, tm Z, tm Z, (AEv.le (tm Z) vr), trivial⟩⟩
      ·replace h := ite_f (dec_f hb206) h
       refine aw_exit ?_
       obtain rfl := some_of h
       have h := congrArg some (hx195 _ rfl)
       exact ⟨s194.n, (), (some_of h).symm, Weak.mkL [] (by decide) trivial ⟨tm Z, tm Z, trivial⟩⟩

theorem num.Add.ok {a : Int} {b : Int} {r : Int × Bool} (h : num.Add a b = some r) : Go.Lift.Spec prog 43 [.i a, .i b] [] (fun v H => v = .tup [.i r.1, .bool r.2] ∧ H = []) := by
 unfold num.Add at h
 refine Go.Lift.Spec.of_body (rs := [.tmp 4, .tmp 5]) func43 Z Z (nb Z) Z (xr (xa (.i 0) Z (pu_assign Z (AEv.int _ _)) (xa (.bool false) Z (pu_assign Z (AEv.bool _)) (xe (xr (xm Z Z Z (xm Z Z Z ?_)))))))
 refine xa (.i (IntKind.wrap .i64 (a + b))) Z (pu_int (v := .i (IntKind.wrap .i64 (a + b))) Z Z (tm Z) (tm Z) Z) (xm Z Z Z (xe (aw_seq ?_)))
 obtain ⟨s8, s8e, h9⟩ := letO_of h
 refine aw_meet (ν := Unit) (fun v => [(6, .i (IntKind.wrap .i64 (a + b))), (19, .bool s8)]) (fun v => []) ?_ ?_
 ·have h := s8e.symm
  refine aw_region (xm Z Z Z (xm Z Z Z (xa (.bool (decide (a < (IntKind.wrap .i64 (a + b))))) Z (pu_int (v := .bool (decide (a < (IntKind.wrap .i64 (a + b))))) Z Z (tm Z) (tm Z) Z) (xm Z Z Z (xa (.bool (decide (0 < b))) Z (pu_int (v := .bool (decide (0 < b))) Z Z (tm Z) (AEv.int _ _) Z) (xa (.bool (!((decide (a < (IntKind.wrap .i64 (a + b)))) == (decide (0 < b))))) Z (pu_boolNe Z underlying4 (tm Z) (tm Z)) (xm Z Z Z ?_)))))))
  rcases Bool.eq_false_or_eq_true (!((decide (a < (IntKind.wrap .i64 (a + b)))) == (decide (0 < b)))) with hb11 | hb11
  ·replace h := ite_t hb11 h
   refine aops_known 16 Z hb11 (xq Z Z Z Z (xp (.bool (!decide (b = 0))) Z Z (pu_int (v := .bool (!decide (b = 0))) Z Z (tm Z) (AEv.int _ _) Z) (xa (.bool (!decide (b = 0))) Z (pu_pick (b := true) Z (tm Z) (fun _ => (tm Z)) (fun h => nomatch h)) (xe ?_))))
   subst h
   exact ⟨(), Weak.mkL [] (by decide) trivial ⟨tm Z, tm Z, trivial⟩⟩
  ·replace h := ite_fb hb11 h
   refine aops_known 16 Z hb11 (xn Z Z Z (xn Z Z Z (xa (.bool false) Z (pu_pick (b := false) Z (tm Z) (fun h => nomatch h) (fun _ => (AEv.bool _))) (xe ?_))))
   subst h
   exact ⟨(), Weak.mkL [] (by decide) trivial ⟨tm Z, tm Z, trivial⟩⟩
 ·intro _
  have h := h9
  refine aw_cond (b := s8) (tm Z) (fun hb12 => ?_) (fun hb12 => ?_)
  ·replace h := ite_t hb12 h
   refine xr (xa (.i 0) Z (pu_assign Z (AEv.int _ _)) (xa (.bool false) Z (pu_assign Z (AEv.bool _)) (xe (aw_ret ?_))))
   obtain rfl := some_of h
   exact ⟨[.i 0, .bool false], _, [], ⟨(tm Z), (tm Z), trivial⟩, vr, Weak.mkL [] (by decide) trivial trivial, ⟨Z, Z⟩⟩
  ·replace h := ite_fb hb12 h
   refine aw_skip (xr (xm Z Z Z (xm Z Z Z (xa (.bool true) Z (pu_assign Z (AEv.bool _)) (xe (aw_ret ?_))))))
   obtain rfl := some_of h
   exact ⟨[.i (IntKind.wrap .i64 (a + b)), .bool true], _, [], ⟨(tm Z), (tm Z), trivial⟩, vr, Weak.mkL [] (by decide) trivial trivial, ⟨Z, Z⟩⟩

theorem num.Text.ok {n_ : Int} {r : List UInt8} (h : num.Text n_ = some r) : Go.Lift.Spec prog 44 [.i n_] [] (fun v H => v = .str r ∧ H = []) := by
 unfold num.Text at h
 refine Go.Lift.Spec.of_body (rs := [.tmp 2]) func44 Z Z (nb Z) Z (xr (xa (.str ([] : List UInt8)) Z (pu_assign Z (AEv.const Z)) (xe (xr (xc Z (op_allocArr (len := 20) (sz := 1) (zs := [.int .u8 0, .int .u8 0, .int .u8 0, .int .u8 0, .int .u8 0, .int .u8 0, .int .u8 0, .int .u8 0, .int .u8 0, .int .u8 0, .int .u8 0, .int .u8 0, .int .u8 0, .int .u8 0, .int .u8 0, .int .u8 0, .int .u8 0, .int .u8 0, .int .u8 0, .int .u8 0]) byteAV (0 : UInt8) Z zeroValue111 Z Z Z (by decide) Z ?_))))))
 intro p67
 refine xe (xr (xa (.i 20) Z (pu_assign Z (AEv.int _ _)) (xe (xr (xm Z Z Z (xa (.int .u64 (IntKind.wrap .u64 n_)) Z (pu_conv Z underlying2 underlying22 (tm Z)) (xm Z Z Z ?_)))))))
 refine xe ?_
 obtain ⟨s69, s69e, h70⟩ := letO_of h
 refine aw_meet (ν := Unit) (fun v => [(0, .i n_), (3, .eptr p67 0 0), (4, .i 20), (5, .int .u64 s69)]) (fun v => [(p67, .vec 1 ((List.replicate 20 (0 : UInt8)).map byteAV))]) ?_ ?_
 ·have h := s69e.symm
  refine xr (xm Z Z Z (xa (.bool (decide (n_ < 0))) Z (pu_int (v := .bool (decide (n_ < 0))) Z Z (tm Z) (AEv.int _ _) Z) (xe (aw_cond (b := decide (n_ < 0)) (tm Z) (fun hb72 => ?_) (fun hb72 => ?_)))))
  ·replace h := ite_t (dec_t hb72) h
   refine aw_region (xm Z Z Z (xa (.int .u64 (IntKind.wrap .u64 (0 - (IntKind.wrap .u64 n_)))) Z (pu_neg Z (tm Z)) (xm Z Z Z (xe ?_))))
   subst h
   exact ⟨(), Weak.mkL [0] (by decide) ⟨⟨_, Z, Z⟩, trivial⟩ ⟨tm Z, tm Z, tm Z, (AEv.le (tm Z) vr), trivial⟩⟩
  ·replace h := ite_f (dec_f hb72) h
   refine aw_skip ?_
   subst h
   exact ⟨(), Weak.mkL [0] (by decide) ⟨⟨_, Z, Z⟩, trivial⟩ ⟨tm Z, tm Z, tm Z, (AEv.le (tm Z) vr), trivial⟩⟩
 ·intro _
  have h := h70
  obtain ⟨s94, s94e, h95⟩ := bind_some h
  refine aw_meet (ν := Unit) (fun v => [(0, .i n_), (3, .eptr p67 0 0), (4, .i s94.1)]) (fun v => [(p67, .vec 1 (s94.2.map byteAV))]) ?_ ?_
  ·have h := s94e
   refine aw_block (aw_while (σ := num.Text.S0) (ν := Unit) num.Text.body0 (fun s109 v => [(0, .i n_), (3, .eptr p67 0 0), (4, .i s109.at_), (5, .int .u64 s109.u)]) (fun s109 v => [(p67, .vec 1 (s109.v.map byteAV))]) ⟨20, s69, List.replicate 20 (0 : UInt8)⟩ () _ h (Weak.mkL [0] (by decide) ⟨⟨_, Z, Z⟩, trivial⟩ ⟨tm Z, tm Z, tm Z, tm Z, trivial⟩) ?_)
   rintro s109 _ x111 h hx110
   unfold num.Text.body0 at h
   refine aw_block (xr (xm Z Z Z (xa (.i (IntKind.wrap .i64 (s109.at_ - 1))) Z (pu_int (v := .i (IntKind.wrap .i64 (s109.at_ - 1))) Z Z (tm Z) (AEv.int _ _) Z) (xm Z Z Z (xe (xr (xm Z Z Z ?_)))))))
   refine xm Z Z Z (xa (.int .u64 (s109.u.tmod 10)) Z (pu_rem Z (tm Z) (AEv.int _ _) (by decide)) (xa (.int .u64 (IntKind.wrap .u64 (48 + (s109.u.tmod 10)))) Z (pu_int (v := .int .u64 (IntKind.wrap .u64 (48 + (s109.u.tmod 10)))) Z Z (AEv.int _ _) (tm Z) Z) (xa (.int .u8 (IntKind.wrap .u8 (IntKind.wrap .u64 (48 + (s109.u.tmod 10))))) Z (pu_conv Z underlying22 underlying5 (tm Z)) ?_)))
   obtain ⟨c113, h⟩ := need_of h
   obtain ⟨c114, h⟩ := need_of h
   refine xc Z (op_indexAddrArr (len := 20) (j := 0) Z underlying111 sizeOf5 (tm Z) Z (tm Z) c114 c113 ?_)
   obtain ⟨c115, h⟩ := need_of h
   obtain ⟨c116, h⟩ := need_of h
   refine ac0 Z Z (op_storeEM (i := 0) (sz := 1) (y' := u8 (IntKind.wrap .u8 (IntKind.wrap .u64 (48 + (s109.u.tmod 10))))) Z sizeOf5 (tm Z) (v := .int .u8 (IntKind.wrap .u8 (IntKind.wrap .u64 (48 + (s109.u.tmod 10))))) (tm Z) Z c115 Z Z (by decide) (congrArg AV.cells (byteAV_u8 c116.1 c116.2)) (xe (xr (xm Z Z Z (xa (.int .u64 (IntKind.wrap .u64 (s109.u.tdiv 10))) Z (pu_quo Z (tm Z) (AEv.int _ _) (by decide)) (xm Z Z Z (xe (aw_seq (aw_region ?_)))))))))
   refine xm Z Z Z (xa (.bool (decide ((IntKind.wrap .u64 (s109.u.tdiv 10)) = 0))) Z (pu_int (v := .bool (decide ((IntKind.wrap .u64 (s109.u.tdiv 10)) = 0))) Z Z (tm Z) (AEv.int _ _) Z) (xe (aw_cond (b := decide ((IntKind.wrap .u64 (s109.u.tdiv 10)) = 0)) (tm Z) (fun hb117 => ?_) (fun hb117 => ?_))))
   ·replace h := ite_t (dec_t hb117) h
    refine aw_exit ?_
    obtain rfl := some_of h
    have h := congrArg some (hx110 _ rfl)
    obtain rfl := some_of h
    exact ⟨(), Weak.mkL [0] (by decide) ⟨⟨_, Z, Z⟩, trivial⟩ ⟨tm Z, tm Z, (AEv.le (tm Z) vr), trivial⟩⟩
   ·replace h := ite_f (dec_f hb117) h
    refine aw_skip ?_
    obtain rfl := some_of h
    exact ⟨_, (), Z, Weak.mkL [0] (by decide) ⟨⟨_, Z, Z⟩, trivial⟩ ⟨tm Z, tm Z, (AEv.le (tm Z) vr), (AEv.le (tm Z) vr), trivial⟩⟩
  ·intro _
   have h := h95
   obtain ⟨s123, s123e, h124⟩ := bind_some h
   refine aw_meet (ν := Unit) (fun v => [(3, .eptr p67 0 0), (4, .i s123.1)]) (fun v => [(p67, .vec 1 (s123.2.map byteAV))]) ?_ ?_
   ·have h := s123e
    refine xr (xm Z Z Z (xa (.bool (decide (n_ < 0))) Z (pu_int (v := .bool (decide (n_ < 0))) Z Z (tm Z) (AEv.int _ _) Z) (xe (aw_cond (b := decide (n_ < 0)) (tm Z) (fun hb130 => ?_) (fun hb130 => ?_)))))
    ·replace h := ite_t (dec_t hb130) h
     refine xr (xm Z Z Z (xa (.i (IntKind.wrap .i64 (s94.1 - 1))) Z (pu_int (v := .i (IntKind.wrap .i64 (s94.1 - 1))) Z Z (tm Z) (AEv.int _ _) Z) (xm Z Z Z (xe (aw_region (xm Z Z Z ?_))))))
     obtain ⟨c126, h⟩ := need_of h
     obtain ⟨c127, h⟩ := need_of h
     refine xc Z (op_indexAddrArr (len := 20) (j := 0) Z underlying111 sizeOf5 (tm Z) Z (tm Z) c127 c126 ?_)
     obtain ⟨c128, h⟩ := need_of h
     obtain ⟨c129, h⟩ := need_of h
     refine ac0 Z Z (op_storeEM (i := 0) (sz := 1) (y' := u8 45) Z sizeOf5 (tm Z) (v := .int .u8 45) (AEv.int _ _) Z c128 Z Z (by decide) (congrArg AV.cells (byteAV_u8 c129.1 c129.2)) (xe ?_))
     obtain rfl := some_of h
     exact ⟨(), Weak.mkL [0] (by decide) ⟨⟨_, Z, Z⟩, trivial⟩ ⟨tm Z, (AEv.le (tm Z) vr), trivial⟩⟩
    ·replace h := ite_f (dec_f hb130) h
     refine aw_skip ?_
     obtain rfl := some_of h
     exact ⟨(), Weak.mkL [0] (by decide) ⟨⟨_, Z, Z⟩, trivial⟩ ⟨tm Z, tm Z, trivial⟩⟩
   ·intro _
    have h := h124
    refine xr (xm Z Z Z ?_)
    obtain ⟨c131, h⟩ := need_of h
    obtain ⟨c132, h⟩ := need_of h
    refine xc Z (op_sliceArr (q := 0) (len := 20) Z underlying111 sizeOf5 (tm Z) Z (by rw [List.length_map]; exact c132) ⟨_, (tm Z)⟩ (by rw [List.length_map]; rfl) (by rw [List.length_map]; exact c131) (map_sub byteAV _ _) (xc Z (op_bytesStr Z underlying112 underlying5 underlying9 (tm Z) (xm Z Z Z (xe (aw_ret ?_))))))
    obtain rfl := some_of h
    exact ⟨[.str (sub s123.2 s123.1 (s123.2.length : Int))], _, [], ⟨(tm Z), trivial⟩, vr, Weak.mkL [] (by decide) trivial trivial, ⟨Z, Z⟩⟩

theorem str.Add.ok {s_ : List UInt8} {by_ : Int} {r : (List UInt8) × Int} (h : str.Add s_ by_ = some r) : Go.Lift.Spec prog 31 [.str s_, .i by_] [] (fun v H => v = .tup [.str r.1, .i r.2] ∧ H = []) := by
 unfold str.Add at h
 refine Go.Lift.Spec.of_body (rs := [.tmp 4, .tmp 5]) func31 Z Z (nb Z) Z (xr (xa (.str ([] : List UInt8)) Z (pu_assign Z (AEv.const Z)) (xa (.i 0) Z (pu_assign Z (AEv.int _ _)) (xe (xr (xm Z Z Z ?_))))))
 obtain ⟨r6, r6e, h⟩ := bind_some h
 refine xc Z (op_call (vs := [.str s_]) (H := []) Z call42 ⟨(tm Z), trivial⟩ (List.Perm.refl _) (num.Parse.ok r6e) ?_)
 rintro _ _ ⟨rfl, rfl⟩
 refine xm Z Z Z (xa (.i r6.1) Z (pu_extract Z (tm Z) (nb Z) Z) (xa (.bool r6.2) Z (pu_extract Z (tm Z) (nb Z) Z) (xm Z Z Z (xm Z Z Z (xe (aw_seq (xr (xm Z Z Z ?_))))))))
 refine xa (.bool (!r6.2)) Z (pu_not Z (tm Z)) (xe (aw_cond (b := (!r6.2)) (tm Z) (fun hb10 => ?_) (fun hb10 => ?_)))
 ·replace h := ite_t hb10 h
  refine xr (xa (.str ([] : List UInt8)) Z (pu_assign Z (AEv.const Z)) (xa (.i 2) Z (pu_assign Z (AEv.int _ _)) (xe (aw_ret ?_))))
  obtain rfl := some_of h
  exact ⟨[.str ([] : List UInt8), .i 2], _, [], ⟨(tm Z), (tm Z), trivial⟩, vr, Weak.mkL [] (by decide) trivial trivial, ⟨Z, Z⟩⟩
 ·replace h := ite_fb hb10 h
  refine aw_skip (aw_seq (xr (xm Z Z Z (xm Z Z Z ?_))))
  obtain ⟨r7, r7e, h⟩ := bind_some h
  refine xc Z (op_call (vs := [.i r6.1, .i by_]) (H := []) Z call43 ⟨(tm Z), (tm Z), trivial⟩ (List.Perm.refl _) (num.Add.ok r7e) ?_)
  rintro _ _ ⟨rfl, rfl⟩
  refine xm Z Z Z (xa (.i r7.1) Z (pu_extract Z (tm Z) (nb Z) Z) (xa (.bool r7.2) Z (pu_extract Z (tm Z) (nb Z) Z) (xm Z Z Z (xm Z Z Z (xe (xr (xm Z Z Z (xa (.bool (!r7.2)) Z (pu_not Z (tm Z)) ?_))))))))
  refine xe (aw_cond (b := (!r7.2)) (tm Z) (fun hb9 => ?_) (fun hb9 => ?_))
  ·replace h := ite_t hb9 h
   refine xr (xa (.str ([] : List UInt8)) Z (pu_assign Z (AEv.const Z)) (xa (.i 13) Z (pu_assign Z (AEv.int _ _)) (xe (aw_ret ?_))))
   obtain rfl := some_of h
   exact ⟨[.str ([] : List UInt8), .i 13], _, [], ⟨(tm Z), (tm Z), trivial⟩, vr, Weak.mkL [] (by decide) trivial trivial, ⟨Z, Z⟩⟩
  ·replace h := ite_fb hb9 h
   refine aw_skip (xr (xm Z Z Z ?_))
   obtain ⟨r8, r8e, h⟩ := bind_some h
   refine xc Z (op_call (vs := [.i r7.1]) (H := []) Z call44 ⟨(tm Z), trivial⟩ (List.Perm.refl _) (num.Text.ok r8e) ?_)
   rintro _ _ ⟨rfl, rfl⟩
   refine xm Z Z Z (xa (.i 0) Z (pu_assign Z (AEv.int _ _)) (xe (aw_ret ?_)))
   obtain rfl := some_of h
   exact ⟨[.str r8, .i 0], _, [], ⟨(tm Z), (tm Z), trivial⟩, vr, Weak.mkL [] (by decide) trivial trivial, ⟨Z, Z⟩⟩

theorem field.Add.ok {t_ : RP} {key : List UInt8} {by_ : Int} {mem : Reg} {r : (List UInt8) × Int × Reg} (h : field.Add t_ key by_ mem = some r) (rg : Nat) : Go.Lift.Spec prog 18 [.rp rg t_, .str key, .i by_] [(rg, .abs (regAbs mem))] (fun v H => v = .tup [.str r.1, .i r.2.1] ∧ H = [(rg, .abs (regAbs r.2.2))]) := by
 unfold field.Add at h
 refine Go.Lift.Spec.of_body (rs := [.tmp 6, .tmp 7]) func18 Z Z (nb Z) Z (xr (xa (.str ([] : List UInt8)) Z (pu_assign Z (AEv.const Z)) (xa (.i 0) Z (pu_assign Z (AEv.int _ _)) (xe (aw_seq (xr (xm Z Z Z ?_)))))))
 refine xa (.bool t_.isNone) Z (pu_regNil Z underlying30 (tm Z) AEv.nilp) (xe (aw_cond (b := t_.isNone) (tm Z) (fun hb30 => ?_) (fun hb30 => ?_)))
 ·replace h := ite_t hb30 h
  refine xr (xa (.str ([] : List UInt8)) Z (pu_assign Z (AEv.const Z)) (xa (.i 8) Z (pu_assign Z (AEv.int _ _)) (xe (aw_ret ?_))))
  obtain rfl := some_of h
  exact ⟨[.str ([] : List UInt8), .i 8], _, [(rg, .abs (regAbs mem))], ⟨(tm Z), (tm Z), trivial⟩, vr, Weak.mkL [0] (by decide) ⟨⟨_, Z, Z⟩, trivial⟩ trivial, ⟨Z, Z⟩⟩
 ·replace h := ite_fb hb30 h
  refine aw_skip (xr (xm Z Z Z (xm Z Z Z ?_)))
  obtain ⟨r16, r16e, h⟩ := bind_some h
  refine xc Z (op_call (vs := [.rp rg t_, .str key]) (H := [(rg, .abs (regAbs mem))]) Z call25 ⟨(tm Z), (tm Z), trivial⟩ (List.Perm.refl _) (dict.Table_string.Get.ok r16e rg) ?_)
  rintro _ _ ⟨rfl, rfl⟩
  refine xm Z Z Z (xa (.str r16.1) Z (pu_extract Z (tm Z) (nb Z) Z) (xa (.bool r16.2) Z (pu_extract Z (tm Z) (nb Z) Z) (xm Z Z Z (xm Z Z Z (xe ?_)))))
  obtain ⟨s18, s18e, h19⟩ := letO_of h
  refine aw_meet (ν := Unit) (fun v => [(0, .rp rg t_), (1, .str key), (2, .i by_), (8, .str s18)]) (fun v => [(rg, .abs (regAbs mem))]) ?_ ?_
  ·have h := s18e.symm
   refine xr (xm Z Z Z (xa (.bool (!r16.2)) Z (pu_not Z (tm Z)) (xe (aw_cond (b := (!r16.2)) (tm Z) (fun hb21 => ?_) (fun hb21 => ?_)))))
   ·replace h := ite_t hb21 h
    refine aw_region (xa (.str [48]) Z (pu_assign Z (AEv.const Z)) (xe ?_))
    subst h
    exact ⟨(), Weak.mkL [0] (by decide) ⟨⟨_, Z, Z⟩, trivial⟩ ⟨tm Z, tm Z, tm Z, tm Z, trivial⟩⟩
   ·replace h := ite_fb hb21 h
    refine aw_skip ?_
    subst h
    exact ⟨(), Weak.mkL [0] (by decide) ⟨⟨_, Z, Z⟩, trivial⟩ ⟨tm Z, tm Z, tm Z, tm Z, trivial⟩⟩
  ·intro _
   have h := h19
   refine xr (xm Z Z Z (xm Z Z Z ?_))
   obtain ⟨r22, r22e, h⟩ := bind_some h
   refine xc Z (op_call (vs := [.str s18, .i by_]) (H := []) Z call31 ⟨(tm Z), (tm Z), trivial⟩ (List.Perm.refl _) (str.Add.ok r22e) ?_)
   rintro _ _ ⟨rfl, rfl⟩
   refine xm Z Z Z (xa (.str r22.1) Z (pu_extract Z (tm Z) (nb Z) Z) (xa (.i r22.2) Z (pu_extract Z (tm Z) (nb Z) Z) (xm Z Z Z (xm Z Z Z (xe ?_)))))
   obtain ⟨s25, s25e, h26⟩ := bind_some h
   refine aw_meet (ν := Unit) (fun v => [(10, .str r22.1), (11, .i r22.2)]) (fun v => [(rg, .abs (regAbs s25))]) ?_ ?_
   ·have h := s25e
    refine xr (xm Z Z Z (xa (.bool (decide (r22.2 = 0))) Z (pu_int (v := .bool (decide (r22.2 = 0))) Z Z (tm Z) (AEv.int _ _) Z) (xe (aw_cond (b := decide (r22.2 = 0)) (tm Z) (fun hb29 => ?_) (fun hb29 => ?_)))))
    ·replace h := ite_t (dec_t hb29) h
     refine aw_region (xm Z Z Z (xm Z Z Z (xm Z Z Z ?_)))
     obtain ⟨r28, r28e, h⟩ := bind_some h
     refine xc Z (op_call (vs := [.rp rg t_, .str key, .str r22.1]) (H := [(rg, .abs (regAbs mem))]) Z call28 ⟨(tm Z), (tm Z), (tm Z), trivial⟩ (List.Perm.refl _) (dict.Table_string.Put.ok r28e rg) ?_)
     rintro _ _ ⟨rfl, rfl⟩
     refine xe ?_
     obtain rfl := some_of h
     exact ⟨(), Weak.mkL [0] (by decide) ⟨⟨_, Z, Z⟩, trivial⟩ ⟨tm Z, tm Z, trivial⟩⟩
    ·replace h := ite_f (dec_f hb29) h
     refine aw_skip ?_
     obtain rfl := some_of h
     exact ⟨(), Weak.mkL [0] (by decide) ⟨⟨_, Z, Z⟩, trivial⟩ ⟨tm Z, tm Z, trivial⟩⟩
   ·intro _
    have h := h26
    refine xr (xm Z Z Z (xm Z Z Z (xm Z Z Z (xm Z Z Z (xe (aw_ret ?_))))))
    obtain rfl := some_of h
    exact ⟨[.str r22.1, .i r22.2], _, [(rg, .abs (regAbs s25))], ⟨(tm Z), (tm Z), trivial⟩, vr, Weak.mkL [0] (by decide) ⟨⟨_, Z, Z⟩, trivial⟩ trivial, ⟨Z, Z⟩⟩

theorem mewslaw22.Far.ok {l : List mewslaw22.Op} {r : Bool} (h : mewslaw22.Far l = some r) : Go.Lift.Spec prog 13 [.sl .no 3 (l.map mewslaw22.Op.av)] [] (fun v H => v = .bool r ∧ H = []) := by
 unfold mewslaw22.Far at h
 refine Go.Lift.Spec.of_body (rs := [.tmp 2]) func13 Z Z (nb Z) Z (xr (xa (.bool false) Z (pu_assign Z (AEv.bool _)) (xe (xr (xa (.sl .full 5 (([] : List api.Value).map api.Value.av)) Z (pu_assign Z (AEv.nil 5 (by decide))) (xe ?_))))))
 obtain ⟨s78, s78e, h80⟩ := bind_some h
 refine aw_meet (ν := Nat) (fun v => [(3, .sl (.own v) 5 (s78.map api.Value.av))]) (fun v => [(v, .spare)]) ?_ ?_
 ·have h := s78e
  refine xr (xm Z Z Z (xa (.i (l.length : Int)) Z (pu_lenM Z underlying40 (tm Z)) (xa (.i 0) Z (pu_move Z (AEv.int _ _)) (xe (aw_block (aw_claim 3 (tm Z) fun t105 => (aw_while (σ := mewslaw22.Far.S0) (ν := Nat) (mewslaw22.Far.body0 l) (fun s95 v => [(3, .sl (.own v) 5 (s95.all_.map api.Value.av)), (6, .sl .no 3 (l.map mewslaw22.Op.av)), (7, .i (l.length : Int)), (8, .i s95.t8)]) (fun s95 v => [(v, .spare)]) ⟨([] : List api.Value), 0⟩ t105 _ h (Weak.mkL [0] (by decide) ⟨⟨_, Z, Z⟩, trivial⟩ ⟨tm Z, tm Z, tm Z, tm Z, trivial⟩) ?_)))))))
  rintro s95 n96 x98 h hx97
  unfold mewslaw22.Far.body0 at h
  refine xr (xa (.bool (decide (s95.t8 < (l.length : Int)))) Z (pu_int (v := .bool (decide (s95.t8 < (l.length : Int)))) Z Z (tm Z) (tm Z) Z) (xe (aw_seq (aw_cond (b := decide (s95.t8 < (l.length : Int))) (tm Z) (fun hb104 => ?_) (fun hb104 => ?_)))))
  ·replace h := ite_t (dec_t hb104) h
   refine aw_skip (aw_seq (aw_block (aw_seq (aw_region ?_))))
   obtain ⟨c100, h⟩ := need_of h
   refine xa (.vptr [.i (ix l s95.t8).Kind, .sl .no 2 ((ix l s95.t8).Fields.map api.Field.av), .i (ix l s95.t8).By]) Z (pu_indexAddrM Z underlying40 sizeOf44 (tm Z) (tm Z) c100 Z) (xc Z (op_loadVN Z isAgg44 sizeOf44 (tm Z) (nb Z) Z (xc Z (op_alloc (cs := [.i 0, .sl .full 2 (([] : List api.Field).map api.Field.av), .i 0]) (v := .agg [.i 0, .sl .full 2 (([] : List api.Field).map api.Field.av), .i 0]) Z zeroValue44 Z Z Z ?_))))
   intro p101
   refine ac0 Z Z (op_store (i := 0) (cs' := [.i (ix l s95.t8).Kind, .sl .no 2 ((ix l s95.t8).Fields.map api.Field.av), .i (ix l s95.t8).By]) Z sizeOf44 (tm Z) (v := .agg [.i (ix l s95.t8).Kind, .sl .no 2 ((ix l s95.t8).Fields.map api.Field.av), .i (ix l s95.t8).By]) (tm Z) Z Z Z (nb Z) Z (xe (aw_region (xm Z Z Z (xa (.ptr p101 1) Z (fa Z underlying44 Z sizeOf23 Z Z Z) (xc Z (op_load1 (i := 0) Z isAgg23 (tm Z) Z Z (xa (.agg (api.Value.ct .full .no .full ({ Kind := 0, Text := ([] : List UInt8), List_ := ([] : List (List UInt8)), Hash := (ix l s95.t8).Fields, ZSet := ([] : List api.Scored) } : api.Value))) Z (pu_build (zs := [.i 0, .str ([] : List UInt8), .sl .full 1 (([] : List (List UInt8)).map AV.str), .sl .full 2 (([] : List api.Field).map api.Field.av), .sl .full 2 (([] : List api.Scored).map api.Scored.av)]) (szs := [1, 1, 1, 1, 1]) (aparts := [(3, .sl .no 2 ((ix l s95.t8).Fields.map api.Field.av))]) (cs := [.i 0, .str ([] : List UInt8), .sl .full 1 (([] : List (List UInt8)).map AV.str), .sl .no 2 ((ix l s95.t8).Fields.map api.Field.av), .sl .full 2 (([] : List api.Scored).map api.Scored.av)]) Z underlying28 zeroValue28 Z ⟨sizeOf3, sizeOf9, sizeOf25, sizeOf23, sizeOf26, trivial⟩ ⟨Z, (tm Z), trivial⟩ Z) (xc Z (op_buildSlice (xs := ([({ Kind := 0, Text := ([] : List UInt8), List_ := ([] : List (List UInt8)), Hash := (ix l s95.t8).Fields, ZSet := ([] : List api.Scored) } : api.Value)] : List api.Value).map api.Value.av) (aparts := [(0, .agg (api.Value.ct .no .no .no ({ Kind := 0, Text := ([] : List UInt8), List_ := ([] : List (List UInt8)), Hash := (ix l s95.t8).Fields, ZSet := ([] : List api.Scored) } : api.Value)))]) Z underlying58 sizeOf28 zeroValue28 (by decide) (by decide) ⟨Z, (AEv.le (tm Z) (AV.Le.agg ⟨vr, vr, (AV.Le.forget _ _ _), vr, (AV.Le.forget _ _ _), trivial⟩)), trivial⟩ Z Z Z ?_))))))))))
   obtain ⟨c102, h⟩ := need_of h
   refine xc Z (op_appendOM (q := 1) Z underlying58 underlying58 (.inl Z) typeInfo28 Z Z Z (by decide) (tm Z) Z (given_sl (tm Z)) c102 ?_)
   intro t103
   refine xm Z Z Z (xe (aw_region (xa (.i (IntKind.wrap .i64 (s95.t8 + 1))) Z (pu_int (v := .i (IntKind.wrap .i64 (s95.t8 + 1))) Z Z (tm Z) (AEv.int _ _) Z) (xm Z Z Z (xe ?_)))))
   obtain rfl := some_of h
   exact ⟨_, t103, Z, Weak.mkL [1] (by decide) ⟨⟨_, Z, Z⟩, trivial⟩ ⟨(AEv.le (tm Z) vr), tm Z, tm Z, (AEv.le (tm Z) vr), trivial⟩⟩
  ·replace h := ite_f (dec_f hb104) h
   refine aw_exit ?_
   obtain rfl := some_of h
   have h := congrArg some (hx97 _ rfl)
   obtain rfl := some_of h
   exact ⟨n96, Weak.mkL [0] (by decide) ⟨⟨_, Z, Z⟩, trivial⟩ ⟨tm Z, trivial⟩⟩
 ·intro n79
  have h := h80
  refine xr (xm Z Z Z ?_)
  obtain ⟨r106, r106e, h⟩ := bind_some h
  refine xc Z (op_call (vs := [.sl .no 5 (s78.map api.Value.av)]) (H := []) Z call6 ⟨(AEv.le (tm Z) (AV.Le.forget _ _ _)), trivial⟩ (List.Perm.refl _) (mewslaw19.Far.ok r106e) ?_)
  rintro _ _ ⟨rfl, rfl⟩
  refine xm Z Z Z (xe (aw_ret ?_))
  obtain rfl := some_of h
  exact ⟨[.bool r106], _, [], ⟨(tm Z), trivial⟩, vr, Weak.mkL [] (by decide) trivial trivial, ⟨Z, Z⟩⟩

theorem mewsref22.Has.ok {l : List api.Field} {key : List UInt8} {r : (List UInt8) × Bool} (h : mewsref22.Has l key = some r) : Go.Lift.Spec prog 29 [.sl .no 2 (l.map api.Field.av), .str key] [] (fun v H => v = .tup [.str r.1, .bool r.2] ∧ H = []) := by
 unfold mewsref22.Has at h
 refine Go.Lift.Spec.of_body (rs := [.tmp 4, .tmp 5]) func29 Z Z (nb Z) Z (xr (xa (.str ([] : List UInt8)) Z (pu_assign Z (AEv.const Z)) (xa (.bool false) Z (pu_assign Z (AEv.bool _)) (xe ?_))))
 obtain ⟨s80, s80e, h60⟩ := bind_some h
 refine aw_join (σ := Unit) (ν := Unit) (fun u v => []) (fun u v => []) (fun u => s80 = .inl u) ?_ ?_
 ·intro s59
  intro _
  rintro rfl
  have h := onSum_inl h60
  refine xr (xa (.str ([] : List UInt8)) Z (pu_assign Z (AEv.const Z)) (xa (.bool false) Z (pu_assign Z (AEv.bool _)) (xe (aw_ret ?_))))
  obtain rfl := some_of h
  exact ⟨[.str ([] : List UInt8), .bool false], _, [], ⟨(tm Z), (tm Z), trivial⟩, vr, Weak.mkL [] (by decide) trivial trivial, ⟨Z, Z⟩⟩
 ·have h := s80e
  refine xr (xa (.i 0) Z (pu_assign Z (AEv.int _ _)) (xe (aw_block (aw_while (σ := mewsref22.Has.S0) (ν := Unit) (mewsref22.Has.body0 l key) (fun s72 v => [(0, .sl .no 2 (l.map api.Field.av)), (1, .str key), (6, .i s72.i)]) (fun s72 v => []) ⟨0⟩ () _ h (Weak.mkL [] (by decide) trivial ⟨tm Z, tm Z, tm Z, trivial⟩) ?_))))
  rintro s72 _ x74 h hx73
  unfold mewsref22.Has.body0 at h
  refine aw_seq (xr (xm Z Z Z (xm Z Z Z (xa (.i (l.length : Int)) Z (pu_lenM Z underlying23 (tm Z)) (xa (.bool (decide (s72.i < (l.length : Int)))) Z (pu_int (v := .bool (decide (s72.i < (l.length : Int)))) Z Z (tm Z) (tm Z) Z) (xe (aw_cond (b := decide (s72.i < (l.length : Int))) (tm Z) (fun hb79 => ?_) (fun hb79 => ?_))))))))
  ·replace h := ite_t (dec_t hb79) h
   refine aw_skip (aw_seq (aw_block (xr (xm Z Z Z (xm Z Z Z ?_)))))
   obtain ⟨c76, h⟩ := need_of h
   refine xa (.vptr [.str (ix l s72.i).Key, .str (ix l s72.i).Val]) Z (pu_indexAddrM Z underlying23 sizeOf34 (tm Z) (tm Z) c76 Z) (xa (.vptr [.str (ix l s72.i).Key, .str (ix l s72.i).Val]) Z (fa Z underlying34 Z sizeOf9 Z Z Z) (xc Z (op_loadV1 Z isAgg9 (tm Z) Z (xm Z Z Z (xa (.bool (decide ((ix l s72.i).Key = key))) Z (pu_str (v := .bool (decide ((ix l s72.i).Key = key))) Z Z (tm Z) (tm Z) Z) (xe (aw_cond (b := decide ((ix l s72.i).Key = key)) (tm Z) (fun hb78 => ?_) (fun hb78 => ?_))))))))
   ·replace h := ite_t (dec_t hb78) h
    refine xr (xm Z Z Z (xm Z Z Z ?_))
    obtain ⟨c77, h⟩ := need_of h
    refine xa (.vptr [.str (ix l s72.i).Key, .str (ix l s72.i).Val]) Z (pu_indexAddrM Z underlying23 sizeOf34 (tm Z) (tm Z) c77 Z) (xa (.vptr [.str (ix l s72.i).Val]) Z (fa Z underlying34 Z sizeOf9 Z Z Z) (xc Z (op_loadV1 Z isAgg9 (tm Z) Z (xm Z Z Z (xa (.bool true) Z (pu_assign Z (AEv.bool _)) (xe (aw_ret ?_)))))))
    obtain rfl := some_of h
    have h := congrArg some (hx73 _ rfl)
    obtain rfl := some_of h
    have h := onSum_inr h60
    obtain rfl := some_of h
    exact ⟨[.str (ix l s72.i).Val, .bool true], _, [], ⟨(tm Z), (tm Z), trivial⟩, vr, Weak.mkL [] (by decide) trivial trivial, ⟨Z, Z⟩⟩
   ·replace h := ite_f (dec_f hb78) h
    refine aw_skip (aw_region (xm Z Z Z (xa (.i (IntKind.wrap .i64 (s72.i + 1))) Z (pu_int (v := .i (IntKind.wrap .i64 (s72.i + 1))) Z Z (tm Z) (AEv.int _ _) Z) (xm Z Z Z (xe ?_)))))
    obtain rfl := some_of h
    exact ⟨_, (), Z, Weak.mkL [] (by decide) trivial ⟨tm Z, tm Z, (AEv.le (tm Z) vr), trivial⟩⟩
  ·replace h := ite_f (dec_f hb79) h
   refine aw_exit ?_
   obtain rfl := some_of h
   have h := congrArg some (hx73 _ rfl)
   exact ⟨(), (), (some_of h).symm, Weak.mkL [] (by decide) trivial trivial⟩

theorem mewsref19.Put.ok {l : List api.Field} {f : api.Field} {r : List api.Field} (h : mewsref19.Put l f = some r) : Go.Lift.Spec prog 30 [.sl .no 2 (l.map api.Field.av), .agg [.str f.Key, .str f.Val]] [] (fun v H => ∃ n0, v = .sl (.own n0) 2 (r.map api.Field.av) ∧ H = [(n0, .spare)]) := by
 unfold mewsref19.Put at h
 refine Go.Lift.Spec.of_body (rs := [.tmp 4]) func30 Z Z (nb Z) Z (xr (xc Z (op_box (cs := [.str f.Key, .str f.Val]) (v := .agg [.str f.Key, .str f.Val]) Z (tm Z) Z Z ?_)))
 intro p92
 refine xa (.sl .full 2 (([] : List api.Field).map api.Field.av)) Z (pu_assign Z (AEv.nil 2 (by decide))) (xe (xr (xa (.i 0) Z (pu_assign Z (AEv.int _ _)) (xe ?_))))
 obtain ⟨s123, s123e, h124⟩ := bind_some h
 refine aw_meet (ν := Unit) (fun v => [(0, .sl .no 2 (l.map api.Field.av)), (3, .ptr p92 0), (5, .i s123)]) (fun v => [(p92, .cells [.str f.Key, .str f.Val])]) ?_ ?_
 ·have h := s123e
  refine aw_block (aw_while (σ := mewsref19.Put.S0) (ν := Unit) (mewsref19.Put.body0 l f) (fun s144 v => [(0, .sl .no 2 (l.map api.Field.av)), (3, .ptr p92 0), (5, .i s144.i)]) (fun s144 v => [(p92, .cells [.str f.Key, .str f.Val])]) ⟨0⟩ () _ h (Weak.mkL [0] (by decide) ⟨⟨_, Z, cr, Z⟩, trivial⟩ ⟨tm Z, tm Z, tm Z, trivial⟩) ?_)
  rintro s144 _ x146 h hx145
  unfold mewsref19.Put.body0 at h
  refine aw_seq ?_
  obtain ⟨s150, s150e, h151⟩ := bind_some h
  refine aw_meet (ν := Unit) (fun v => [(0, .sl .no 2 (l.map api.Field.av)), (3, .ptr p92 0), (5, .i s144.i), (20, .bool s150)]) (fun v => [(p92, .cells [.str f.Key, .str f.Val])]) ?_ ?_
  ·have h := s150e
   rcases Bool.eq_false_or_eq_true (decide (s144.i < (l.length : Int))) with hb153 | hb153
   ·replace h := ite_t (dec_t hb153) h
    obtain ⟨c154, h⟩ := need_of h
    refine aw_planR (by decide +kernel) [[], [], [], [], [], [], [], [], [], [], [], [(0, 0, false)], [], []] [[]] [[[(p92, .cells [.str f.Key, .str f.Val])]]] [.i s144.i, .sl .no 2 (l.map api.Field.av), .i (l.length : Int), .bool (decide (s144.i < (l.length : Int))), .bool true, .sl .no 2 (l.map api.Field.av), .i s144.i, .vptr [.str (ix l s144.i).Key, .str (ix l s144.i).Val], .vptr [.str (ix l s144.i).Key, .str (ix l s144.i).Val], .str (ix l s144.i).Key, .ptr p92 0, .str f.Key, .bool (strLt (ix l s144.i).Key f.Key), .bool (strLt (ix l s144.i).Key f.Key)] (by decide +kernel) Z Z ?_ ?_
    ·exact ⟨ym Z Z Z, ym Z Z Z, yp Z (pu_lenM Z underlying23 (tm Z)), yp Z (pu_int (v := .bool (decide (s144.i < (l.length : Int)))) Z Z (tm Z) (tm Z) Z), AStepG.cast (ym Z Z Z) (congrArg AV.bool hb153), yq Z Z (pu_move Z (tm Z)), yq Z Z (pu_move Z (tm Z)), yq Z Z (pu_indexAddrM Z underlying23 sizeOf34 (tm Z) (tm Z) c154 Z), yq Z Z (fa Z underlying34 Z sizeOf9 Z Z Z), yg Z Z (op_loadV1 Z isAgg9 (tm Z) Z ⟨Z, Z⟩), yq Z Z (fa Z underlying34 Z sizeOf9 Z Z Z), yg Z Z (op_load1 (i := 0) Z isAgg9 (tm Z) Z Z ⟨Z, Z⟩), yq Z Z (pu_str (v := .bool (strLt (ix l s144.i).Key f.Key)) Z Z (tm Z) (tm Z) Z), yp Z (pu_pick (b := true) Z (tm Z) (fun _ => (tm Z)) (fun h => nomatch h)), trivial⟩
    obtain rfl := some_of h
    exact ⟨(), Weak.mkL [0] (by decide) ⟨⟨_, Z, cr, Z⟩, trivial⟩ ⟨tm Z, tm Z, tm Z, (AEv.le (tm Z) vr), trivial⟩⟩
   ·replace h := ite_f (dec_f hb153) h
    refine aw_planR (by decide +kernel) [[], [], [], [], [], [], [], [], [], [], [], [], [], []] [[]] [[[(p92, .cells [.str f.Key, .str f.Val])]]] [.i s144.i, .sl .no 2 (l.map api.Field.av), .i (l.length : Int), .bool (decide (s144.i < (l.length : Int))), .bool false, .lit undef, .lit undef, .lit undef, .lit undef, .lit undef, .lit undef, .lit undef, .lit undef, .bool false] (by decide +kernel) Z Z ?_ ?_
    ·exact ⟨ym Z Z Z, ym Z Z Z, yp Z (pu_lenM Z underlying23 (tm Z)), yp Z (pu_int (v := .bool (decide (s144.i < (l.length : Int)))) Z Z (tm Z) (tm Z) Z), AStepG.cast (ym Z Z Z) (congrArg AV.bool hb153), yx Z Z Z, yx Z Z Z, yx Z Z Z, yx Z Z Z, yx Z Z Z, yx Z Z Z, yx Z Z Z, yx Z Z Z, yp Z (pu_pick (b := false) Z (tm Z) (fun h => nomatch h) (fun _ => (AEv.bool _))), trivial⟩
    obtain rfl := some_of h
    exact ⟨(), Weak.mkL [0] (by decide) ⟨⟨_, Z, cr, Z⟩, trivial⟩ ⟨tm Z, tm Z, tm Z, tm Z, trivial⟩⟩
  ·intro _
   have h := h151
   refine aw_cond (b := s150) (tm Z) (fun hb155 => ?_) (fun hb155 => ?_)
   ·replace h := ite_t hb155 h
    refine aw_skip (aw_block (aw_region (xm Z Z Z (xa (.i (IntKind.wrap .i64 (s144.i + 1))) Z (pu_int (v := .i (IntKind.wrap .i64 (s144.i + 1))) Z Z (tm Z) (AEv.int _ _) Z) (xm Z Z Z (xe ?_))))))
    obtain rfl := some_of h
    exact ⟨_, (), Z, Weak.mkL [0] (by decide) ⟨⟨_, Z, cr, Z⟩, trivial⟩ ⟨tm Z, tm Z, (AEv.le (tm Z) vr), trivial⟩⟩
   ·replace h := ite_fb hb155 h
    refine aw_exit ?_
    obtain rfl := some_of h
    have h := congrArg some (hx145 _ rfl)
    obtain rfl := some_of h
    exact ⟨(), Weak.mkL [0] (by decide) ⟨⟨_, Z, cr, Z⟩, trivial⟩ ⟨tm Z, tm Z, tm Z, trivial⟩⟩
 ·intro _
  have h := h124
  refine xr (xm Z Z Z (xm Z Z Z ?_))
  obtain ⟨c156, h⟩ := need_of h
  refine xa (.sl .no 2 ((sub l 0 s123).map api.Field.av)) Z (pu_sliceM Z underlying23 sizeOf34 (tm Z) Z ⟨_, (tm Z)⟩ c156) ?_
  obtain ⟨c157, h⟩ := need_of h
  refine xc Z (op_appendFM Z underlying23 underlying23 (.inl Z) typeInfo34 Z Z Z (by decide) (AEv.nil 2 (by decide)) (given_sl (tm Z)) c157 ?_)
  intro t158
  refine xm Z Z Z (xe (xr (xm Z Z Z (xc Z (op_loadN (i := 1) Z isAgg34 sizeOf34 (tm Z) Z (nb Z) Z (xc Z (op_buildSlice (xs := ([f] : List api.Field).map api.Field.av) (aparts := [(0, .agg [.str f.Key, .str f.Val])]) Z underlying23 sizeOf34 zeroValue34 (by decide) (by decide) ⟨Z, (tm Z), trivial⟩ Z Z Z ?_)))))))
  obtain ⟨c159, h⟩ := need_of h
  refine xc Z (op_appendOM (q := 0) Z underlying23 underlying23 (.inl Z) typeInfo34 Z Z Z (by decide) (tm Z) Z (given_sl (tm Z)) c159 ?_)
  intro t160
  refine xm Z Z Z (xe ?_)
  obtain ⟨s169, s169e, h170⟩ := bind_some h
  refine aw_meet (ν := Unit) (fun v => [(0, .sl .no 2 (l.map api.Field.av)), (5, .i s169), (6, .sl (.own t160) 2 (((([] : List api.Field) ++ (sub l 0 s123)) ++ [f]).map api.Field.av))]) (fun v => [(t160, .spare)]) ?_ ?_
  ·have h := s169e
   obtain ⟨s174, s174e, h175⟩ := bind_some h
   refine aw_meet (ν := Unit) (fun v => [(0, .sl .no 2 (l.map api.Field.av)), (5, .i s123), (6, .sl (.own t160) 2 (((([] : List api.Field) ++ (sub l 0 s123)) ++ [f]).map api.Field.av)), (44, .bool s174)]) (fun v => [(t160, .spare)]) ?_ ?_
   ·have h := s174e
    rcases Bool.eq_false_or_eq_true (decide (s123 < (l.length : Int))) with hb177 | hb177
    ·replace h := ite_t (dec_t hb177) h
     obtain ⟨c178, h⟩ := need_of h
     refine aw_planR (by decide +kernel) [[], [], [], [], [], [], [], [], [], [], [], [(1, 0, false)], [], []] [[], []] [[[(t160, .spare)]], [[(p92, .cells [.str f.Key, .str f.Val])]]] [.i s123, .sl .no 2 (l.map api.Field.av), .i (l.length : Int), .bool (decide (s123 < (l.length : Int))), .bool true, .sl .no 2 (l.map api.Field.av), .i s123, .vptr [.str (ix l s123).Key, .str (ix l s123).Val], .vptr [.str (ix l s123).Key, .str (ix l s123).Val], .str (ix l s123).Key, .ptr p92 0, .str f.Key, .bool (decide ((ix l s123).Key = f.Key)), .bool (decide ((ix l s123).Key = f.Key))] (by decide +kernel) Z Z ?_ ?_
     ·exact ⟨ym Z Z Z, ym Z Z Z, yp Z (pu_lenM Z underlying23 (tm Z)), yp Z (pu_int (v := .bool (decide (s123 < (l.length : Int)))) Z Z (tm Z) (tm Z) Z), AStepG.cast (ym Z Z Z) (congrArg AV.bool hb177), yq Z Z (pu_move Z (tm Z)), yq Z Z (pu_move Z (tm Z)), yq Z Z (pu_indexAddrM Z underlying23 sizeOf34 (tm Z) (tm Z) c178 Z), yq Z Z (fa Z underlying34 Z sizeOf9 Z Z Z), yg Z Z (op_loadV1 Z isAgg9 (tm Z) Z ⟨Z, Z⟩), yq Z Z (fa Z underlying34 Z sizeOf9 Z Z Z), yg Z Z (op_load1 (i := 0) Z isAgg9 (tm Z) Z Z ⟨Z, Z⟩), yq Z Z (pu_str (v := .bool (decide ((ix l s123).Key = f.Key))) Z Z (tm Z) (tm Z) Z), yp Z (pu_pick (b := true) Z (tm Z) (fun _ => (tm Z)) (fun h => nomatch h)), trivial⟩
     obtain rfl := some_of h
     exact ⟨(), Weak.mkL [0] (by decide) ⟨⟨_, Z, Z⟩, trivial⟩ ⟨tm Z, tm Z, tm Z, (AEv.le (tm Z) vr), trivial⟩⟩
    ·replace h := ite_f (dec_f hb177) h
     refine aw_planR (by decide +kernel) [[], [], [], [], [], [], [], [], [], [], [], [], [], []] [[], []] [[[(t160, .spare)]], [[(p92, .cells [.str f.Key, .str f.Val])]]] [.i s123, .sl .no 2 (l.map api.Field.av), .i (l.length : Int), .bool (decide (s123 < (l.length : Int))), .bool false, .lit undef, .lit undef, .lit undef, .lit undef, .lit undef, .lit undef, .lit undef, .lit undef, .bool false] (by decide +kernel) Z Z ?_ ?_
     ·exact ⟨ym Z Z Z, ym Z Z Z, yp Z (pu_lenM Z underlying23 (tm Z)), yp Z (pu_int (v := .bool (decide (s123 < (l.length : Int)))) Z Z (tm Z) (tm Z) Z), AStepG.cast (ym Z Z Z) (congrArg AV.bool hb177), yx Z Z Z, yx Z Z Z, yx Z Z Z, yx Z Z Z, yx Z Z Z, yx Z Z Z, yx Z Z Z, yx Z Z Z, yp Z (pu_pick (b := false) Z (tm Z) (fun h => nomatch h) (fun _ => (AEv.bool _))), trivial⟩
     obtain rfl := some_of h
     exact ⟨(), Weak.mkL [0] (by decide) ⟨⟨_, Z, Z⟩, trivial⟩ ⟨tm Z, tm Z, tm Z, tm Z, trivial⟩⟩
   ·intro _
    have h := h175
    refine aw_cond (b := s174) (tm Z) (fun hb179 => ?_) (fun hb179 => ?_)
    ·replace h := ite_t hb179 h
     refine aw_region (xm Z Z Z (xa (.i (IntKind.wrap .i64 (s123 + 1))) Z (pu_int (v := .i (IntKind.wrap .i64 (s123 + 1))) Z Z (tm Z) (AEv.int _ _) Z) (xm Z Z Z (xe ?_))))
     obtain rfl := some_of h
     exact ⟨(), Weak.mkL [0] (by decide) ⟨⟨_, Z, Z⟩, trivial⟩ ⟨tm Z, (AEv.le (tm Z) vr), tm Z, trivial⟩⟩
    ·replace h := ite_fb hb179 h
     refine aw_skip ?_
     obtain rfl := some_of h
     exact ⟨(), Weak.mkL [0] (by decide) ⟨⟨_, Z, Z⟩, trivial⟩ ⟨tm Z, tm Z, tm Z, trivial⟩⟩
  ·intro _
   have h := h170
   refine xr (xm Z Z Z (xm Z Z Z (xm Z Z Z ?_)))
   obtain ⟨c180, h⟩ := need_of h
   refine xa (.sl .no 2 ((sub l s169 (l.length : Int)).map api.Field.av)) Z (pu_sliceM Z underlying23 sizeOf34 (tm Z) ⟨_, (tm Z)⟩ Z c180) ?_
   obtain ⟨c181, h⟩ := need_of h
   refine xc Z (op_appendOM (q := 0) Z underlying23 underlying23 (.inl Z) typeInfo34 Z Z Z (by decide) (tm Z) Z (given_sl (tm Z)) c181 ?_)
   intro t182
   refine xm Z Z Z (xe (aw_ret ?_))
   obtain rfl := some_of h
   exact ⟨[.sl (.own t182) 2 ((((([] : List api.Field) ++ (sub l 0 s123)) ++ [f]) ++ (sub l s169 (l.length : Int))).map api.Field.av)], _, [(t182, .spare)], ⟨(tm Z), trivial⟩, vr, Weak.mkL [0] (by decide) ⟨⟨_, Z, Z⟩, trivial⟩ trivial, ⟨t182, Z, Z⟩⟩

theorem mewsref22.Put.ok {l : List api.Field} {fields : List api.Field} {r : (List api.Field) × Int} (h : mewsref22.Put l fields = some r) : Go.Lift.Spec prog 16 [.sl .no 2 (l.map api.Field.av), .sl .no 2 (fields.map api.Field.av)] [] (fun v H => v = .tup [.sl .no 2 (r.1.map api.Field.av), .i r.2] ∧ H = []) := by
 unfold mewsref22.Put at h
 refine Go.Lift.Spec.of_body (rs := [.tmp 4, .tmp 5]) func16 Z Z (nb Z) Z (xr (xa (.sl .full 2 (([] : List api.Field).map api.Field.av)) Z (pu_assign Z (AEv.nil 2 (by decide))) (xa (.i 0) Z (pu_assign Z (AEv.int _ _)) (xe (xr (xa (.i 0) Z (pu_assign Z (AEv.int _ _)) (xe ?_)))))))
 obtain ⟨s121, s121e, h122⟩ := bind_some h
 refine aw_meet (ν := Unit) (fun v => [(0, .sl .no 2 (s121.1.map api.Field.av)), (6, .i s121.2)]) (fun v => []) ?_ ?_
 ·have h := s121e
  refine xr (xa (.i 0) Z (pu_assign Z (AEv.int _ _)) (xe (aw_block (aw_while (σ := mewsref22.Put.S0) (ν := Unit) (mewsref22.Put.body0 fields) (fun s148 v => [(0, .sl .no 2 (s148.l.map api.Field.av)), (1, .sl .no 2 (fields.map api.Field.av)), (6, .i s148.n), (7, .i s148.i)]) (fun s148 v => []) ⟨l, 0, 0⟩ () _ h (Weak.mkL [] (by decide) trivial ⟨tm Z, tm Z, tm Z, tm Z, trivial⟩) ?_))))
  rintro s148 _ x150 h hx149
  unfold mewsref22.Put.body0 at h
  refine aw_seq (xr (xm Z Z Z (xm Z Z Z (xa (.i (fields.length : Int)) Z (pu_lenM Z underlying23 (tm Z)) (xa (.bool (decide (s148.i < (fields.length : Int)))) Z (pu_int (v := .bool (decide (s148.i < (fields.length : Int)))) Z Z (tm Z) (tm Z) Z) (xe (aw_cond (b := decide (s148.i < (fields.length : Int))) (tm Z) (fun hb162 => ?_) (fun hb162 => ?_))))))))
  ·replace h := ite_t (dec_t hb162) h
   refine aw_skip (aw_seq (aw_block (xr (xm Z Z Z (xm Z Z Z (xm Z Z Z ?_))))))
   obtain ⟨c152, h⟩ := need_of h
   refine xa (.vptr [.str (ix fields s148.i).Key, .str (ix fields s148.i).Val]) Z (pu_indexAddrM Z underlying23 sizeOf34 (tm Z) (tm Z) c152 Z) (xa (.vptr [.str (ix fields s148.i).Key, .str (ix fields s148.i).Val]) Z (fa Z underlying34 Z sizeOf9 Z Z Z) (xc Z (op_loadV1 Z isAgg9 (tm Z) Z ?_)))
   obtain ⟨r153, r153e, h⟩ := bind_some h
   refine xc Z (op_call (vs := [.sl .no 2 (s148.l.map api.Field.av), .str (ix fields s148.i).Key]) (H := []) Z call29 ⟨(tm Z), (tm Z), trivial⟩ (List.Perm.refl _) (mewsref22.Has.ok r153e) ?_)
   rintro _ _ ⟨rfl, rfl⟩
   refine xm Z Z Z (xa (.str r153.1) Z (pu_extract Z (tm Z) (nb Z) Z) (xa (.bool r153.2) Z (pu_extract Z (tm Z) (nb Z) Z) (xm Z Z Z (xm Z Z Z (xe ?_)))))
   obtain ⟨s155, s155e, h156⟩ := letO_of h
   refine aw_meet (ν := Unit) (fun v => [(0, .sl .no 2 (s148.l.map api.Field.av)), (1, .sl .no 2 (fields.map api.Field.av)), (6, .i s155), (7, .i s148.i)]) (fun v => []) ?_ ?_
   ·have h := s155e.symm
    refine xr (xm Z Z Z (xa (.bool (!r153.2)) Z (pu_not Z (tm Z)) (xe (aw_cond (b := (!r153.2)) (tm Z) (fun hb158 => ?_) (fun hb158 => ?_)))))
    ·replace h := ite_t hb158 h
     refine aw_region (xm Z Z Z (xa (.i (IntKind.wrap .i64 (s148.n + 1))) Z (pu_int (v := .i (IntKind.wrap .i64 (s148.n + 1))) Z Z (tm Z) (AEv.int _ _) Z) (xm Z Z Z (xe ?_))))
     subst h
     exact ⟨(), Weak.mkL [] (by decide) trivial ⟨tm Z, tm Z, (AEv.le (tm Z) vr), tm Z, trivial⟩⟩
    ·replace h := ite_fb hb158 h
     refine aw_skip ?_
     subst h
     exact ⟨(), Weak.mkL [] (by decide) trivial ⟨tm Z, tm Z, tm Z, tm Z, trivial⟩⟩
   ·intro _
    have h := h156
    refine aw_region (xm Z Z Z (xm Z Z Z (xm Z Z Z ?_)))
    obtain ⟨c159, h⟩ := need_of h
    refine xa (.vptr [.str (ix fields s148.i).Key, .str (ix fields s148.i).Val]) Z (pu_indexAddrM Z underlying23 sizeOf34 (tm Z) (tm Z) c159 Z) (xc Z (op_loadVN Z isAgg34 sizeOf34 (tm Z) (nb Z) Z ?_))
    obtain ⟨r160, r160e, h⟩ := bind_some h
    refine xc Z (op_call (vs := [.sl .no 2 (s148.l.map api.Field.av), .agg [.str (ix fields s148.i).Key, .str (ix fields s148.i).Val]]) (H := []) Z call30 ⟨(tm Z), (tm Z), trivial⟩ (List.Perm.refl _) (mewsref19.Put.ok r160e) ?_)
    rintro _ _ ⟨t161, rfl, rfl⟩
    refine xm Z Z Z (xe (aw_region (xm Z Z Z (xa (.i (IntKind.wrap .i64 (s148.i + 1))) Z (pu_int (v := .i (IntKind.wrap .i64 (s148.i + 1))) Z Z (tm Z) (AEv.int _ _) Z) (xm Z Z Z (xe ?_))))))
    obtain rfl := some_of h
    exact ⟨_, (), Z, Weak.mkL [] (by decide) trivial ⟨(AEv.le (tm Z) (AV.Le.forget _ _ _)), tm Z, tm Z, (AEv.le (tm Z) vr), trivial⟩⟩
  ·replace h := ite_f (dec_f hb162) h
   refine aw_exit ?_
   obtain rfl := some_of h
   have h := congrArg some (hx149 _ rfl)
   obtain rfl := some_of h
   exact ⟨(), Weak.mkL [] (by decide) trivial ⟨tm Z, tm Z, trivial⟩⟩
 ·intro _
  have h := h122
  refine xr (xm Z Z Z (xm Z Z Z (xm Z Z Z (xm Z Z Z (xe (aw_ret ?_))))))
  obtain rfl := some_of h
  exact ⟨[.sl .no 2 (s121.1.map api.Field.av), .i s121.2], _, [], ⟨(tm Z), (tm Z), trivial⟩, vr, Weak.mkL [] (by decide) trivial trivial, ⟨Z, Z⟩⟩

theorem mewsref22.Drop.ok {l : List api.Field} {keys : List (List UInt8)} {r : (List api.Field) × Int} (h : mewsref22.Drop l keys = some r) : Go.Lift.Spec prog 17 [.sl .no 2 (l.map api.Field.av), .sl .no 1 (keys.map AV.str)] [] (fun v H => v = .tup [.sl .no 2 (r.1.map api.Field.av), .i r.2] ∧ H = []) := by
 unfold mewsref22.Drop at h
 refine Go.Lift.Spec.of_body (rs := [.tmp 4, .tmp 5]) func17 Z Z (nb Z) Z (xr (xa (.sl .full 2 (([] : List api.Field).map api.Field.av)) Z (pu_assign Z (AEv.nil 2 (by decide))) (xa (.i 0) Z (pu_assign Z (AEv.int _ _)) (xe (xr (xa (.i 0) Z (pu_assign Z (AEv.int _ _)) (xe ?_)))))))
 obtain ⟨s1165, s1165e, h1166⟩ := bind_some h
 refine aw_meet (ν := Unit) (fun v => [(0, .sl .no 2 (s1165.1.map api.Field.av)), (6, .i s1165.2)]) (fun v => []) ?_ ?_
 ·have h := s1165e
  refine xr (xa (.i 0) Z (pu_assign Z (AEv.int _ _)) (xe (aw_block (aw_while (σ := mewsref22.Drop.S0) (ν := Unit) (mewsref22.Drop.body0 keys) (fun s1424 v => [(0, .sl .no 2 (s1424.l.map api.Field.av)), (1, .sl .no 1 (keys.map AV.str)), (6, .i s1424.n), (7, .i s1424.i)]) (fun s1424 v => []) ⟨l, 0, 0⟩ () _ h (Weak.mkL [] (by decide) trivial ⟨tm Z, tm Z, tm Z, tm Z, trivial⟩) ?_))))
  rintro s1424 _ x1426 h hx1425
  unfold mewsref22.Drop.body0 at h
  refine aw_seq (xr (xm Z Z Z (xm Z Z Z (xa (.i (keys.length : Int)) Z (pu_lenM Z underlying25 (tm Z)) (xa (.bool (decide (s1424.i < (keys.length : Int)))) Z (pu_int (v := .bool (decide (s1424.i < (keys.length : Int)))) Z Z (tm Z) (tm Z) Z) (xe (aw_cond (b := decide (s1424.i < (keys.length : Int))) (tm Z) (fun hb1554 => ?_) (fun hb1554 => ?_))))))))
  ·replace h := ite_t (dec_t hb1554) h
   refine aw_skip (aw_seq (aw_block (xr (xa (.sl .full 2 (([] : List api.Field).map api.Field.av)) Z (pu_assign Z (AEv.nil 2 (by decide))) (xe ?_)))))
   obtain ⟨s1489, s1489e, h1491⟩ := bind_some h
   refine aw_meet (ν := Nat) (fun v => [(1, .sl .no 1 (keys.map AV.str)), (6, .i s1489.1), (7, .i s1424.i), (8, .sl (.own v) 2 (s1489.2.map api.Field.av))]) (fun v => [(v, .spare)]) ?_ ?_
   ·have h := s1489e
    refine xr (xa (.i 0) Z (pu_assign Z (AEv.int _ _)) (xe (aw_block (aw_claim 8 (tm Z) fun t1553 => (aw_while (σ := mewsref22.Drop.S2) (ν := Nat) (mewsref22.Drop.body2 s1424 keys) (fun s1531 v => [(0, .sl .no 2 (s1424.l.map api.Field.av)), (1, .sl .no 1 (keys.map AV.str)), (6, .i s1531.n), (7, .i s1424.i), (8, .sl (.own v) 2 (s1531.out.map api.Field.av)), (9, .i s1531.k)]) (fun s1531 v => [(v, .spare)]) ⟨s1424.n, ([] : List api.Field), 0⟩ t1553 _ h (Weak.mkL [0] (by decide) ⟨⟨_, Z, Z⟩, trivial⟩ ⟨tm Z, tm Z, tm Z, tm Z, tm Z, tm Z, trivial⟩) ?_)))))
    rintro s1531 n1532 x1534 h hx1533
    unfold mewsref22.Drop.body2 at h
    refine aw_seq (xr (xm Z Z Z (xm Z Z Z (xa (.i (s1424.l.length : Int)) Z (pu_lenM Z underlying23 (tm Z)) (xa (.bool (decide (s1531.k < (s1424.l.length : Int)))) Z (pu_int (v := .bool (decide (s1531.k < (s1424.l.length : Int)))) Z Z (tm Z) (tm Z) Z) (xe (aw_cond (b := decide (s1531.k < (s1424.l.length : Int))) (tm Z) (fun hb1552 => ?_) (fun hb1552 => ?_))))))))
    ·replace h := ite_t (dec_t hb1552) h
     refine aw_skip ?_
     obtain ⟨s1542, s1542e, h1544⟩ := bind_some h
     refine aw_meet (ν := Nat) (fun v => [(0, .sl .no 2 (s1424.l.map api.Field.av)), (1, .sl .no 1 (keys.map AV.str)), (6, .i s1542.1), (7, .i s1424.i), (8, .sl (.own v) 2 (s1542.2.map api.Field.av)), (9, .i s1531.k)]) (fun v => [(v, .spare)]) ?_ ?_
     ·have h := s1542e
      refine aw_block (aw_seq ?_)
      obtain ⟨c1546, h⟩ := need_of h
      obtain ⟨c1547, h⟩ := need_of h
      refine aw_planR (by decide +kernel) [[], [], [], [], [], [], [], [], [], []] [[]] [[[(n1532, .spare)]]] [.sl .no 2 (s1424.l.map api.Field.av), .i s1531.k, .vptr [.str (ix s1424.l s1531.k).Key, .str (ix s1424.l s1531.k).Val], .vptr [.str (ix s1424.l s1531.k).Key, .str (ix s1424.l s1531.k).Val], .str (ix s1424.l s1531.k).Key, .sl .no 1 (keys.map AV.str), .i s1424.i, .vptr [.str (ix keys s1424.i)], .str (ix keys s1424.i), .bool (decide ((ix s1424.l s1531.k).Key = (ix keys s1424.i)))] (by decide +kernel) Z Z ?_ ?_
      ·exact ⟨ym Z Z Z, ym Z Z Z, yp Z (pu_indexAddrM Z underlying23 sizeOf34 (tm Z) (tm Z) c1546 Z), yp Z (fa Z underlying34 Z sizeOf9 Z Z Z), stepg_plain Z (op_loadV1 Z isAgg9 (tm Z) Z ⟨Z, Z⟩), ym Z Z Z, ym Z Z Z, yp Z (pu_indexAddrM Z underlying25 sizeOf9 (tm Z) (tm Z) c1547 Z), stepg_plain Z (op_loadV1 Z isAgg9 (tm Z) Z ⟨Z, Z⟩), yp Z (pu_str (v := .bool (decide ((ix s1424.l s1531.k).Key = (ix keys s1424.i)))) Z Z (tm Z) (tm Z) Z), trivial⟩
      refine aw_cond (b := decide ((ix s1424.l s1531.k).Key = (ix keys s1424.i))) (tm Z) (fun hb1551 => ?_) (fun hb1551 => ?_)
      ·replace h := ite_t (dec_t hb1551) h
       refine aw_region (xm Z Z Z (xa (.i (IntKind.wrap .i64 (s1531.n + 1))) Z (pu_int (v := .i (IntKind.wrap .i64 (s1531.n + 1))) Z Z (tm Z) (AEv.int _ _) Z) (xm Z Z Z (xe ?_))))
       obtain rfl := some_of h
       exact ⟨n1532, Weak.mkL [0] (by decide) ⟨⟨_, Z, Z⟩, trivial⟩ ⟨tm Z, tm Z, (AEv.le (tm Z) vr), tm Z, tm Z, tm Z, trivial⟩⟩
      ·replace h := ite_f (dec_f hb1551) h
       refine aw_region (xm Z Z Z (xm Z Z Z (xm Z Z Z ?_)))
       obtain ⟨c1548, h⟩ := need_of h
       refine xa (.vptr [.str (ix s1424.l s1531.k).Key, .str (ix s1424.l s1531.k).Val]) Z (pu_indexAddrM Z underlying23 sizeOf34 (tm Z) (tm Z) c1548 Z) (xc Z (op_loadVN Z isAgg34 sizeOf34 (tm Z) (nb Z) Z (xc Z (op_buildSlice (xs := ([(ix s1424.l s1531.k)] : List api.Field).map api.Field.av) (aparts := [(0, .agg [.str (ix s1424.l s1531.k).Key, .str (ix s1424.l s1531.k).Val])]) Z underlying23 sizeOf34 zeroValue34 (by decide) (by decide) ⟨Z, (tm Z), trivial⟩ Z Z Z ?_))))
       obtain ⟨c1549, h⟩ := need_of h
       refine xc Z (op_appendOM (q := 0) Z underlying23 underlying23 (.inl Z) typeInfo34 Z Z Z (by decide) (tm Z) Z (given_sl (tm Z)) c1549 ?_)
       intro t1550
       refine xm Z Z Z (xe ?_)
       obtain rfl := some_of h
       exact ⟨t1550, Weak.mkL [0] (by decide) ⟨⟨_, Z, Z⟩, trivial⟩ ⟨tm Z, tm Z, tm Z, tm Z, (AEv.le (tm Z) vr), tm Z, trivial⟩⟩
     ·intro n1543
      have h := h1544
      refine aw_region (xm Z Z Z (xa (.i (IntKind.wrap .i64 (s1531.k + 1))) Z (pu_int (v := .i (IntKind.wrap .i64 (s1531.k + 1))) Z Z (tm Z) (AEv.int _ _) Z) (xm Z Z Z (xe ?_))))
      obtain rfl := some_of h
      exact ⟨_, n1543, Z, Weak.mkL [0] (by decide) ⟨⟨_, Z, Z⟩, trivial⟩ ⟨tm Z, tm Z, tm Z, tm Z, tm Z, (AEv.le (tm Z) vr), trivial⟩⟩
    ·replace h := ite_f (dec_f hb1552) h
     refine aw_exit ?_
     obtain rfl := some_of h
     have h := congrArg some (hx1533 _ rfl)
     obtain rfl := some_of h
     exact ⟨n1532, Weak.mkL [0] (by decide) ⟨⟨_, Z, Z⟩, trivial⟩ ⟨tm Z, tm Z, tm Z, tm Z, trivial⟩⟩
   ·intro n1490
    have h := h1491
    refine aw_region (xm Z Z Z (xm Z Z Z (xe (aw_region (xm Z Z Z (xa (.i (IntKind.wrap .i64 (s1424.i + 1))) Z (pu_int (v := .i (IntKind.wrap .i64 (s1424.i + 1))) Z Z (tm Z) (AEv.int _ _) Z) (xm Z Z Z (xe ?_))))))))
    obtain rfl := some_of h
    exact ⟨_, (), Z, Weak.mkL [] (by decide) trivial ⟨(AEv.le (tm Z) (AV.Le.forget _ _ _)), tm Z, tm Z, (AEv.le (tm Z) vr), trivial⟩⟩
  ·replace h := ite_f (dec_f hb1554) h
   refine aw_exit ?_
   obtain rfl := some_of h
   have h := congrArg some (hx1425 _ rfl)
   obtain rfl := some_of h
   exact ⟨(), Weak.mkL [] (by decide) trivial ⟨tm Z, tm Z, trivial⟩⟩
 ·intro _
  have h := h1166
  refine xr (xm Z Z Z (xm Z Z Z (xm Z Z Z (xm Z Z Z (xe (aw_ret ?_))))))
  obtain rfl := some_of h
  exact ⟨[.sl .no 2 (s1165.1.map api.Field.av), .i s1165.2], _, [], ⟨(tm Z), (tm Z), trivial⟩, vr, Weak.mkL [] (by decide) trivial trivial, ⟨Z, Z⟩⟩

theorem mewsref01.digits.rec.ok (kk : Nat) : ∀ {n_ : Int} {r : List UInt8} (h : mewsref01.digits.rec kk n_ = some r), Go.Lift.Spec prog 63 [.i n_] [] (fun v H => v = .str r ∧ H = []) := by
 induction kk with
 | zero => intro n_ r h; exact nomatch h
 | succ kk ih =>
  intro n_ r h
  rw [mewsref01.digits.rec.eq_2] at h
  refine Go.Lift.Spec.of_body (rs := [.tmp 2]) func63 Z Z (nb Z) Z (xr (xa (.str ([] : List UInt8)) Z (pu_assign Z (AEv.const Z)) (xe (xr (xa (.str [48, 49, 50, 51, 52, 53, 54, 55, 56, 57]) Z (pu_assign Z (AEv.const Z)) (xe (aw_seq ?_)))))))
  refine aw_region (xm Z Z Z (xa (.i (n_.tmod 10)) Z (pu_rem Z (tm Z) (AEv.int _ _) (by decide)) (xa (.i (IntKind.wrap .i64 (0 - (n_.tmod 10)))) Z (pu_neg Z (tm Z)) (xm Z Z Z (xe (aw_seq (xr (xm Z Z Z ?_))))))))
  refine xa (.bool (decide ((-10) < n_))) Z (pu_int (v := .bool (decide ((-10) < n_))) Z Z (tm Z) (AEv.int _ _) Z) (xe (aw_cond (b := decide ((-10) < n_)) (tm Z) (fun hb14 => ?_) (fun hb14 => ?_)))
  ·replace h := ite_t (dec_t hb14) h
   refine xr (xm Z Z Z (xm Z Z Z (xm Z Z Z (xa (.i (IntKind.wrap .i64 ((IntKind.wrap .i64 (0 - (n_.tmod 10))) + 1))) Z (pu_int (v := .i (IntKind.wrap .i64 ((IntKind.wrap .i64 (0 - (n_.tmod 10))) + 1))) Z Z (tm Z) (AEv.int _ _) Z) ?_))))
   obtain ⟨c8, h⟩ := need_of h
   obtain ⟨x9, x9e, h⟩ := letO_of h
   refine xa (.str x9) Z (APure.eq (pu_strSliceM Z underlying9 (tm Z) ⟨_, (tm Z)⟩ ⟨_, (tm Z)⟩ c8) (congrArg (AV.str) x9e.symm)) (xm Z Z Z (xe (aw_ret ?_)))
   obtain rfl := some_of h
   exact ⟨[.str x9], _, [], ⟨(tm Z), trivial⟩, vr, Weak.mkL [] (by decide) trivial trivial, ⟨Z, Z⟩⟩
  ·replace h := ite_f (dec_f hb14) h
   refine aw_skip (aw_seq ?_)
   obtain ⟨r10, r10e, h⟩ := bind_some h
   obtain ⟨c11, h⟩ := need_of h
   obtain ⟨x12, x12e, h⟩ := letO_of h
   obtain ⟨c13, h⟩ := need_of h
   refine aw_planR (by decide +kernel) [[], [], [], [], [], [], [], [], [], []] [] [] [.i n_, .i (IntKind.wrap .i64 (n_.tdiv 10)), .str r10, .str [48, 49, 50, 51, 52, 53, 54, 55, 56, 57], .i (IntKind.wrap .i64 (0 - (n_.tmod 10))), .i (IntKind.wrap .i64 (0 - (n_.tmod 10))), .i (IntKind.wrap .i64 ((IntKind.wrap .i64 (0 - (n_.tmod 10))) + 1)), .str x12, .str (r10 ++ x12), .str (r10 ++ x12)] (by decide +kernel) Z Z ?_ ?_
   ·exact ⟨ym Z Z Z, yp Z (pu_quo Z (tm Z) (AEv.int _ _) (by decide)), stepg_plain Z (op_call (vs := [.i (IntKind.wrap .i64 (n_.tdiv 10))]) (H := []) Z call63 ⟨(tm Z), trivial⟩ (R := []) (List.Perm.refl _) (ih r10e) (by rintro _ _ ⟨rfl, rfl⟩; exact ⟨Z, Z⟩)), ym Z Z Z, ym Z Z Z, ym Z Z Z, yp Z (pu_int (v := .i (IntKind.wrap .i64 ((IntKind.wrap .i64 (0 - (n_.tmod 10))) + 1))) Z Z (tm Z) (AEv.int _ _) Z), yp Z (APure.eq (pu_strSliceM Z underlying9 (tm Z) ⟨_, (tm Z)⟩ ⟨_, (tm Z)⟩ c11) (congrArg (AV.str) x12e.symm)), yp Z (pu_strAdd Z (tm Z) (tm Z) c13), ym Z Z Z, trivial⟩
   refine aw_ret ?_
   obtain rfl := some_of h
   exact ⟨[.str (r10 ++ x12)], _, [], ⟨(tm Z), trivial⟩, vr, Weak.mkL [] (by decide) trivial trivial, ⟨Z, Z⟩⟩

theorem mewsref01.digits.ok {n_ : Int} {r : List UInt8} (h : mewsref01.digits n_ = some r) : Go.Lift.Spec prog 63 [.i n_] [] (fun v H => v = .str r ∧ H = []) := by
 obtain ⟨kk, hk⟩ := fixO_some h
 exact mewsref01.digits.rec.ok kk hk

theorem mewsref01.Text.ok {n_ : Int} {r : List UInt8} (h : mewsref01.Text n_ = some r) : Go.Lift.Spec prog 47 [.i n_] [] (fun v H => v = .str r ∧ H = []) := by
 unfold mewsref01.Text at h
 refine Go.Lift.Spec.of_body (rs := [.tmp 2]) func47 Z Z (nb Z) Z (xr (xa (.str ([] : List UInt8)) Z (pu_assign Z (AEv.const Z)) (xe (aw_seq (xr (xm Z Z Z (xa (.bool (decide (n_ < 0))) Z (pu_int (v := .bool (decide (n_ < 0))) Z Z (tm Z) (AEv.int _ _) Z) ?_)))))))
 refine xe (aw_cond (b := decide (n_ < 0)) (tm Z) (fun hb8 => ?_) (fun hb8 => ?_))
 ·replace h := ite_t (dec_t hb8) h
  refine xr (xm Z Z Z ?_)
  obtain ⟨r5, r5e, h⟩ := bind_some h
  refine xc Z (op_call (vs := [.i n_]) (H := []) Z call63 ⟨(tm Z), trivial⟩ (List.Perm.refl _) (mewsref01.digits.ok r5e) ?_)
  rintro _ _ ⟨rfl, rfl⟩
  obtain ⟨c6, h⟩ := need_of h
  refine xa (.str ([45] ++ r5)) Z (pu_strAdd Z (AEv.const Z) (tm Z) c6) (xm Z Z Z (xe (aw_ret ?_)))
  obtain rfl := some_of h
  exact ⟨[.str ([45] ++ r5)], _, [], ⟨(tm Z), trivial⟩, vr, Weak.mkL [] (by decide) trivial trivial, ⟨Z, Z⟩⟩
 ·replace h := ite_f (dec_f hb8) h
  refine aw_skip (xr (xm Z Z Z (xa (.i (IntKind.wrap .i64 (0 - n_))) Z (pu_neg Z (tm Z)) ?_)))
  obtain ⟨r7, r7e, h⟩ := bind_some h
  refine xc Z (op_call (vs := [.i (IntKind.wrap .i64 (0 - n_))]) (H := []) Z call63 ⟨(tm Z), trivial⟩ (List.Perm.refl _) (mewsref01.digits.ok r7e) ?_)
  rintro _ _ ⟨rfl, rfl⟩
  refine xm Z Z Z (xe (aw_ret ?_))
  obtain rfl := some_of h
  exact ⟨[.str r7], _, [], ⟨(tm Z), trivial⟩, vr, Weak.mkL [] (by decide) trivial trivial, ⟨Z, Z⟩⟩

end Go.Pu
