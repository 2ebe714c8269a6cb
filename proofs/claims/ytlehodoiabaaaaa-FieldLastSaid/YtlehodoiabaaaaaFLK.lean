/- Printed by lift.py: the functions come to them. -/
import Derived.Test.YtlehodoiabaaaaaLiftW
import Derived.Test.YtlehodoiabaaaaaFLK0
set_option maxRecDepth 100000
set_option maxHeartbeats 0
namespace Go.Pu
open Go.Lift Go.Proofs.Try Go.RowKit Go.Proofs

theorem mewsref10.Same.ok {a : List api.Scored} {b : List api.Scored} {r : Bool} (h : mewsref10.Same a b = some r) : Go.Lift.Spec prog 50 [.sl .no 2 (a.map api.Scored.av), .sl .no 2 (b.map api.Scored.av)] [] (fun v H => v = .bool r ∧ H = []) := by
 unfold mewsref10.Same at h
 refine Go.Lift.Spec.of_body (rs := [.tmp 4]) func50 Z Z (nb Z) Z (xr (xa (.bool false) Z (pu_assign Z (AEv.bool _)) (xe (aw_seq (xr (xm Z Z Z (xa (.i (a.length : Int)) Z (pu_lenM Z underlying26 (tm Z)) ?_)))))))
 refine xm Z Z Z (xa (.i (b.length : Int)) Z (pu_lenM Z underlying26 (tm Z)) (xa (.bool (!decide ((a.length : Int) = (b.length : Int)))) Z (pu_int (v := .bool (!decide ((a.length : Int) = (b.length : Int)))) Z Z (tm Z) (tm Z) Z) (xe (aw_cond (b := (!decide ((a.length : Int) = (b.length : Int)))) (tm Z) (fun hb82 => ?_) (fun hb82 => ?_)))))
 ·replace h := ite_f (ndec_t hb82) h
  refine xr (xa (.bool false) Z (pu_assign Z (AEv.bool _)) (xe (aw_ret ?_)))
  obtain rfl := some_of h
  exact ⟨[.bool false], _, [], ⟨(tm Z), trivial⟩, vr, Weak.mkL [] (by decide) trivial trivial, ⟨Z, Z⟩⟩
 ·replace h := ite_t (ndec_f hb82) h
  refine aw_skip ?_
  obtain ⟨s81, s81e, h61⟩ := bind_some h
  refine aw_join (σ := Unit) (ν := Unit) (fun u v => []) (fun u v => []) (fun u => s81 = .inl u) ?_ ?_
  ·intro s60
   intro _
   rintro rfl
   have h := onSum_inl h61
   refine xr (xa (.bool true) Z (pu_assign Z (AEv.bool _)) (xe (aw_ret ?_)))
   obtain rfl := some_of h
   exact ⟨[.bool true], _, [], ⟨(tm Z), trivial⟩, vr, Weak.mkL [] (by decide) trivial trivial, ⟨Z, Z⟩⟩
  ·have h := s81e
   refine xr (xa (.i 0) Z (pu_assign Z (AEv.int _ _)) (xe (aw_block (aw_while (σ := mewsref10.Same.S0) (ν := Unit) (mewsref10.Same.body0 a b) (fun s73 v => [(0, .sl .no 2 (a.map api.Scored.av)), (1, .sl .no 2 (b.map api.Scored.av)), (5, .i s73.i)]) (fun s73 v => []) ⟨0⟩ () _ h (Weak.mkL [] (by decide) trivial ⟨tm Z, tm Z, tm Z, trivial⟩) ?_))))
   rintro s73 _ x75 h hx74
   unfold mewsref10.Same.body0 at h
   refine aw_seq (xr (xm Z Z Z (xm Z Z Z (xa (.i (a.length : Int)) Z (pu_lenM Z underlying26 (tm Z)) (xa (.bool (decide (s73.i < (a.length : Int)))) Z (pu_int (v := .bool (decide (s73.i < (a.length : Int)))) Z Z (tm Z) (tm Z) Z) (xe (aw_cond (b := decide (s73.i < (a.length : Int))) (tm Z) (fun hb80 => ?_) (fun hb80 => ?_))))))))
   ·replace h := ite_t (dec_t hb80) h
    refine aw_skip (aw_seq (aw_block (aw_seq ?_)))
    obtain ⟨c77, h⟩ := need_of h
    obtain ⟨c78, h⟩ := need_of h
    refine aw_planR (by decide +kernel) [[], [], [], [], [], [], [], [], []] [] [] [.sl .no 2 (a.map api.Scored.av), .i s73.i, .vptr [.str (ix a s73.i).Member, .i (ix a s73.i).Score], .agg [.str (ix a s73.i).Member, .i (ix a s73.i).Score], .sl .no 2 (b.map api.Scored.av), .i s73.i, .vptr [.str (ix b s73.i).Member, .i (ix b s73.i).Score], .agg [.str (ix b s73.i).Member, .i (ix b s73.i).Score], .bool (!decide ((ix a s73.i) = (ix b s73.i)))] (by decide +kernel) Z Z ?_ ?_
    ·exact ⟨ym Z Z Z, ym Z Z Z, yp Z (pu_indexAddrM Z underlying26 sizeOf80 (tm Z) (tm Z) c77 Z), stepg_plain Z (op_loadVN Z isAgg80 sizeOf80 (tm Z) (nb Z) Z ⟨Z, Z⟩), ym Z Z Z, ym Z Z Z, yp Z (pu_indexAddrM Z underlying26 sizeOf80 (tm Z) (tm Z) c78 Z), stepg_plain Z (op_loadVN Z isAgg80 sizeOf80 (tm Z) (nb Z) Z ⟨Z, Z⟩), yp Z (APure.eq (pu_structNe (b := (decide ((ix a s73.i).Member = (ix b s73.i).Member) && (decide ((ix a s73.i).Score = (ix b s73.i).Score) && true))) Z underlying80 (by kernel_rfl) (by kernel_rfl) (tm Z) (tm Z) ⟨_, _, _, _, ⟨by decide, isAgg9, Z, Z, CEq.str underlying9⟩, ⟨_, _, _, _, ⟨by decide, isAgg2, Z, Z, CEq.int underlying2⟩, Z, Z⟩, Z⟩) (congrArg (fun b => AV.bool (!b)) (api.Scored.eq_iff (ix a s73.i) (ix b s73.i)).symm)), trivial⟩
    refine aw_cond (b := (!decide ((ix a s73.i) = (ix b s73.i)))) (tm Z) (fun hb79 => ?_) (fun hb79 => ?_)
    ·replace h := ite_f (ndec_t hb79) h
     refine xr (xa (.bool false) Z (pu_assign Z (AEv.bool _)) (xe (aw_ret ?_)))
     obtain rfl := some_of h
     have h := congrArg some (hx74 _ rfl)
     obtain rfl := some_of h
     have h := onSum_inr h61
     obtain rfl := some_of h
     exact ⟨[.bool false], _, [], ⟨(tm Z), trivial⟩, vr, Weak.mkL [] (by decide) trivial trivial, ⟨Z, Z⟩⟩
    ·replace h := ite_t (ndec_f hb79) h
     refine aw_skip (aw_region (xm Z Z Z (xa (.i (IntKind.wrap .i64 (s73.i + 1))) Z (pu_int (v := .i (IntKind.wrap .i64 (s73.i + 1))) Z Z (tm Z) (AEv.int _ _) Z) (xm Z Z Z (xe ?_)))))
     obtain rfl := some_of h
     exact ⟨_, (), Z, Weak.mkL [] (by decide) trivial ⟨tm Z, tm Z, (AEv.le (tm Z) vr), trivial⟩⟩
   ·replace h := ite_f (dec_f hb80) h
    refine aw_exit ?_
    obtain rfl := some_of h
    have h := congrArg some (hx74 _ rfl)
    exact ⟨(), (), (some_of h).symm, Weak.mkL [] (by decide) trivial trivial⟩

theorem mewsref19.Same.ok {a : api.Value} {b : api.Value} {r : Bool} (h : mewsref19.Same a b = some r) : Go.Lift.Spec prog 33 [.agg (api.Value.ct .no .no .no a), .agg (api.Value.ct .no .no .no b)] [] (fun v H => v = .bool r ∧ H = []) := by
 unfold mewsref19.Same at h
 refine Go.Lift.Spec.of_body (rs := [.tmp 4]) func33 Z Z (nb Z) Z (xr (xc Z (op_box (cs := (api.Value.ct .no .no .no a)) (v := .agg (api.Value.ct .no .no .no a)) Z (tm Z) Z Z ?_)))
 intro p20
 refine xc Z (op_box (cs := (api.Value.ct .no .no .no b)) (v := .agg (api.Value.ct .no .no .no b)) Z (tm Z) Z Z ?_)
 intro p21
 refine xa (.bool false) Z (pu_assign Z (AEv.bool _)) (xe ?_)
 obtain ⟨s29, s29e, h30⟩ := bind_some h
 refine aw_meet (ν := Unit) (fun v => [(4, .bool s29)]) (fun v => []) ?_ ?_
 ·have h := s29e
  refine aw_region (xa (.ptr p20 0) Z (fa Z underlying28 Z sizeOf3 Z Z Z) (xc Z (op_load1 (i := 1) Z isAgg3 (tm Z) Z Z (xa (.ptr p21 0) Z (fa Z underlying28 Z sizeOf3 Z Z Z) (xc Z (op_load1 (i := 0) Z isAgg3 (tm Z) Z Z (xa (.bool (decide (a.Kind = b.Kind))) Z (pu_int (v := .bool (decide (a.Kind = b.Kind))) Z Z (tm Z) (tm Z) Z) (xm Z Z Z ?_))))))))
  rcases Bool.eq_false_or_eq_true (decide (a.Kind = b.Kind)) with hb32 | hb32
  ·replace h := ite_t (dec_t hb32) h
   refine aops_known 10 Z hb32 (xp (.ptr p20 1) Z Z (fa Z underlying28 Z sizeOf9 Z Z Z) (xg Z Z (op_load1 (i := 1) Z isAgg9 (tm Z) Z Z (xp (.ptr p21 1) Z Z (fa Z underlying28 Z sizeOf9 Z Z Z) (xg Z Z (op_load1 (i := 0) Z isAgg9 (tm Z) Z Z (xp (.bool (decide (a.Text = b.Text))) Z Z (pu_str (v := .bool (decide (a.Text = b.Text))) Z Z (tm Z) (tm Z) Z) (xa (.bool (decide (a.Text = b.Text))) Z (pu_pick (b := true) Z (tm Z) (fun _ => (tm Z)) (fun h => nomatch h)) (xm Z Z Z ?_)))))))))
   rcases Bool.eq_false_or_eq_true (decide (a.Text = b.Text)) with hb33 | hb33
   ·replace h := ite_t (dec_t hb33) h
    refine aops_known 17 Z hb33 (xp (.ptr p20 2) Z Z (fa Z underlying28 Z sizeOf25 Z Z Z) (xg Z Z (op_load1 (i := 1) Z isAgg25 (tm Z) Z Z (xp (.ptr p21 2) Z Z (fa Z underlying28 Z sizeOf25 Z Z Z) (xg Z Z (op_load1 (i := 0) Z isAgg25 (tm Z) Z Z ?_))))))
    obtain ⟨r34, r34e, h⟩ := bind_some h
    refine xg Z Z (op_call (vs := [.sl .no 1 (a.List_.map AV.str), .sl .no 1 (b.List_.map AV.str)]) (H := []) Z call48 ⟨(tm Z), (tm Z), trivial⟩ (List.Perm.refl _) (mewsref19.texts.ok r34e) ?_)
    rintro _ _ ⟨rfl, rfl⟩
    refine xa (.bool r34) Z (pu_pick (b := true) Z (tm Z) (fun _ => (tm Z)) (fun h => nomatch h)) (xm Z Z Z ?_)
    rcases Bool.eq_false_or_eq_true r34 with hb35 | hb35
    ·replace h := ite_t hb35 h
     refine aops_known 24 Z hb35 (xp (.ptr p20 3) Z Z (fa Z underlying28 Z sizeOf23 Z Z Z) (xg Z Z (op_load1 (i := 1) Z isAgg23 (tm Z) Z Z (xp (.ptr p21 3) Z Z (fa Z underlying28 Z sizeOf23 Z Z Z) (xg Z Z (op_load1 (i := 0) Z isAgg23 (tm Z) Z Z ?_))))))
     obtain ⟨r36, r36e, h⟩ := bind_some h
     refine xg Z Z (op_call (vs := [.sl .no 2 (a.Hash.map api.Field.av), .sl .no 2 (b.Hash.map api.Field.av)]) (H := []) Z call49 ⟨(tm Z), (tm Z), trivial⟩ (List.Perm.refl _) (mewsref19.fields.ok r36e) ?_)
     rintro _ _ ⟨rfl, rfl⟩
     refine xa (.bool r36) Z (pu_pick (b := true) Z (tm Z) (fun _ => (tm Z)) (fun h => nomatch h)) (xm Z Z Z ?_)
     rcases Bool.eq_false_or_eq_true r36 with hb37 | hb37
     ·replace h := ite_t hb37 h
      refine aops_known 31 Z hb37 (xp (.ptr p20 4) Z Z (fa Z underlying28 Z sizeOf26 Z Z Z) (xg Z Z (op_load1 (i := 1) Z isAgg26 (tm Z) Z Z (xp (.ptr p21 4) Z Z (fa Z underlying28 Z sizeOf26 Z Z Z) (xg Z Z (op_load1 (i := 0) Z isAgg26 (tm Z) Z Z ?_))))))
      obtain ⟨r38, r38e, h⟩ := bind_some h
      refine xg Z Z (op_call (vs := [.sl .no 2 (a.ZSet.map api.Scored.av), .sl .no 2 (b.ZSet.map api.Scored.av)]) (H := []) Z call50 ⟨(tm Z), (tm Z), trivial⟩ (List.Perm.refl _) (mewsref10.Same.ok r38e) ?_)
      rintro _ _ ⟨rfl, rfl⟩
      refine xa (.bool r38) Z (pu_pick (b := true) Z (tm Z) (fun _ => (tm Z)) (fun h => nomatch h)) (xm Z Z Z (xe ?_))
      obtain rfl := some_of h
      exact ⟨(), Weak.mkL [] (by decide) trivial ⟨tm Z, trivial⟩⟩
     ·replace h := ite_fb hb37 h
      refine aops_known 31 Z hb37 (xn Z Z Z (xn Z Z Z (xn Z Z Z (xn Z Z Z (xn Z Z Z (xa (.bool false) Z (pu_pick (b := false) Z (tm Z) (fun h => nomatch h) (fun _ => (AEv.bool _))) (xm Z Z Z (xe ?_))))))))
      obtain rfl := some_of h
      exact ⟨(), Weak.mkL [] (by decide) trivial ⟨tm Z, trivial⟩⟩
    ·replace h := ite_fb hb35 h
     refine aops_known 24 Z hb35 (xn Z Z Z (xn Z Z Z (xn Z Z Z (xn Z Z Z (xn Z Z Z (xa (.bool false) Z (pu_pick (b := false) Z (tm Z) (fun h => nomatch h) (fun _ => (AEv.bool _))) (xm Z Z Z (xn Z Z Z (xn Z Z Z ?_)))))))))
     refine xn Z Z Z (xn Z Z Z (xn Z Z Z (xa (.bool false) Z (pu_pick (b := false) Z (tm Z) (fun h => nomatch h) (fun _ => (AEv.bool _))) (xm Z Z Z (xe ?_)))))
     obtain rfl := some_of h
     exact ⟨(), Weak.mkL [] (by decide) trivial ⟨tm Z, trivial⟩⟩
   ·replace h := ite_f (dec_f hb33) h
    refine aops_known 17 Z hb33 (xn Z Z Z (xn Z Z Z (xn Z Z Z (xn Z Z Z (xn Z Z Z (xa (.bool false) Z (pu_pick (b := false) Z (tm Z) (fun h => nomatch h) (fun _ => (AEv.bool _))) (xm Z Z Z (xn Z Z Z (xn Z Z Z ?_)))))))))
    refine xn Z Z Z (xn Z Z Z (xn Z Z Z (xa (.bool false) Z (pu_pick (b := false) Z (tm Z) (fun h => nomatch h) (fun _ => (AEv.bool _))) (xm Z Z Z (xn Z Z Z (xn Z Z Z (xn Z Z Z (xn Z Z Z (xn Z Z Z ?_)))))))))
    refine xa (.bool false) Z (pu_pick (b := false) Z (tm Z) (fun h => nomatch h) (fun _ => (AEv.bool _))) (xm Z Z Z (xe ?_))
    obtain rfl := some_of h
    exact ⟨(), Weak.mkL [] (by decide) trivial ⟨tm Z, trivial⟩⟩
  ·replace h := ite_f (dec_f hb32) h
   refine aops_known 10 Z hb32 (xn Z Z Z (xn Z Z Z (xn Z Z Z (xn Z Z Z (xn Z Z Z (xa (.bool false) Z (pu_pick (b := false) Z (tm Z) (fun h => nomatch h) (fun _ => (AEv.bool _))) (xm Z Z Z (xn Z Z Z (xn Z Z Z ?_)))))))))
   refine xn Z Z Z (xn Z Z Z (xn Z Z Z (xa (.bool false) Z (pu_pick (b := false) Z (tm Z) (fun h => nomatch h) (fun _ => (AEv.bool _))) (xm Z Z Z (xn Z Z Z (xn Z Z Z (xn Z Z Z (xn Z Z Z (xn Z Z Z ?_)))))))))
   refine xa (.bool false) Z (pu_pick (b := false) Z (tm Z) (fun h => nomatch h) (fun _ => (AEv.bool _))) (xm Z Z Z (xn Z Z Z (xn Z Z Z (xn Z Z Z (xn Z Z Z (xn Z Z Z (xa (.bool false) Z (pu_pick (b := false) Z (tm Z) (fun h => nomatch h) (fun _ => (AEv.bool _))) (xm Z Z Z (xe ?_)))))))))
   obtain rfl := some_of h
   exact ⟨(), Weak.mkL [] (by decide) trivial ⟨tm Z, trivial⟩⟩
 ·intro _
  have h := h30
  refine aw_ret ?_
  obtain rfl := some_of h
  exact ⟨[.bool s29], _, [], ⟨(tm Z), trivial⟩, vr, Weak.mkL [] (by decide) trivial trivial, ⟨Z, Z⟩⟩

theorem mewsref22.Same.ok {a : List api.Field} {b : List api.Field} {r : Bool} (h : mewsref22.Same a b = some r) : Go.Lift.Spec prog 20 [.sl .no 2 (a.map api.Field.av), .sl .no 2 (b.map api.Field.av)] [] (fun v H => v = .bool r ∧ H = []) := by
 unfold mewsref22.Same at h
 refine Go.Lift.Spec.of_body (rs := [.tmp 4]) func20 Z Z (nb Z) Z (xr (xa (.bool false) Z (pu_assign Z (AEv.bool _)) (xe (xr (xm Z Z Z (xa (.agg (api.Value.ct .full .no .full ({ Kind := 0, Text := ([] : List UInt8), List_ := ([] : List (List UInt8)), Hash := a, ZSet := ([] : List api.Scored) } : api.Value))) Z (pu_build (zs := [.i 0, .str ([] : List UInt8), .sl .full 1 (([] : List (List UInt8)).map AV.str), .sl .full 2 (([] : List api.Field).map api.Field.av), .sl .full 2 (([] : List api.Scored).map api.Scored.av)]) (szs := [1, 1, 1, 1, 1]) (aparts := [(3, .sl .no 2 (a.map api.Field.av))]) (cs := [.i 0, .str ([] : List UInt8), .sl .full 1 (([] : List (List UInt8)).map AV.str), .sl .no 2 (a.map api.Field.av), .sl .full 2 (([] : List api.Scored).map api.Scored.av)]) Z underlying28 zeroValue28 Z ⟨sizeOf3, sizeOf9, sizeOf25, sizeOf23, sizeOf26, trivial⟩ ⟨Z, (tm Z), trivial⟩ Z) (xm Z Z Z ?_)))))))
 refine xa (.agg (api.Value.ct .full .no .full ({ Kind := 0, Text := ([] : List UInt8), List_ := ([] : List (List UInt8)), Hash := b, ZSet := ([] : List api.Scored) } : api.Value))) Z (pu_build (zs := [.i 0, .str ([] : List UInt8), .sl .full 1 (([] : List (List UInt8)).map AV.str), .sl .full 2 (([] : List api.Field).map api.Field.av), .sl .full 2 (([] : List api.Scored).map api.Scored.av)]) (szs := [1, 1, 1, 1, 1]) (aparts := [(3, .sl .no 2 (b.map api.Field.av))]) (cs := [.i 0, .str ([] : List UInt8), .sl .full 1 (([] : List (List UInt8)).map AV.str), .sl .no 2 (b.map api.Field.av), .sl .full 2 (([] : List api.Scored).map api.Scored.av)]) Z underlying28 zeroValue28 Z ⟨sizeOf3, sizeOf9, sizeOf25, sizeOf23, sizeOf26, trivial⟩ ⟨Z, (tm Z), trivial⟩ Z) ?_
 obtain ⟨r2, r2e, h⟩ := bind_some h
 refine xc Z (op_call (vs := [.agg (api.Value.ct .no .no .no ({ Kind := 0, Text := ([] : List UInt8), List_ := ([] : List (List UInt8)), Hash := a, ZSet := ([] : List api.Scored) } : api.Value)), .agg (api.Value.ct .no .no .no ({ Kind := 0, Text := ([] : List UInt8), List_ := ([] : List (List UInt8)), Hash := b, ZSet := ([] : List api.Scored) } : api.Value))]) (H := []) Z call33 ⟨(AEv.le (tm Z) (AV.Le.agg ⟨vr, vr, (AV.Le.forget _ _ _), vr, (AV.Le.forget _ _ _), trivial⟩)), (AEv.le (tm Z) (AV.Le.agg ⟨vr, vr, (AV.Le.forget _ _ _), vr, (AV.Le.forget _ _ _), trivial⟩)), trivial⟩ (List.Perm.refl _) (mewsref19.Same.ok r2e) ?_)
 rintro _ _ ⟨rfl, rfl⟩
 refine xm Z Z Z (xe (aw_ret ?_))
 obtain rfl := some_of h
 exact ⟨[.bool r2], _, [], ⟨(tm Z), trivial⟩, vr, Weak.mkL [] (by decide) trivial trivial, ⟨Z, Z⟩⟩

theorem mewslaw22.alive.ok  {r : Bool} (h : mewslaw22.alive = some r) : Go.Lift.Spec prog 7 [] [] (fun v H => v = .bool r ∧ H = []) := by
 unfold mewslaw22.alive at h
 refine Go.Lift.Spec.of_body (rs := [.tmp 0]) func7 Z Z (nb Z) Z (aw_regNew fun rg => (xr (xa (.bool false) Z (pu_assign Z (AEv.bool _)) (xe (aw_seq (aw_region ?_))))))
 obtain ⟨r14, r14e, h⟩ := bind_some h
 refine xc Z (op_call (vs := [.int .u64 1]) (H := [(rg, .abs (regAbs ([] : Reg)))]) Z call14 ⟨(AEv.int _ _), trivial⟩ (List.Perm.refl _) (dict.New_string.ok r14e rg) ?_)
 rintro _ _ ⟨rfl, rfl⟩
 refine xm Z Z Z (xe (xr (xm Z Z Z (xa (.agg [.str [97], .str [49]]) Z (pu_build (zs := [.str ([] : List UInt8), .str ([] : List UInt8)]) (szs := [1, 1]) (aparts := [(0, .str [97]), (1, .str [49])]) (cs := [.str [97], .str [49]]) Z underlying34 zeroValue34 Z ⟨sizeOf9, sizeOf9, trivial⟩ ⟨Z, (AEv.const Z), ⟨Z, (AEv.const Z), trivial⟩⟩ Z) (xa (.agg [.str [98], .str [50]]) Z (pu_build (zs := [.str ([] : List UInt8), .str ([] : List UInt8)]) (szs := [1, 1]) (aparts := [(0, .str [98]), (1, .str [50])]) (cs := [.str [98], .str [50]]) Z underlying34 zeroValue34 Z ⟨sizeOf9, sizeOf9, trivial⟩ ⟨Z, (AEv.const Z), ⟨Z, (AEv.const Z), trivial⟩⟩ Z) (xa (.agg [.str [97], .str [51]]) Z (pu_build (zs := [.str ([] : List UInt8), .str ([] : List UInt8)]) (szs := [1, 1]) (aparts := [(0, .str [97]), (1, .str [51])]) (cs := [.str [97], .str [51]]) Z underlying34 zeroValue34 Z ⟨sizeOf9, sizeOf9, trivial⟩ ⟨Z, (AEv.const Z), ⟨Z, (AEv.const Z), trivial⟩⟩ Z) (xc Z (op_buildSlice (xs := ([({ Key := [97], Val := [49] } : api.Field), ({ Key := [98], Val := [50] } : api.Field), ({ Key := [97], Val := [51] } : api.Field)] : List api.Field).map api.Field.av) (aparts := [(0, .agg [.str [97], .str [49]]), (1, .agg [.str [98], .str [50]]), (2, .agg [.str [97], .str [51]])]) Z underlying23 sizeOf34 zeroValue34 (by decide) (by decide) ⟨Z, (tm Z), ⟨Z, (tm Z), ⟨Z, (tm Z), trivial⟩⟩⟩ Z Z Z ?_))))))))
 obtain ⟨r15, r15e, h⟩ := bind_some h
 refine xc Z (op_call (vs := [.rp rg r14.1, .sl .no 2 ([({ Key := [97], Val := [49] } : api.Field), ({ Key := [98], Val := [50] } : api.Field), ({ Key := [97], Val := [51] } : api.Field)].map api.Field.av)]) (H := [(rg, .abs (regAbs r14.2))]) Z call15 ⟨(tm Z), (AEv.le (tm Z) (AV.Le.forget _ _ _)), trivial⟩ (List.Perm.refl _) (field.Put.ok r15e rg) ?_)
 rintro _ _ ⟨rfl, rfl⟩
 refine xm Z Z Z (xe ?_)
 obtain ⟨s20, s20e, h21⟩ := bind_some h
 refine aw_meet (ν := Unit) (fun v => [(0, .bool s20.1)]) (fun v => [(rg, .abs (regAbs s20.2))]) ?_ ?_
 ·have h := s20e
  refine aw_region (xm Z Z Z (xa (.bool (decide (r15.1 = 2))) Z (pu_int (v := .bool (decide (r15.1 = 2))) Z Z (tm Z) (AEv.int _ _) Z) (xm Z Z Z ?_)))
  rcases Bool.eq_false_or_eq_true (decide (r15.1 = 2)) with hb23 | hb23
  ·replace h := ite_t (dec_t hb23) h
   refine aops_known 12 Z hb23 (xq Z Z Z Z ?_)
   obtain ⟨r24, r24e, h⟩ := bind_some h
   refine xg Z Z (op_call (vs := [.rp rg r14.1]) (H := [(rg, .abs (regAbs r15.2))]) Z call9 ⟨(tm Z), trivial⟩ (List.Perm.refl _) (field.All.ok r24e rg) ?_)
   rintro _ _ ⟨t25, rfl, rfl⟩
   refine xp (.agg [.str [97], .str [51]]) Z Z (pu_build (zs := [.str ([] : List UInt8), .str ([] : List UInt8)]) (szs := [1, 1]) (aparts := [(0, .str [97]), (1, .str [51])]) (cs := [.str [97], .str [51]]) Z underlying34 zeroValue34 Z ⟨sizeOf9, sizeOf9, trivial⟩ ⟨Z, (AEv.const Z), ⟨Z, (AEv.const Z), trivial⟩⟩ Z) (xp (.agg [.str [98], .str [50]]) Z Z (pu_build (zs := [.str ([] : List UInt8), .str ([] : List UInt8)]) (szs := [1, 1]) (aparts := [(0, .str [98]), (1, .str [50])]) (cs := [.str [98], .str [50]]) Z underlying34 zeroValue34 Z ⟨sizeOf9, sizeOf9, trivial⟩ ⟨Z, (AEv.const Z), ⟨Z, (AEv.const Z), trivial⟩⟩ Z) (xg Z Z (op_buildSlice (xs := ([({ Key := [97], Val := [51] } : api.Field), ({ Key := [98], Val := [50] } : api.Field)] : List api.Field).map api.Field.av) (aparts := [(0, .agg [.str [97], .str [51]]), (1, .agg [.str [98], .str [50]])]) Z underlying23 sizeOf34 zeroValue34 (by decide) (by decide) ⟨Z, (tm Z), ⟨Z, (tm Z), trivial⟩⟩ Z Z Z ?_)))
   obtain ⟨r26, r26e, h⟩ := bind_some h
   refine xg Z Z (op_call (vs := [.sl .no 2 (r24.1.map api.Field.av), .sl .no 2 ([({ Key := [97], Val := [51] } : api.Field), ({ Key := [98], Val := [50] } : api.Field)].map api.Field.av)]) (H := []) Z call20 ⟨(AEv.le (tm Z) (AV.Le.forget _ _ _)), (AEv.le (tm Z) (AV.Le.forget _ _ _)), trivial⟩ (List.Perm.refl _) (mewsref22.Same.ok r26e) ?_)
   rintro _ _ ⟨rfl, rfl⟩
   refine xa (.bool r26) Z (pu_pick (b := true) Z (tm Z) (fun _ => (tm Z)) (fun h => nomatch h)) (xm Z Z Z (xe ?_))
   obtain rfl := some_of h
   exact ⟨(), Weak.mkL [0] (by decide) ⟨⟨_, Z, Z⟩, trivial⟩ ⟨tm Z, trivial⟩⟩
  ·replace h := ite_f (dec_f hb23) h
   refine aops_known 12 Z hb23 (xn Z Z Z (xn Z Z Z (xn Z Z Z (xn Z Z Z (xn Z Z Z (xn Z Z Z (xa (.bool false) Z (pu_pick (b := false) Z (tm Z) (fun h => nomatch h) (fun _ => (AEv.bool _))) (xm Z Z Z (xe ?_)))))))))
   obtain rfl := some_of h
   exact ⟨(), Weak.mkL [0] (by decide) ⟨⟨_, Z, Z⟩, trivial⟩ ⟨tm Z, trivial⟩⟩
 ·intro _
  have h := h21
  refine aw_ret ?_
  obtain rfl := some_of h
  exact ⟨[.bool s20.1], _, [], ⟨(tm Z), trivial⟩, vr, Weak.mkL [] (by decide) trivial trivial, ⟨Z, Z⟩⟩

theorem field.Make.ok {seed : Int} {fields : List api.Field} {mem : Reg} {r : RP × Reg} (h : field.Make seed fields mem = some r) (rg : Nat) : Go.Lift.Spec prog 8 [.int .u64 seed, .sl .no 2 (fields.map api.Field.av)] [(rg, .abs (regAbs mem))] (fun v H => v = .rp rg r.1 ∧ H = [(rg, .abs (regAbs r.2))]) := by
 unfold field.Make at h
 refine Go.Lift.Spec.of_body (rs := [.tmp 4]) func8 Z Z (nb Z) Z (xr (xa (.rp rg (none : RP)) Z (pu_assign Z (AEv.rpn _)) (xe (xr (xm Z Z Z ?_)))))
 obtain ⟨r3, r3e, h⟩ := bind_some h
 refine xc Z (op_call (vs := [.int .u64 seed]) (H := [(rg, .abs (regAbs mem))]) Z call14 ⟨(tm Z), trivial⟩ (List.Perm.refl _) (dict.New_string.ok r3e rg) ?_)
 rintro _ _ ⟨rfl, rfl⟩
 refine xm Z Z Z (xe (xr (xm Z Z Z (xm Z Z Z ?_))))
 obtain ⟨r4, r4e, h⟩ := bind_some h
 refine xc Z (op_call (vs := [.rp rg r3.1, .sl .no 2 (fields.map api.Field.av)]) (H := [(rg, .abs (regAbs r3.2))]) Z call15 ⟨(tm Z), (tm Z), trivial⟩ (List.Perm.refl _) (field.Put.ok r4e rg) ?_)
 rintro _ _ ⟨rfl, rfl⟩
 refine xe (xr (xm Z Z Z (xm Z Z Z (xe (aw_ret ?_)))))
 obtain rfl := some_of h
 exact ⟨[.rp rg r3.1], _, [(rg, .abs (regAbs r4.2))], ⟨(tm Z), trivial⟩, vr, Weak.mkL [0] (by decide) ⟨⟨_, Z, Z⟩, trivial⟩ trivial, ⟨Z, Z⟩⟩

theorem mewslaw22.keys.ok {l : List api.Field} {r : (List (List UInt8)) × (List UInt8)} (h : mewslaw22.keys l = some r) : Go.Lift.Spec prog 10 [.sl .no 2 (l.map api.Field.av)] [] (fun v H => ∃ n0, v = .tup [.sl (.own n0) 1 (r.1.map AV.str), .str r.2] ∧ H = [(n0, .spare)]) := by
 unfold mewslaw22.keys at h
 refine Go.Lift.Spec.of_body (rs := [.tmp 2, .tmp 3]) func10 Z Z (nb Z) Z (xr (xa (.sl .full 1 (([] : List (List UInt8)).map AV.str)) Z (pu_assign Z (AEv.nil 1 (by decide))) (xa (.str ([] : List UInt8)) Z (pu_assign Z (AEv.const Z)) (xe (xr (xa (.sl .full 1 (([] : List (List UInt8)).map AV.str)) Z (pu_assign Z (AEv.nil 1 (by decide))) (xe ?_)))))))
 refine xr (xa (.str ([] : List UInt8)) Z (pu_assign Z (AEv.const Z)) (xe ?_))
 obtain ⟨s122, s122e, h124⟩ := bind_some h
 refine aw_meet (ν := Nat) (fun v => [(4, .sl (.own v) 1 (s122.1.map AV.str)), (5, .str s122.2)]) (fun v => [(v, .spare)]) ?_ ?_
 ·have h := s122e
  refine xr (xm Z Z Z (xa (.i (l.length : Int)) Z (pu_lenM Z underlying23 (tm Z)) (xa (.i 0) Z (pu_move Z (AEv.int _ _)) (xe (aw_block (aw_claim 4 (tm Z) fun t164 => (aw_while (σ := mewslaw22.keys.S0) (ν := Nat) (mewslaw22.keys.body0 l) (fun s149 v => [(4, .sl (.own v) 1 (s149.out.map AV.str)), (5, .str s149.first), (8, .sl .no 2 (l.map api.Field.av)), (9, .i (l.length : Int)), (10, .i s149.t10)]) (fun s149 v => [(v, .spare)]) ⟨([] : List (List UInt8)), ([] : List UInt8), 0⟩ t164 _ h (Weak.mkL [0] (by decide) ⟨⟨_, Z, Z⟩, trivial⟩ ⟨tm Z, tm Z, tm Z, tm Z, tm Z, trivial⟩) ?_)))))))
  rintro s149 n150 x152 h hx151
  unfold mewslaw22.keys.body0 at h
  refine xr (xa (.bool (decide (s149.t10 < (l.length : Int)))) Z (pu_int (v := .bool (decide (s149.t10 < (l.length : Int)))) Z Z (tm Z) (tm Z) Z) (xe (aw_seq (aw_cond (b := decide (s149.t10 < (l.length : Int))) (tm Z) (fun hb163 => ?_) (fun hb163 => ?_)))))
  ·replace h := ite_t (dec_t hb163) h
   refine aw_skip (aw_seq (aw_block (xr (xm Z Z Z ?_))))
   obtain ⟨c154, h⟩ := need_of h
   refine xa (.vptr [.str (ix l s149.t10).Key, .str (ix l s149.t10).Val]) Z (pu_indexAddrM Z underlying23 sizeOf34 (tm Z) (tm Z) c154 Z) (xc Z (op_loadVN Z isAgg34 sizeOf34 (tm Z) (nb Z) Z (xc Z (op_alloc (cs := [.str ([] : List UInt8), .str ([] : List UInt8)]) (v := .agg [.str ([] : List UInt8), .str ([] : List UInt8)]) Z zeroValue34 Z Z Z ?_))))
   intro p155
   refine xm Z Z Z (ac0 Z Z (op_store (i := 0) (cs' := [.str (ix l s149.t10).Key, .str (ix l s149.t10).Val]) Z sizeOf34 (tm Z) (v := .agg [.str (ix l s149.t10).Key, .str (ix l s149.t10).Val]) (tm Z) Z Z Z (nb Z) Z (xe ?_)))
   obtain ⟨s157, s157e, h158⟩ := letO_of h
   refine aw_meet (ν := Unit) (fun v => [(4, .sl (.own n150) 1 (s149.out.map AV.str)), (5, .str s157), (7, .ptr p155 0), (8, .sl .no 2 (l.map api.Field.av)), (9, .i (l.length : Int)), (10, .i s149.t10)]) (fun v => [(n150, .spare), (p155, .cells [.str (ix l s149.t10).Key, .str (ix l s149.t10).Val])]) ?_ ?_
   ·have h := s157e.symm
    refine xr (xm Z Z Z (xa (.bool (decide (s149.t10 = 0))) Z (pu_int (v := .bool (decide (s149.t10 = 0))) Z Z (tm Z) (AEv.int _ _) Z) (xe (aw_cond (b := decide (s149.t10 = 0)) (tm Z) (fun hb160 => ?_) (fun hb160 => ?_)))))
    ·replace h := ite_t (dec_t hb160) h
     refine aw_region (xa (.ptr p155 0) Z (fa Z underlying34 Z sizeOf9 Z Z Z) (xc Z (op_load1 (i := 0) Z isAgg9 (tm Z) Z Z (xm Z Z Z (xe ?_)))))
     subst h
     exact ⟨(), Weak.mkL [1, 0] (by decide) ⟨⟨_, Z, Z⟩, ⟨_, Z, cr, Z⟩, trivial⟩ ⟨tm Z, tm Z, tm Z, tm Z, tm Z, tm Z, trivial⟩⟩
    ·replace h := ite_f (dec_f hb160) h
     refine aw_skip ?_
     subst h
     exact ⟨(), Weak.mkL [1, 0] (by decide) ⟨⟨_, Z, Z⟩, ⟨_, Z, cr, Z⟩, trivial⟩ ⟨tm Z, tm Z, tm Z, tm Z, tm Z, tm Z, trivial⟩⟩
   ·intro _
    have h := h158
    refine aw_region (xm Z Z Z (xa (.ptr p155 0) Z (fa Z underlying34 Z sizeOf9 Z Z Z) (xc Z (op_load1 (i := 1) Z isAgg9 (tm Z) Z Z (xc Z (op_buildSlice (xs := ([(ix l s149.t10).Key] : List (List UInt8)).map AV.str) (aparts := [(0, .str (ix l s149.t10).Key)]) Z underlying25 sizeOf9 zeroValue9 (by decide) (by decide) ⟨Z, (tm Z), trivial⟩ Z Z Z ?_))))))
    obtain ⟨c161, h⟩ := need_of h
    refine xc Z (op_appendOM (q := 0) Z underlying25 underlying25 (.inl Z) typeInfo9 Z Z Z (by decide) (tm Z) Z (given_sl (tm Z)) c161 ?_)
    intro t162
    refine xm Z Z Z (xe (aw_region (xa (.i (IntKind.wrap .i64 (s149.t10 + 1))) Z (pu_int (v := .i (IntKind.wrap .i64 (s149.t10 + 1))) Z Z (tm Z) (AEv.int _ _) Z) (xm Z Z Z (xe ?_)))))
    obtain rfl := some_of h
    exact ⟨_, t162, Z, Weak.mkL [0] (by decide) ⟨⟨_, Z, Z⟩, trivial⟩ ⟨(AEv.le (tm Z) vr), tm Z, tm Z, tm Z, (AEv.le (tm Z) vr), trivial⟩⟩
  ·replace h := ite_f (dec_f hb163) h
   refine aw_exit ?_
   obtain rfl := some_of h
   have h := congrArg some (hx151 _ rfl)
   obtain rfl := some_of h
   exact ⟨n150, Weak.mkL [0] (by decide) ⟨⟨_, Z, Z⟩, trivial⟩ ⟨tm Z, tm Z, trivial⟩⟩
 ·intro n123
  have h := h124
  refine xr (xm Z Z Z (xm Z Z Z (xm Z Z Z (xm Z Z Z (xe (aw_ret ?_))))))
  obtain rfl := some_of h
  exact ⟨[.sl (.own n123) 1 (s122.1.map AV.str), .str s122.2], _, [(n123, .spare)], ⟨(tm Z), (tm Z), trivial⟩, vr, Weak.mkL [0] (by decide) ⟨⟨_, Z, Z⟩, trivial⟩ trivial, ⟨n123, Z, Z⟩⟩

theorem dict.Table_string.Drop.ok {t_ : RP} {key : List UInt8} {mem : Reg} {r : Bool × Reg} (h : dict.Table_string.Drop t_ key mem = some r) (rg : Nat) : Go.Lift.Spec prog 26 [.rp rg t_, .str key] [(rg, .abs (regAbs mem))] (fun v H => v = .bool r.1 ∧ H = [(rg, .abs (regAbs r.2))]) := by
 unfold dict.Table_string.Drop at h
 refine Go.Lift.Spec.of_body (rs := [.tmp 4]) func26 Z Z (nb Z) Z (xr (xa (.bool false) Z (pu_assign Z (AEv.bool _)) (xe (aw_seq (xr (xm Z Z Z ?_))))))
 obtain ⟨r53, r53e, h⟩ := bind_some h
 refine xc Z (op_call (vs := [.rp rg t_]) (H := [(rg, .abs (regAbs mem))]) Z call38 ⟨(tm Z), trivial⟩ (List.Perm.refl _) (dict.Table_string.ready.ok r53e rg) ?_)
 rintro _ _ ⟨rfl, rfl⟩
 refine xa (.bool (!r53.1)) Z (pu_not Z (tm Z)) (xe (aw_cond (b := (!r53.1)) (tm Z) (fun hb104 => ?_) (fun hb104 => ?_)))
 ·replace h := ite_t hb104 h
  refine xr (xa (.bool false) Z (pu_assign Z (AEv.bool _)) (xe (aw_ret ?_)))
  obtain rfl := some_of h
  exact ⟨[.bool false], _, [(rg, .abs (regAbs r53.2))], ⟨(tm Z), trivial⟩, vr, Weak.mkL [0] (by decide) ⟨⟨_, Z, Z⟩, trivial⟩ trivial, ⟨Z, Z⟩⟩
 ·replace h := ite_fb hb104 h
  refine aw_skip (xr (xm Z Z Z ?_))
  obtain ⟨r54, r54e, h⟩ := bind_some h
  refine xc Z (op_call (vs := [.rp rg t_]) (H := [(rg, .abs (regAbs r53.2))]) Z call39 ⟨(tm Z), trivial⟩ (List.Perm.refl _) (dict.Table_string.step.ok r54e rg) ?_)
  rintro _ _ ⟨rfl, rfl⟩
  refine xe (xr (xm Z Z Z (xm Z Z Z ?_)))
  obtain ⟨r55, r55e, h⟩ := bind_some h
  refine xc Z (op_call (vs := [.rp rg t_, .str key]) (H := [(rg, .abs (regAbs r54.2))]) Z call37 ⟨(tm Z), (tm Z), trivial⟩ (List.Perm.refl _) (dict.Table_string.find.ok r55e rg) ?_)
  rintro _ _ ⟨rfl, rfl⟩
  refine xm Z Z Z (xe (aw_seq (xr (xm Z Z Z (xa (.bool r55.isNone) Z (pu_regNil Z underlying85 (tm Z) AEv.nilp) (xe (aw_cond (b := r55.isNone) (tm Z) (fun hb103 => ?_) (fun hb103 => ?_))))))))
  ·replace h := ite_t hb103 h
   refine xr (xa (.bool false) Z (pu_assign Z (AEv.bool _)) (xe (aw_ret ?_)))
   obtain rfl := some_of h
   exact ⟨[.bool false], _, [(rg, .abs (regAbs r54.2))], ⟨(tm Z), trivial⟩, vr, Weak.mkL [0] (by decide) ⟨⟨_, Z, Z⟩, trivial⟩ trivial, ⟨Z, Z⟩⟩
  ·replace h := ite_fb hb103 h
   refine aw_skip (xr (xm Z Z Z (xm Z Z Z ?_)))
   obtain ⟨c56, h⟩ := need_of h
   refine xa (.rp rg r55) Z (pu_regCheck Z (tm Z) c56) ?_
   obtain ⟨r57, r57e, h⟩ := bind_some h
   refine xc Z (op_regLoad (i := 0) (av := .rp rg r57) Z isAgg87 (tm Z) Z (rLdP_eq r57e) Z ?_)
   obtain ⟨c58, h⟩ := need_of h
   refine xa (.rp rg r57) Z (pu_regCheck Z (tm Z) c58) (xa (.rp rg (rpAdd r57 2)) Z (pu_regField Z underlying89 Z sizeOf87 (by decide) (tm Z) c58 Z) ?_)
   obtain ⟨r59, r59e, h⟩ := bind_some h
   refine xc Z (op_regLoad (i := 0) (av := .rp rg r59) Z isAgg87 (tm Z) Z (rLdP_eq r59e) Z (xa (.rp rg r55) Z (pu_regCheck Z (tm Z) c56) ?_))
   obtain ⟨r60, r60e, h⟩ := bind_some h
   refine ac0 Z Z (op_regStore (i := 0) [.pt r59] Z sizeOf87 (tm Z) (v := .rp rg r59) (tm Z) Z Z Z r60e (xe (xr (xm Z Z Z ?_))))
   obtain ⟨c61, h⟩ := need_of h
   refine xa (.rp rg t_) Z (pu_regCheck Z (tm Z) c61) (xa (.rp rg (rpAdd t_ 7)) Z (pu_regField Z underlying71 Z sizeOf3 (by decide) (tm Z) c61 Z) ?_)
   obtain ⟨r62, r62e, h⟩ := bind_some h
   refine xc Z (op_regLoad (i := 0) (av := .i r62) Z isAgg3 (tm Z) Z (rLdI_eq r62e) Z (xa (.i (IntKind.wrap .i64 (r62 - 1))) Z (pu_int (v := .i (IntKind.wrap .i64 (r62 - 1))) Z Z (tm Z) (AEv.int _ _) Z) (xa (.rp rg t_) Z (pu_regCheck Z (tm Z) c61) (xa (.rp rg (rpAdd t_ 7)) Z (pu_regField Z underlying71 Z sizeOf3 (by decide) (tm Z) c61 Z) ?_))))
   obtain ⟨r63, r63e, h⟩ := bind_some h
   refine ac0 Z Z (op_regStore (i := 0) [.it .i64 (IntKind.wrap .i64 (r62 - 1))] Z sizeOf3 (tm Z) (v := .i (IntKind.wrap .i64 (r62 - 1))) (tm Z) Z Z Z r63e (xe ?_))
   obtain ⟨s82, s82e, h83⟩ := bind_some h
   refine aw_meet (ν := Unit) (fun v => []) (fun v => [(rg, .abs (regAbs s82))]) ?_ ?_
   ·have h := s82e
    refine xr (xm Z Z Z (xa (.rp rg t_) Z (pu_regCheck Z (tm Z) c61) (xa (.rp rg (rpAdd t_ 1)) Z (pu_regField Z underlying71 Z sizeOf69 (by decide) (tm Z) c61 Z) ?_)))
    obtain ⟨c85, h⟩ := need_of h
    obtain ⟨c86, h⟩ := need_of h
    refine xa (.rp rg (rpAdd (rpAdd t_ 1) 0)) Z (pu_regIndexA Z underlying69 sizeOf67 (tm Z) (AEv.int _ _) c85 c86) ?_
    obtain ⟨r87, r87e, h⟩ := bind_some h
    obtain ⟨r88, r88e, h⟩ := bind_some h
    refine xc Z (op_regLoadN (i := 0) (vs := [.it .i64 r87, .sc r88]) (avs := [.i r87, .rs rg r88]) Z isAgg67 sizeOf67 (tm Z) Z ⟨rLdI_eq r87e, rLdL_eq r88e, trivial⟩ Z (by decide) Z (xc Z (op_alloc (cs := [.i 0, .rs rg (none : RS)]) (v := .agg [.i 0, .rs rg (none : RS)]) Z zeroValue67 Z Z Z ?_)))
    intro p89
    refine ac0 Z Z (op_store (i := 0) (cs' := [.i r87, .rs rg r88]) Z sizeOf67 (tm Z) (v := .agg [.i r87, .rs rg r88]) (tm Z) Z Z Z (nb Z) Z (xe ?_))
    obtain ⟨s94, s94e, h95⟩ := bind_some h
    refine aw_meet (ν := Unit) (fun v => [(0, .rp rg t_), (6, .ptr p89 0), (57, .bool s94)]) (fun v => [(rg, .abs (regAbs r63)), (p89, .cells [.i r87, .rs rg r88])]) ?_ ?_
    ·have h := s94e
     obtain ⟨r97, r97e, h⟩ := bind_some h
     rcases Bool.eq_false_or_eq_true (!r97) with hb98 | hb98
     ·replace h := ite_t hb98 h
      rcases Bool.eq_false_or_eq_true (decide (2 < r87)) with hb99 | hb99
      ·replace h := ite_t (dec_t hb99) h
       obtain ⟨r100, r100e, h⟩ := bind_some h
       refine aw_planR (by decide +kernel) [[], [], [], [(1, 0, false)], [], [], [], [(0, 0, false)], [], [], [], [], [], [], [(1, 0, false)], [], [], [(0, 0, false)], [], [], []] [[], []] [[[(p89, .cells [.i r87, .rs rg r88])]], [[(rg, .abs (regAbs r63))]]] [.rp rg t_, .rp rg t_, .rp rg (rpAdd t_ 6), .bool r97, .bool (!r97), .bool true, .ptr p89 0, .i r87, .bool (decide (2 < r87)), .bool (decide (2 < r87)), .bool true, .rp rg t_, .rp rg t_, .rp rg (rpAdd t_ 7), .i r100, .i (IntKind.wrap .i64 (8 * r100)), .ptr p89 1, .rs rg r88, .i (rsLen r88 : Int), .bool (decide ((IntKind.wrap .i64 (8 * r100)) < (rsLen r88 : Int))), .bool (decide ((IntKind.wrap .i64 (8 * r100)) < (rsLen r88 : Int)))] (by decide +kernel) Z Z ?_ ?_
       ·exact ⟨ym Z Z Z, yp Z (pu_regCheck Z (tm Z) c61), yp Z (pu_regField Z underlying71 Z sizeOf4 (by decide) (tm Z) c61 Z), stepg_plain Z (op_regLoad (i := 0) (av := .bool r97) Z isAgg4 (tm Z) Z (rLdB_eq r97e) Z ⟨Z, Z⟩), yp Z (pu_not Z (tm Z)), AStepG.cast (ym Z Z Z) (congrArg AV.bool hb98), yq Z Z (fa Z underlying67 Z sizeOf3 Z Z Z), yg Z Z (op_load1 (i := 0) Z isAgg3 (tm Z) Z Z ⟨Z, Z⟩), yq Z Z (pu_int (v := .bool (decide (2 < r87))) Z Z (tm Z) (AEv.int _ _) Z), yp Z (pu_pick (b := true) Z (tm Z) (fun _ => (tm Z)) (fun h => nomatch h)), AStepG.cast (ym Z Z Z) (congrArg AV.bool hb99), yq Z Z (pu_move Z (tm Z)), yq Z Z (pu_regCheck Z (tm Z) c61), yq Z Z (pu_regField Z underlying71 Z sizeOf3 (by decide) (tm Z) c61 Z), yg Z Z (op_regLoad (i := 0) (av := .i r100) Z isAgg3 (tm Z) Z (rLdI_eq r100e) Z ⟨Z, Z⟩), yq Z Z (pu_int (v := .i (IntKind.wrap .i64 (8 * r100))) Z Z (AEv.int _ _) (tm Z) Z), yq Z Z (fa Z underlying67 Z sizeOf65 Z Z Z), yg Z Z (op_load1 (i := 0) Z isAgg65 (tm Z) Z Z ⟨Z, Z⟩), yq Z Z (pu_regLen Z underlying65 (tm Z)), yq Z Z (pu_int (v := .bool (decide ((IntKind.wrap .i64 (8 * r100)) < (rsLen r88 : Int)))) Z Z (tm Z) (tm Z) Z), yp Z (pu_pick (b := true) Z (tm Z) (fun _ => (tm Z)) (fun h => nomatch h)), trivial⟩
       obtain rfl := some_of h
       exact ⟨(), Weak.mkL [1, 0] (by decide) ⟨⟨_, Z, Z⟩, ⟨_, Z, cr, Z⟩, trivial⟩ ⟨tm Z, tm Z, (AEv.le (tm Z) vr), trivial⟩⟩
      ·replace h := ite_f (dec_f hb99) h
       refine aw_planR (by decide +kernel) [[], [], [], [(1, 0, false)], [], [], [], [(0, 0, false)], [], [], [], [], [], [], [], [], [], [], [], [], []] [[], []] [[[(p89, .cells [.i r87, .rs rg r88])]], [[(rg, .abs (regAbs r63))]]] [.rp rg t_, .rp rg t_, .rp rg (rpAdd t_ 6), .bool r97, .bool (!r97), .bool true, .ptr p89 0, .i r87, .bool (decide (2 < r87)), .bool (decide (2 < r87)), .bool false, .lit undef, .lit undef, .lit undef, .lit undef, .lit undef, .lit undef, .lit undef, .lit undef, .lit undef, .bool false] (by decide +kernel) Z Z ?_ ?_
       ·exact ⟨ym Z Z Z, yp Z (pu_regCheck Z (tm Z) c61), yp Z (pu_regField Z underlying71 Z sizeOf4 (by decide) (tm Z) c61 Z), stepg_plain Z (op_regLoad (i := 0) (av := .bool r97) Z isAgg4 (tm Z) Z (rLdB_eq r97e) Z ⟨Z, Z⟩), yp Z (pu_not Z (tm Z)), AStepG.cast (ym Z Z Z) (congrArg AV.bool hb98), yq Z Z (fa Z underlying67 Z sizeOf3 Z Z Z), yg Z Z (op_load1 (i := 0) Z isAgg3 (tm Z) Z Z ⟨Z, Z⟩), yq Z Z (pu_int (v := .bool (decide (2 < r87))) Z Z (tm Z) (AEv.int _ _) Z), yp Z (pu_pick (b := true) Z (tm Z) (fun _ => (tm Z)) (fun h => nomatch h)), AStepG.cast (ym Z Z Z) (congrArg AV.bool hb99), yx Z Z Z, yx Z Z Z, yx Z Z Z, yx Z Z Z, yx Z Z Z, yx Z Z Z, yx Z Z Z, yx Z Z Z, yx Z Z Z, yp Z (pu_pick (b := false) Z (tm Z) (fun h => nomatch h) (fun _ => (AEv.bool _))), trivial⟩
       obtain rfl := some_of h
       exact ⟨(), Weak.mkL [1, 0] (by decide) ⟨⟨_, Z, Z⟩, ⟨_, Z, cr, Z⟩, trivial⟩ ⟨tm Z, tm Z, tm Z, trivial⟩⟩
     ·replace h := ite_fb hb98 h
      refine aw_planR (by decide +kernel) [[], [], [], [(1, 0, false)], [], [], [], [], [], [], [], [], [], [], [], [], [], [], [], [], []] [[], []] [[[(p89, .cells [.i r87, .rs rg r88])]], [[(rg, .abs (regAbs r63))]]] [.rp rg t_, .rp rg t_, .rp rg (rpAdd t_ 6), .bool r97, .bool (!r97), .bool false, .lit undef, .lit undef, .lit undef, .bool false, .bool false, .lit undef, .lit undef, .lit undef, .lit undef, .lit undef, .lit undef, .lit undef, .lit undef, .lit undef, .bool false] (by decide +kernel) Z Z ?_ ?_
      ·exact ⟨ym Z Z Z, yp Z (pu_regCheck Z (tm Z) c61), yp Z (pu_regField Z underlying71 Z sizeOf4 (by decide) (tm Z) c61 Z), stepg_plain Z (op_regLoad (i := 0) (av := .bool r97) Z isAgg4 (tm Z) Z (rLdB_eq r97e) Z ⟨Z, Z⟩), yp Z (pu_not Z (tm Z)), AStepG.cast (ym Z Z Z) (congrArg AV.bool hb98), yx Z Z Z, yx Z Z Z, yx Z Z Z, yp Z (pu_pick (b := false) Z (tm Z) (fun h => nomatch h) (fun _ => (AEv.bool _))), ym Z Z Z, yx Z Z Z, yx Z Z Z, yx Z Z Z, yx Z Z Z, yx Z Z Z, yx Z Z Z, yx Z Z Z, yx Z Z Z, yx Z Z Z, yp Z (pu_pick (b := false) Z (tm Z) (fun h => nomatch h) (fun _ => (AEv.bool _))), trivial⟩
      obtain rfl := some_of h
      exact ⟨(), Weak.mkL [1, 0] (by decide) ⟨⟨_, Z, Z⟩, ⟨_, Z, cr, Z⟩, trivial⟩ ⟨tm Z, tm Z, tm Z, trivial⟩⟩
    ·intro _
     have h := h95
     refine aw_cond (b := s94) (tm Z) (fun hb102 => ?_) (fun hb102 => ?_)
     ·replace h := ite_t hb102 h
      refine aw_region (xm Z Z Z (xa (.ptr p89 0) Z (fa Z underlying67 Z sizeOf3 Z Z Z) (xc Z (op_load1 (i := 1) Z isAgg3 (tm Z) Z Z (xa (.i (IntKind.wrap .i64 (r87 - 1))) Z (pu_int (v := .i (IntKind.wrap .i64 (r87 - 1))) Z Z (tm Z) (AEv.int _ _) Z) ?_)))))
      obtain ⟨r101, r101e, h⟩ := bind_some h
      refine xc Z (op_call (vs := [.rp rg t_, .i (IntKind.wrap .i64 (r87 - 1))]) (H := [(rg, .abs (regAbs r63))]) Z call40 ⟨(tm Z), (tm Z), trivial⟩ (List.Perm.refl _) (dict.Table_string.part.ok r101e rg) ?_)
      rintro _ _ ⟨rfl, rfl⟩
      refine xe ?_
      obtain rfl := some_of h
      exact ⟨(), Weak.mkL [0] (by decide) ⟨⟨_, Z, Z⟩, trivial⟩ trivial⟩
     ·replace h := ite_fb hb102 h
      refine aw_skip ?_
      obtain rfl := some_of h
      exact ⟨(), Weak.mkL [0] (by decide) ⟨⟨_, Z, Z⟩, trivial⟩ trivial⟩
   ·intro _
    have h := h83
    refine xr (xa (.bool true) Z (pu_assign Z (AEv.bool _)) (xe (aw_ret ?_)))
    obtain rfl := some_of h
    exact ⟨[.bool true], _, [(rg, .abs (regAbs s82))], ⟨(tm Z), trivial⟩, vr, Weak.mkL [0] (by decide) ⟨⟨_, Z, Z⟩, trivial⟩ trivial, ⟨Z, Z⟩⟩

theorem field.Drop.ok {t_ : RP} {keys : List (List UInt8)} {mem : Reg} {r : Int × Reg} (h : field.Drop t_ keys mem = some r) (rg : Nat) : Go.Lift.Spec prog 12 [.rp rg t_, .sl .no 1 (keys.map AV.str)] [(rg, .abs (regAbs mem))] (fun v H => v = .i r.1 ∧ H = [(rg, .abs (regAbs r.2))]) := by
 unfold field.Drop at h
 refine Go.Lift.Spec.of_body (rs := [.tmp 4]) func12 Z Z (nb Z) Z (xr (xa (.i 0) Z (pu_assign Z (AEv.int _ _)) (xe (xr (xa (.i 0) Z (pu_assign Z (AEv.int _ _)) (xe ?_))))))
 obtain ⟨s112, s112e, h113⟩ := bind_some h
 refine aw_meet (ν := Unit) (fun v => [(5, .i s112.1)]) (fun v => [(rg, .abs (regAbs s112.2))]) ?_ ?_
 ·have h := s112e
  refine xr (xm Z Z Z (xa (.i (keys.length : Int)) Z (pu_lenM Z underlying25 (tm Z)) (xa (.i 0) Z (pu_move Z (AEv.int _ _)) (xe (aw_block (aw_while (σ := field.Drop.S0) (ν := Unit) (field.Drop.body0 keys t_) (fun s137 v => [(0, .rp rg t_), (5, .i s137.n), (8, .sl .no 1 (keys.map AV.str)), (9, .i (keys.length : Int)), (10, .i s137.t10)]) (fun s137 v => [(rg, .abs (regAbs s137.mem))]) ⟨0, 0, mem⟩ () _ h (Weak.mkL [0] (by decide) ⟨⟨_, Z, Z⟩, trivial⟩ ⟨tm Z, tm Z, tm Z, tm Z, tm Z, trivial⟩) ?_))))))
  rintro s137 _ x139 h hx138
  unfold field.Drop.body0 at h
  refine xr (xa (.bool (decide (s137.t10 < (keys.length : Int)))) Z (pu_int (v := .bool (decide (s137.t10 < (keys.length : Int)))) Z Z (tm Z) (tm Z) Z) (xe (aw_seq (aw_cond (b := decide (s137.t10 < (keys.length : Int))) (tm Z) (fun hb150 => ?_) (fun hb150 => ?_)))))
  ·replace h := ite_t (dec_t hb150) h
   refine aw_skip ?_
   obtain ⟨s144, s144e, h145⟩ := bind_some h
   refine aw_meet (ν := Unit) (fun v => [(0, .rp rg t_), (5, .i s144.1), (8, .sl .no 1 (keys.map AV.str)), (9, .i (keys.length : Int)), (10, .i s137.t10)]) (fun v => [(rg, .abs (regAbs s144.2))]) ?_ ?_
   ·have h := s144e
    refine aw_block (aw_seq (aw_region ?_))
    obtain ⟨c147, h⟩ := need_of h
    refine xa (.vptr [.str (ix keys s137.t10)]) Z (pu_indexAddrM Z underlying25 sizeOf9 (tm Z) (tm Z) c147 Z) (xc Z (op_loadV1 Z isAgg9 (tm Z) Z (xm Z Z Z (xe (xr (xm Z Z Z (xm Z Z Z ?_)))))))
    obtain ⟨r148, r148e, h⟩ := bind_some h
    refine xc Z (op_call (vs := [.rp rg t_, .str (ix keys s137.t10)]) (H := [(rg, .abs (regAbs s137.mem))]) Z call26 ⟨(tm Z), (tm Z), trivial⟩ (List.Perm.refl _) (dict.Table_string.Drop.ok r148e rg) ?_)
    rintro _ _ ⟨rfl, rfl⟩
    refine xe (aw_cond (b := r148.1) (tm Z) (fun hb149 => ?_) (fun hb149 => ?_))
    ·replace h := ite_t hb149 h
     refine aw_region (xm Z Z Z (xa (.i (IntKind.wrap .i64 (s137.n + 1))) Z (pu_int (v := .i (IntKind.wrap .i64 (s137.n + 1))) Z Z (tm Z) (AEv.int _ _) Z) (xm Z Z Z (xe ?_))))
     obtain rfl := some_of h
     exact ⟨(), Weak.mkL [0] (by decide) ⟨⟨_, Z, Z⟩, trivial⟩ ⟨tm Z, (AEv.le (tm Z) vr), tm Z, tm Z, tm Z, trivial⟩⟩
    ·replace h := ite_fb hb149 h
     refine aw_skip ?_
     obtain rfl := some_of h
     exact ⟨(), Weak.mkL [0] (by decide) ⟨⟨_, Z, Z⟩, trivial⟩ ⟨tm Z, tm Z, tm Z, tm Z, tm Z, trivial⟩⟩
   ·intro _
    have h := h145
    refine aw_region (xa (.i (IntKind.wrap .i64 (s137.t10 + 1))) Z (pu_int (v := .i (IntKind.wrap .i64 (s137.t10 + 1))) Z Z (tm Z) (AEv.int _ _) Z) (xm Z Z Z (xe ?_)))
    obtain rfl := some_of h
    exact ⟨_, (), Z, Weak.mkL [0] (by decide) ⟨⟨_, Z, Z⟩, trivial⟩ ⟨tm Z, tm Z, tm Z, tm Z, (AEv.le (tm Z) vr), trivial⟩⟩
  ·replace h := ite_f (dec_f hb150) h
   refine aw_exit ?_
   obtain rfl := some_of h
   have h := congrArg some (hx138 _ rfl)
   obtain rfl := some_of h
   exact ⟨(), Weak.mkL [0] (by decide) ⟨⟨_, Z, Z⟩, trivial⟩ ⟨tm Z, trivial⟩⟩
 ·intro _
  have h := h113
  refine xr (xm Z Z Z (xm Z Z Z (xe (aw_ret ?_))))
  obtain rfl := some_of h
  exact ⟨[.i s112.1], _, [(rg, .abs (regAbs s112.2))], ⟨(tm Z), trivial⟩, vr, Weak.mkL [0] (by decide) ⟨⟨_, Z, Z⟩, trivial⟩ trivial, ⟨Z, Z⟩⟩

theorem mewslaw22.FieldLast.ok {seed : Int} {fields : List api.Field} {r : Bool} (h : mewslaw22.FieldLast seed fields = some r) : Go.Lift.Spec prog 3 [.int .u64 seed, .sl .no 2 (fields.map api.Field.av)] [] (fun v H => v = .bool r ∧ H = []) := by
 unfold mewslaw22.FieldLast at h
 refine Go.Lift.Spec.of_body (rs := [.tmp 4]) func3 Z Z (nb Z) Z (aw_regNew fun rg => (xr (xa (.bool false) Z (pu_assign Z (AEv.bool _)) (xe (aw_seq (xr (xm Z Z Z ?_)))))))
 refine xa (.agg (api.Value.ct .full .no .full ({ Kind := 0, Text := ([] : List UInt8), List_ := ([] : List (List UInt8)), Hash := fields, ZSet := ([] : List api.Scored) } : api.Value))) Z (pu_build (zs := [.i 0, .str ([] : List UInt8), .sl .full 1 (([] : List (List UInt8)).map AV.str), .sl .full 2 (([] : List api.Field).map api.Field.av), .sl .full 2 (([] : List api.Scored).map api.Scored.av)]) (szs := [1, 1, 1, 1, 1]) (aparts := [(3, .sl .no 2 (fields.map api.Field.av))]) (cs := [.i 0, .str ([] : List UInt8), .sl .full 1 (([] : List (List UInt8)).map AV.str), .sl .no 2 (fields.map api.Field.av), .sl .full 2 (([] : List api.Scored).map api.Scored.av)]) Z underlying28 zeroValue28 Z ⟨sizeOf3, sizeOf9, sizeOf25, sizeOf23, sizeOf26, trivial⟩ ⟨Z, (tm Z), trivial⟩ Z) (xc Z (op_buildSlice (xs := ([({ Kind := 0, Text := ([] : List UInt8), List_ := ([] : List (List UInt8)), Hash := fields, ZSet := ([] : List api.Scored) } : api.Value)] : List api.Value).map api.Value.av) (aparts := [(0, .agg (api.Value.ct .no .no .no ({ Kind := 0, Text := ([] : List UInt8), List_ := ([] : List (List UInt8)), Hash := fields, ZSet := ([] : List api.Scored) } : api.Value)))]) Z underlying58 sizeOf28 zeroValue28 (by decide) (by decide) ⟨Z, (AEv.le (tm Z) (AV.Le.agg ⟨vr, vr, (AV.Le.forget _ _ _), vr, (AV.Le.forget _ _ _), trivial⟩)), trivial⟩ Z Z Z ?_))
 obtain ⟨r614, r614e, h⟩ := bind_some h
 refine xc Z (op_call (vs := [.sl .no 5 ([({ Kind := 0, Text := ([] : List UInt8), List_ := ([] : List (List UInt8)), Hash := fields, ZSet := ([] : List api.Scored) } : api.Value)].map api.Value.av)]) (H := []) Z call6 ⟨(AEv.le (tm Z) (AV.Le.forget _ _ _)), trivial⟩ (List.Perm.refl _) (mewslaw19.Far.ok r614e) ?_)
 rintro _ _ ⟨rfl, rfl⟩
 refine xe (aw_cond (b := r614) (tm Z) (fun hb1226 => ?_) (fun hb1226 => ?_))
 ·replace h := ite_t hb1226 h
  refine aw_seq (aw_region ?_)
  obtain ⟨r615, r615e, h⟩ := bind_some h
  refine xc Z (op_call (vs := []) (H := []) Z call7 trivial (List.Perm.refl _) (mewslaw22.alive.ok r615e) ?_)
  rintro _ _ ⟨rfl, rfl⟩
  refine xm Z Z Z (xe (aw_ret ?_))
  obtain rfl := some_of h
  exact ⟨[.bool r615], _, [], ⟨(tm Z), trivial⟩, vr, Weak.mkL [] (by decide) trivial trivial, ⟨Z, Z⟩⟩
 ·replace h := ite_fb hb1226 h
  refine aw_skip (xr (xm Z Z Z (xm Z Z Z ?_)))
  obtain ⟨r616, r616e, h⟩ := bind_some h
  refine xc Z (op_call (vs := [.int .u64 seed, .sl .no 2 (fields.map api.Field.av)]) (H := [(rg, .abs (regAbs ([] : Reg)))]) Z call8 ⟨(tm Z), (tm Z), trivial⟩ (List.Perm.refl _) (field.Make.ok r616e rg) ?_)
  rintro _ _ ⟨rfl, rfl⟩
  refine xm Z Z Z (xe (xr (xm Z Z Z ?_)))
  obtain ⟨r617, r617e, h⟩ := bind_some h
  refine xc Z (op_call (vs := [.rp rg r616.1]) (H := [(rg, .abs (regAbs r616.2))]) Z call9 ⟨(tm Z), trivial⟩ (List.Perm.refl _) (field.All.ok r617e rg) ?_)
  rintro _ _ ⟨t618, rfl, rfl⟩
  refine xm Z Z Z (xe ?_)
  obtain ⟨s1225, s1225e, h890⟩ := bind_some h
  refine aw_join (σ := Unit) (ν := Unit) (fun u v => [(1, .sl .no 2 (fields.map api.Field.av)), (5, .rp rg r616.1), (6, .sl (.own t618) 2 (r617.1.map api.Field.av))]) (fun u v => [(rg, .abs (regAbs r617.2)), (t618, .spare)]) (fun u => s1225 = .inl u) ?_ ?_
  ·intro s889
   intro _
   rintro rfl
   have h := onSum_inl h890
   refine xr (xm Z Z Z ?_)
   obtain ⟨r1162, r1162e, h⟩ := bind_some h
   refine xc Z (op_call (vs := [.sl .no 2 (fields.map api.Field.av)]) (H := []) Z call10 ⟨(tm Z), trivial⟩ (List.Perm.refl _) (mewslaw22.keys.ok r1162e) ?_)
   rintro _ _ ⟨t1163, rfl, rfl⟩
   refine xm Z Z Z (xa (.sl (.own t1163) 1 (r1162.1.map AV.str)) Z (pu_extract Z (tm Z) (nb Z) Z) (xa (.str r1162.2) Z (pu_extract Z (tm Z) (nb Z) Z) (xm Z Z Z (xm Z Z Z (xe ?_)))))
   obtain ⟨s1224, s1224e, h1186⟩ := bind_some h
   refine aw_join (σ := Unit) (ν := Unit) (fun u v => [(5, .rp rg r616.1), (6, .sl (.own t618) 2 (r617.1.map api.Field.av)), (12, .sl (.own t1163) 1 (r1162.1.map AV.str))]) (fun u v => [(rg, .abs (regAbs r617.2)), (t618, .spare), (t1163, .spare)]) (fun u => s1224 = .inl u) ?_ ?_
   ·intro s1185
    intro _
    rintro rfl
    have h := onSum_inl h1186
    obtain ⟨s1215, s1215e, h1216⟩ := bind_some h
    refine aw_meet (ν := Unit) (fun v => [(4, .bool s1215.1)]) (fun v => [(rg, .abs (regAbs s1215.2))]) ?_ ?_
    ·have h := s1215e
     refine aw_region (xm Z Z Z (xm Z Z Z ?_))
     obtain ⟨r1218, r1218e, h⟩ := bind_some h
     refine xc Z (op_call (vs := [.rp rg r616.1, .sl .no 1 (r1162.1.map AV.str)]) (H := [(rg, .abs (regAbs r617.2))]) Z call12 ⟨(tm Z), (AEv.le (tm Z) (AV.Le.forget _ _ _)), trivial⟩ (List.Perm.refl _) (field.Drop.ok r1218e rg) ?_)
     rintro _ _ ⟨rfl, rfl⟩
     refine xm Z Z Z (xa (.i (r617.1.length : Int)) Z (pu_lenM Z underlying23 (tm Z)) (xa (.bool (decide (r1218.1 = (r617.1.length : Int)))) Z (pu_int (v := .bool (decide (r1218.1 = (r617.1.length : Int)))) Z Z (tm Z) (tm Z) Z) (xm Z Z Z ?_)))
     rcases Bool.eq_false_or_eq_true (decide (r1218.1 = (r617.1.length : Int))) with hb1219 | hb1219
     ·replace h := ite_t (dec_t hb1219) h
      refine aops_known 91 Z hb1219 (xq Z Z Z Z ?_)
      obtain ⟨r1220, r1220e, h⟩ := bind_some h
      refine xg Z Z (op_call (vs := [.rp rg r616.1]) (H := [(rg, .abs (regAbs r1218.2))]) Z call9 ⟨(tm Z), trivial⟩ (List.Perm.refl _) (field.All.ok r1220e rg) ?_)
      rintro _ _ ⟨t1221, rfl, rfl⟩
      refine xp (.i (r1220.1.length : Int)) Z Z (pu_lenM Z underlying23 (tm Z)) (xp (.bool (decide ((r1220.1.length : Int) = 0))) Z Z (pu_int (v := .bool (decide ((r1220.1.length : Int) = 0))) Z Z (tm Z) (AEv.int _ _) Z) (xa (.bool (decide ((r1220.1.length : Int) = 0))) Z (pu_pick (b := true) Z (tm Z) (fun _ => (tm Z)) (fun h => nomatch h)) (xm Z Z Z ?_)))
      rcases Bool.eq_false_or_eq_true (decide ((r1220.1.length : Int) = 0)) with hb1222 | hb1222
      ·replace h := ite_t (dec_t hb1222) h
       refine aops_known 97 Z hb1222 ?_
       obtain ⟨r1223, r1223e, h⟩ := bind_some h
       refine xg Z Z (op_call (vs := []) (H := []) Z call7 trivial (List.Perm.refl _) (mewslaw22.alive.ok r1223e) ?_)
       rintro _ _ ⟨rfl, rfl⟩
       refine xa (.bool r1223) Z (pu_pick (b := true) Z (tm Z) (fun _ => (tm Z)) (fun h => nomatch h)) (xm Z Z Z (xe ?_))
       obtain rfl := some_of h
       exact ⟨(), Weak.mkL [0] (by decide) ⟨⟨_, Z, Z⟩, trivial⟩ ⟨tm Z, trivial⟩⟩
      ·replace h := ite_f (dec_f hb1222) h
       refine aops_known 97 Z hb1222 (xn Z Z Z (xa (.bool false) Z (pu_pick (b := false) Z (tm Z) (fun h => nomatch h) (fun _ => (AEv.bool _))) (xm Z Z Z (xe ?_))))
       obtain rfl := some_of h
       exact ⟨(), Weak.mkL [0] (by decide) ⟨⟨_, Z, Z⟩, trivial⟩ ⟨tm Z, trivial⟩⟩
     ·replace h := ite_f (dec_f hb1219) h
      refine aops_known 91 Z hb1219 (xn Z Z Z (xn Z Z Z (xn Z Z Z (xn Z Z Z (xa (.bool false) Z (pu_pick (b := false) Z (tm Z) (fun h => nomatch h) (fun _ => (AEv.bool _))) (xm Z Z Z (xn Z Z Z (xa (.bool false) Z (pu_pick (b := false) Z (tm Z) (fun h => nomatch h) (fun _ => (AEv.bool _))) (xm Z Z Z ?_)))))))))
      refine xe ?_
      obtain rfl := some_of h
      exact ⟨(), Weak.mkL [0] (by decide) ⟨⟨_, Z, Z⟩, trivial⟩ ⟨tm Z, trivial⟩⟩
    ·intro _
     have h := h1216
     refine aw_ret ?_
     obtain rfl := some_of h
     exact ⟨[.bool s1215.1], _, [], ⟨(tm Z), trivial⟩, vr, Weak.mkL [] (by decide) trivial trivial, ⟨Z, Z⟩⟩
   ·have h := s1224e
    refine xr (xm Z Z Z (xa (.i (r1162.1.length : Int)) Z (pu_lenM Z underlying25 (tm Z)) (xa (.i 0) Z (pu_move Z (AEv.int _ _)) (xe (aw_block (aw_while (σ := mewslaw22.FieldLast.S4) (ν := Unit) (mewslaw22.FieldLast.body4 r1162 r616 r617) (fun s1200 v => [(5, .rp rg r616.1), (6, .sl (.own t618) 2 (r617.1.map api.Field.av)), (12, .sl (.own t1163) 1 (r1162.1.map AV.str)), (72, .sl (.own t1163) 1 (r1162.1.map AV.str)), (73, .i (r1162.1.length : Int)), (74, .i s1200.t74)]) (fun s1200 v => [(rg, .abs (regAbs r617.2)), (t618, .spare), (t1163, .spare)]) ⟨0⟩ () _ h (Weak.mkL [1, 2, 0] (by decide) ⟨⟨_, Z, Z⟩, ⟨_, Z, Z⟩, ⟨_, Z, Z⟩, trivial⟩ ⟨tm Z, tm Z, tm Z, tm Z, tm Z, tm Z, trivial⟩) ?_))))))
    rintro s1200 _ x1202 h hx1201
    unfold mewslaw22.FieldLast.body4 at h
    refine xr (xa (.bool (decide (s1200.t74 < (r1162.1.length : Int)))) Z (pu_int (v := .bool (decide (s1200.t74 < (r1162.1.length : Int)))) Z Z (tm Z) (tm Z) Z) (xe (aw_seq (aw_cond (b := decide (s1200.t74 < (r1162.1.length : Int))) (tm Z) (fun hb1208 => ?_) (fun hb1208 => ?_)))))
    ·replace h := ite_t (dec_t hb1208) h
     refine aw_skip (aw_seq (aw_block (aw_seq (aw_region ?_))))
     obtain ⟨c1204, h⟩ := need_of h
     refine xa (.vptr [.str (ix r1162.1 s1200.t74)]) Z (pu_indexAddrM Z underlying25 sizeOf9 (tm Z) (tm Z) c1204 Z) (xc Z (op_loadV1 Z isAgg9 (tm Z) Z (xm Z Z Z (xe (xr (xm Z Z Z (xm Z Z Z (xc Z (op_buildSlice (xs := ([ix r1162.1 s1200.t74] : List (List UInt8)).map AV.str) (aparts := [(0, .str (ix r1162.1 s1200.t74))]) Z underlying25 sizeOf9 zeroValue9 (by decide) (by decide) ⟨Z, (tm Z), trivial⟩ Z Z Z ?_)))))))))
     obtain ⟨r1205, r1205e, h⟩ := bind_some h
     refine xc Z (op_call (vs := [.rp rg r616.1, .sl .no 1 ([ix r1162.1 s1200.t74].map AV.str)]) (H := [(rg, .abs (regAbs r617.2))]) Z call11 ⟨(tm Z), (AEv.le (tm Z) (AV.Le.forget _ _ _)), trivial⟩ (List.Perm.refl _) (field.Get.ok r1205e rg) ?_)
     rintro _ _ ⟨t1206, rfl, rfl⟩
     refine xa (.i (r1205.length : Int)) Z (pu_lenM Z underlying23 (tm Z)) (xa (.bool (!decide ((r1205.length : Int) = 1))) Z (pu_int (v := .bool (!decide ((r1205.length : Int) = 1))) Z Z (tm Z) (AEv.int _ _) Z) (xe (aw_cond (b := (!decide ((r1205.length : Int) = 1))) (tm Z) (fun hb1207 => ?_) (fun hb1207 => ?_))))
     ·replace h := ite_f (ndec_t hb1207) h
      refine xr (xa (.bool false) Z (pu_assign Z (AEv.bool _)) (xe (aw_ret ?_)))
      obtain rfl := some_of h
      have h := congrArg some (hx1201 _ rfl)
      obtain rfl := some_of h
      have h := onSum_inr h1186
      obtain rfl := some_of h
      exact ⟨[.bool false], _, [], ⟨(tm Z), trivial⟩, vr, Weak.mkL [] (by decide) trivial trivial, ⟨Z, Z⟩⟩
     ·replace h := ite_t (ndec_f hb1207) h
      refine aw_skip (aw_region (xa (.i (IntKind.wrap .i64 (s1200.t74 + 1))) Z (pu_int (v := .i (IntKind.wrap .i64 (s1200.t74 + 1))) Z Z (tm Z) (AEv.int _ _) Z) (xm Z Z Z (xe ?_))))
      obtain rfl := some_of h
      exact ⟨_, (), Z, Weak.mkL [0, 2, 3] (by decide) ⟨⟨_, Z, Z⟩, ⟨_, Z, Z⟩, ⟨_, Z, Z⟩, trivial⟩ ⟨tm Z, tm Z, tm Z, tm Z, tm Z, (AEv.le (tm Z) vr), trivial⟩⟩
    ·replace h := ite_f (dec_f hb1208) h
     refine aw_exit ?_
     obtain rfl := some_of h
     have h := congrArg some (hx1201 _ rfl)
     exact ⟨(), (), (some_of h).symm, Weak.mkL [0, 1, 2] (by decide) ⟨⟨_, Z, Z⟩, ⟨_, Z, Z⟩, ⟨_, Z, Z⟩, trivial⟩ ⟨tm Z, tm Z, tm Z, trivial⟩⟩
  ·have h := s1225e
   refine xr (xm Z Z Z (xa (.i (r617.1.length : Int)) Z (pu_lenM Z underlying23 (tm Z)) (xa (.i 0) Z (pu_move Z (AEv.int _ _)) (xe (aw_block (aw_while (σ := mewslaw22.FieldLast.S0) (ν := Unit) (mewslaw22.FieldLast.body0 r617 fields) (fun s1070 v => [(1, .sl .no 2 (fields.map api.Field.av)), (5, .rp rg r616.1), (6, .sl (.own t618) 2 (r617.1.map api.Field.av)), (26, .sl (.own t618) 2 (r617.1.map api.Field.av)), (27, .i (r617.1.length : Int)), (28, .i s1070.t28)]) (fun s1070 v => [(rg, .abs (regAbs r617.2)), (t618, .spare)]) ⟨0⟩ () _ h (Weak.mkL [0, 1] (by decide) ⟨⟨_, Z, Z⟩, ⟨_, Z, Z⟩, trivial⟩ ⟨tm Z, tm Z, tm Z, tm Z, tm Z, tm Z, trivial⟩) ?_))))))
   rintro s1070 _ x1072 h hx1071
   unfold mewslaw22.FieldLast.body0 at h
   refine xr (xa (.bool (decide (s1070.t28 < (r617.1.length : Int)))) Z (pu_int (v := .bool (decide (s1070.t28 < (r617.1.length : Int)))) Z Z (tm Z) (tm Z) Z) (xe (aw_seq (aw_cond (b := decide (s1070.t28 < (r617.1.length : Int))) (tm Z) (fun hb1161 => ?_) (fun hb1161 => ?_)))))
   ·replace h := ite_t (dec_t hb1161) h
    refine aw_skip (aw_seq (aw_block (xr (xm Z Z Z ?_))))
    obtain ⟨c1074, h⟩ := need_of h
    refine xa (.vptr [.str (ix r617.1 s1070.t28).Key, .str (ix r617.1 s1070.t28).Val]) Z (pu_indexAddrM Z underlying23 sizeOf34 (tm Z) (tm Z) c1074 Z) (xc Z (op_loadVN Z isAgg34 sizeOf34 (tm Z) (nb Z) Z (xc Z (op_alloc (cs := [.str ([] : List UInt8), .str ([] : List UInt8)]) (v := .agg [.str ([] : List UInt8), .str ([] : List UInt8)]) Z zeroValue34 Z Z Z ?_))))
    intro p1075
    refine xm Z Z Z (ac0 Z Z (op_store (i := 0) (cs' := [.str (ix r617.1 s1070.t28).Key, .str (ix r617.1 s1070.t28).Val]) Z sizeOf34 (tm Z) (v := .agg [.str (ix r617.1 s1070.t28).Key, .str (ix r617.1 s1070.t28).Val]) (tm Z) Z Z Z (nb Z) Z (xe (xr (xa (.str ([] : List UInt8)) Z (pu_assign Z (AEv.const Z)) (xe ?_))))))
    obtain ⟨s1112, s1112e, h1113⟩ := bind_some h
    refine aw_meet (ν := Unit) (fun v => [(1, .sl .no 2 (fields.map api.Field.av)), (5, .rp rg r616.1), (6, .sl (.own t618) 2 (r617.1.map api.Field.av)), (7, .i s1070.t28), (8, .ptr p1075 0), (9, .str s1112), (26, .sl (.own t618) 2 (r617.1.map api.Field.av)), (27, .i (r617.1.length : Int)), (28, .i s1070.t28)]) (fun v => [(rg, .abs (regAbs r617.2)), (t618, .spare), (p1075, .cells [.str (ix r617.1 s1070.t28).Key, .str (ix r617.1 s1070.t28).Val])]) ?_ ?_
    ·have h := s1112e
     refine xr (xm Z Z Z (xa (.i (fields.length : Int)) Z (pu_lenM Z underlying23 (tm Z)) (xa (.i 0) Z (pu_move Z (AEv.int _ _)) (xe (aw_block (aw_while (σ := mewslaw22.FieldLast.S2) (ν := Unit) (mewslaw22.FieldLast.body2 fields r617 s1070) (fun s1137 v => [(1, .sl .no 2 (fields.map api.Field.av)), (5, .rp rg r616.1), (6, .sl (.own t618) 2 (r617.1.map api.Field.av)), (7, .i s1070.t28), (8, .ptr p1075 0), (9, .str s1137.last), (26, .sl (.own t618) 2 (r617.1.map api.Field.av)), (27, .i (r617.1.length : Int)), (28, .i s1070.t28), (33, .sl .no 2 (fields.map api.Field.av)), (34, .i (fields.length : Int)), (35, .i s1137.t35)]) (fun s1137 v => [(rg, .abs (regAbs r617.2)), (t618, .spare), (p1075, .cells [.str (ix r617.1 s1070.t28).Key, .str (ix r617.1 s1070.t28).Val])]) ⟨([] : List UInt8), 0⟩ () _ h (Weak.mkL [1, 2, 0] (by decide) ⟨⟨_, Z, Z⟩, ⟨_, Z, Z⟩, ⟨_, Z, cr, Z⟩, trivial⟩ ⟨tm Z, tm Z, tm Z, tm Z, tm Z, tm Z, tm Z, tm Z, tm Z, tm Z, tm Z, tm Z, trivial⟩) ?_))))))
     rintro s1137 _ x1139 h hx1138
     unfold mewslaw22.FieldLast.body2 at h
     refine xr (xa (.bool (decide (s1137.t35 < (fields.length : Int)))) Z (pu_int (v := .bool (decide (s1137.t35 < (fields.length : Int)))) Z Z (tm Z) (tm Z) Z) (xe (aw_seq (aw_cond (b := decide (s1137.t35 < (fields.length : Int))) (tm Z) (fun hb1150 => ?_) (fun hb1150 => ?_)))))
     ·replace h := ite_t (dec_t hb1150) h
      refine aw_skip ?_
      obtain ⟨s1144, s1144e, h1145⟩ := bind_some h
      refine aw_meet (ν := Unit) (fun v => [(1, .sl .no 2 (fields.map api.Field.av)), (5, .rp rg r616.1), (6, .sl (.own t618) 2 (r617.1.map api.Field.av)), (7, .i s1070.t28), (8, .ptr p1075 0), (9, .str s1144), (26, .sl (.own t618) 2 (r617.1.map api.Field.av)), (27, .i (r617.1.length : Int)), (28, .i s1070.t28), (33, .sl .no 2 (fields.map api.Field.av)), (34, .i (fields.length : Int)), (35, .i s1137.t35)]) (fun v => [(rg, .abs (regAbs r617.2)), (t618, .spare), (p1075, .cells [.str (ix r617.1 s1070.t28).Key, .str (ix r617.1 s1070.t28).Val])]) ?_ ?_
      ·have h := s1144e
       refine aw_block (aw_seq (aw_region ?_))
       obtain ⟨c1147, h⟩ := need_of h
       refine xa (.vptr [.str (ix fields s1137.t35).Key, .str (ix fields s1137.t35).Val]) Z (pu_indexAddrM Z underlying23 sizeOf34 (tm Z) (tm Z) c1147 Z) (xc Z (op_loadVN Z isAgg34 sizeOf34 (tm Z) (nb Z) Z (xc Z (op_alloc (cs := [.str ([] : List UInt8), .str ([] : List UInt8)]) (v := .agg [.str ([] : List UInt8), .str ([] : List UInt8)]) Z zeroValue34 Z Z Z ?_))))
       intro p1148
       refine ac0 Z Z (op_store (i := 0) (cs' := [.str (ix fields s1137.t35).Key, .str (ix fields s1137.t35).Val]) Z sizeOf34 (tm Z) (v := .agg [.str (ix fields s1137.t35).Key, .str (ix fields s1137.t35).Val]) (tm Z) Z Z Z (nb Z) Z (xe (xr (xa (.ptr p1148 0) Z (fa Z underlying34 Z sizeOf9 Z Z Z) (xc Z (op_load1 (i := 0) Z isAgg9 (tm Z) Z Z (xa (.ptr p1075 0) Z (fa Z underlying34 Z sizeOf9 Z Z Z) (xc Z (op_load1 (i := 3) Z isAgg9 (tm Z) Z Z (xa (.bool (decide ((ix fields s1137.t35).Key = (ix r617.1 s1070.t28).Key))) Z (pu_str (v := .bool (decide ((ix fields s1137.t35).Key = (ix r617.1 s1070.t28).Key))) Z Z (tm Z) (tm Z) Z) (xe ?_)))))))))))
       refine aw_cond (b := decide ((ix fields s1137.t35).Key = (ix r617.1 s1070.t28).Key)) (tm Z) (fun hb1149 => ?_) (fun hb1149 => ?_)
       ·replace h := ite_t (dec_t hb1149) h
        refine aw_region (xa (.ptr p1148 1) Z (fa Z underlying34 Z sizeOf9 Z Z Z) (xc Z (op_load1 (i := 0) Z isAgg9 (tm Z) Z Z (xm Z Z Z (xe ?_)))))
        obtain rfl := some_of h
        exact ⟨(), Weak.mkL [1, 2, 3] (by decide) ⟨⟨_, Z, Z⟩, ⟨_, Z, Z⟩, ⟨_, Z, cr, Z⟩, trivial⟩ ⟨tm Z, tm Z, tm Z, tm Z, tm Z, tm Z, tm Z, tm Z, tm Z, tm Z, tm Z, tm Z, trivial⟩⟩
       ·replace h := ite_f (dec_f hb1149) h
        refine aw_skip ?_
        obtain rfl := some_of h
        exact ⟨(), Weak.mkL [1, 2, 3] (by decide) ⟨⟨_, Z, Z⟩, ⟨_, Z, Z⟩, ⟨_, Z, cr, Z⟩, trivial⟩ ⟨tm Z, tm Z, tm Z, tm Z, tm Z, tm Z, tm Z, tm Z, tm Z, tm Z, tm Z, tm Z, trivial⟩⟩
      ·intro _
       have h := h1145
       refine aw_region (xa (.i (IntKind.wrap .i64 (s1137.t35 + 1))) Z (pu_int (v := .i (IntKind.wrap .i64 (s1137.t35 + 1))) Z Z (tm Z) (AEv.int _ _) Z) (xm Z Z Z (xe ?_)))
       obtain rfl := some_of h
       exact ⟨_, (), Z, Weak.mkL [0, 1, 2] (by decide) ⟨⟨_, Z, Z⟩, ⟨_, Z, Z⟩, ⟨_, Z, cr, Z⟩, trivial⟩ ⟨tm Z, tm Z, tm Z, tm Z, tm Z, tm Z, tm Z, tm Z, tm Z, tm Z, tm Z, (AEv.le (tm Z) vr), trivial⟩⟩
     ·replace h := ite_f (dec_f hb1150) h
      refine aw_exit ?_
      obtain rfl := some_of h
      have h := congrArg some (hx1138 _ rfl)
      obtain rfl := some_of h
      exact ⟨(), Weak.mkL [0, 1, 2] (by decide) ⟨⟨_, Z, Z⟩, ⟨_, Z, Z⟩, ⟨_, Z, cr, Z⟩, trivial⟩ ⟨tm Z, tm Z, tm Z, tm Z, tm Z, tm Z, tm Z, tm Z, tm Z, trivial⟩⟩
    ·intro _
     have h := h1113
     obtain ⟨s1154, s1154e, h1155⟩ := bind_some h
     refine aw_meet (ν := Unit) (fun v => [(1, .sl .no 2 (fields.map api.Field.av)), (5, .rp rg r616.1), (6, .sl (.own t618) 2 (r617.1.map api.Field.av)), (26, .sl (.own t618) 2 (r617.1.map api.Field.av)), (27, .i (r617.1.length : Int)), (28, .i s1070.t28), (65, .bool s1154)]) (fun v => [(rg, .abs (regAbs r617.2)), (t618, .spare)]) ?_ ?_
     ·have h := s1154e
      rcases Bool.eq_false_or_eq_true (!decide ((ix r617.1 s1070.t28).Val = s1112)) with hb1157 | hb1157
      ·replace h := ite_f (ndec_t hb1157) h
       refine aw_planR (by decide +kernel) [[], [(2, 0, false)], [], [], [], [], [], [], [], [], [], [], [], [], [], [], [], [], []] [[], [], []] [[[(rg, .abs (regAbs r617.2))]], [[(t618, .spare)]], [[(p1075, .cells [.str (ix r617.1 s1070.t28).Key, .str (ix r617.1 s1070.t28).Val])]]] [.ptr p1075 1, .str (ix r617.1 s1070.t28).Val, .str s1112, .bool (!decide ((ix r617.1 s1070.t28).Val = s1112)), .bool true, .lit undef, .lit undef, .lit undef, .lit undef, .lit undef, .lit undef, .lit undef, .lit undef, .lit undef, .lit undef, .lit undef, .lit undef, .lit undef, .bool true] (by decide +kernel) Z Z ?_ ?_
       ·exact ⟨yp Z (fa Z underlying34 Z sizeOf9 Z Z Z), stepg_plain Z (op_load1 (i := 0) Z isAgg9 (tm Z) Z Z ⟨Z, Z⟩), ym Z Z Z, yp Z (pu_str (v := .bool (!decide ((ix r617.1 s1070.t28).Val = s1112))) Z Z (tm Z) (tm Z) Z), AStepG.cast (ym Z Z Z) (congrArg AV.bool hb1157), yx Z Z Z, yx Z Z Z, yx Z Z Z, yy Z Z, yy Z Z, yy Z Z, yy Z Z, yy Z Z, yy Z Z, yy Z Z, yy Z Z, yy Z Z, yx Z Z Z, yp Z (pu_pick (b := true) Z (tm Z) (fun _ => (AEv.bool _)) (fun h => nomatch h)), trivial⟩
       obtain rfl := some_of h
       exact ⟨(), Weak.mkL [0, 1] (by decide) ⟨⟨_, Z, Z⟩, ⟨_, Z, Z⟩, trivial⟩ ⟨tm Z, tm Z, tm Z, tm Z, tm Z, tm Z, tm Z, trivial⟩⟩
      ·replace h := ite_t (ndec_f hb1157) h
       rcases Bool.eq_false_or_eq_true (decide (0 < s1070.t28)) with hb1158 | hb1158
       ·replace h := ite_t (dec_t hb1158) h
        obtain ⟨c1159, h⟩ := need_of h
        refine aw_planR (by decide +kernel) [[], [(2, 0, false)], [], [], [], [], [], [], [], [], [], [], [], [], [], [(2, 0, false)], [], [], []] [[], [], []] [[[(rg, .abs (regAbs r617.2))]], [[(t618, .spare)]], [[(p1075, .cells [.str (ix r617.1 s1070.t28).Key, .str (ix r617.1 s1070.t28).Val])]]] [.ptr p1075 1, .str (ix r617.1 s1070.t28).Val, .str s1112, .bool (!decide ((ix r617.1 s1070.t28).Val = s1112)), .bool false, .i s1070.t28, .bool (decide (0 < s1070.t28)), .bool true, .sl (.own t618) 2 (r617.1.map api.Field.av), .i s1070.t28, .i (IntKind.wrap .i64 (s1070.t28 - 1)), .vptr [.str (ix r617.1 (IntKind.wrap .i64 (s1070.t28 - 1))).Key, .str (ix r617.1 (IntKind.wrap .i64 (s1070.t28 - 1))).Val], .vptr [.str (ix r617.1 (IntKind.wrap .i64 (s1070.t28 - 1))).Key, .str (ix r617.1 (IntKind.wrap .i64 (s1070.t28 - 1))).Val], .str (ix r617.1 (IntKind.wrap .i64 (s1070.t28 - 1))).Key, .ptr p1075 0, .str (ix r617.1 s1070.t28).Key, .bool (!strLt (ix r617.1 (IntKind.wrap .i64 (s1070.t28 - 1))).Key (ix r617.1 s1070.t28).Key), .bool (!strLt (ix r617.1 (IntKind.wrap .i64 (s1070.t28 - 1))).Key (ix r617.1 s1070.t28).Key), .bool (!strLt (ix r617.1 (IntKind.wrap .i64 (s1070.t28 - 1))).Key (ix r617.1 s1070.t28).Key)] (by decide +kernel) Z Z ?_ ?_
        ·exact ⟨yp Z (fa Z underlying34 Z sizeOf9 Z Z Z), stepg_plain Z (op_load1 (i := 0) Z isAgg9 (tm Z) Z Z ⟨Z, Z⟩), ym Z Z Z, yp Z (pu_str (v := .bool (!decide ((ix r617.1 s1070.t28).Val = s1112))) Z Z (tm Z) (tm Z) Z), AStepG.cast (ym Z Z Z) (congrArg AV.bool hb1157), yq Z Z (pu_move Z (tm Z)), yq Z Z (pu_int (v := .bool (decide (0 < s1070.t28))) Z Z (tm Z) (AEv.int _ _) Z), AStepG.cast (yq Z Z (pu_move Z (tm Z))) (congrArg AV.bool hb1158), yq Z Z (pu_move Z (tm Z)), yq Z Z (pu_move Z (tm Z)), yq Z Z (pu_int (v := .i (IntKind.wrap .i64 (s1070.t28 - 1))) Z Z (tm Z) (AEv.int _ _) Z), yq Z Z (pu_indexAddrM Z underlying23 sizeOf34 (tm Z) (tm Z) c1159 Z), yq Z Z (fa Z underlying34 Z sizeOf9 Z Z Z), yg Z Z (op_loadV1 Z isAgg9 (tm Z) Z ⟨Z, Z⟩), yq Z Z (fa Z underlying34 Z sizeOf9 Z Z Z), yg Z Z (op_load1 (i := 0) Z isAgg9 (tm Z) Z Z ⟨Z, Z⟩), yq Z Z (pu_str (v := .bool (!strLt (ix r617.1 (IntKind.wrap .i64 (s1070.t28 - 1))).Key (ix r617.1 s1070.t28).Key)) Z Z (tm Z) (tm Z) Z), yq Z Z (pu_pick (b := true) Z (tm Z) (fun _ => (tm Z)) (fun h => nomatch h)), yp Z (pu_pick (b := false) Z (tm Z) (fun h => nomatch h) (fun _ => (tm Z))), trivial⟩
        obtain rfl := some_of h
        exact ⟨(), Weak.mkL [0, 1] (by decide) ⟨⟨_, Z, Z⟩, ⟨_, Z, Z⟩, trivial⟩ ⟨tm Z, tm Z, tm Z, tm Z, tm Z, tm Z, tm Z, trivial⟩⟩
       ·replace h := ite_f (dec_f hb1158) h
        refine aw_planR (by decide +kernel) [[], [(2, 0, false)], [], [], [], [], [], [], [], [], [], [], [], [], [], [], [], [], []] [[], [], []] [[[(rg, .abs (regAbs r617.2))]], [[(t618, .spare)]], [[(p1075, .cells [.str (ix r617.1 s1070.t28).Key, .str (ix r617.1 s1070.t28).Val])]]] [.ptr p1075 1, .str (ix r617.1 s1070.t28).Val, .str s1112, .bool (!decide ((ix r617.1 s1070.t28).Val = s1112)), .bool false, .i s1070.t28, .bool (decide (0 < s1070.t28)), .bool false, .lit undef, .lit undef, .lit undef, .lit undef, .lit undef, .lit undef, .lit undef, .lit undef, .lit undef, .bool false, .bool false] (by decide +kernel) Z Z ?_ ?_
        ·exact ⟨yp Z (fa Z underlying34 Z sizeOf9 Z Z Z), stepg_plain Z (op_load1 (i := 0) Z isAgg9 (tm Z) Z Z ⟨Z, Z⟩), ym Z Z Z, yp Z (pu_str (v := .bool (!decide ((ix r617.1 s1070.t28).Val = s1112))) Z Z (tm Z) (tm Z) Z), AStepG.cast (ym Z Z Z) (congrArg AV.bool hb1157), yq Z Z (pu_move Z (tm Z)), yq Z Z (pu_int (v := .bool (decide (0 < s1070.t28))) Z Z (tm Z) (AEv.int _ _) Z), AStepG.cast (yq Z Z (pu_move Z (tm Z))) (congrArg AV.bool hb1158), yx Z Z Z, yx Z Z Z, yx Z Z Z, yx Z Z Z, yx Z Z Z, yx Z Z Z, yx Z Z Z, yx Z Z Z, yx Z Z Z, yq Z Z (pu_pick (b := false) Z (tm Z) (fun h => nomatch h) (fun _ => (AEv.bool _))), yp Z (pu_pick (b := false) Z (tm Z) (fun h => nomatch h) (fun _ => (tm Z))), trivial⟩
        obtain rfl := some_of h
        exact ⟨(), Weak.mkL [0, 1] (by decide) ⟨⟨_, Z, Z⟩, ⟨_, Z, Z⟩, trivial⟩ ⟨tm Z, tm Z, tm Z, tm Z, tm Z, tm Z, tm Z, trivial⟩⟩
     ·intro _
      have h := h1155
      refine aw_cond (b := s1154) (tm Z) (fun hb1160 => ?_) (fun hb1160 => ?_)
      ·replace h := ite_t hb1160 h
       refine xr (xa (.bool false) Z (pu_assign Z (AEv.bool _)) (xe (aw_ret ?_)))
       obtain rfl := some_of h
       have h := congrArg some (hx1071 _ rfl)
       obtain rfl := some_of h
       have h := onSum_inr h890
       obtain rfl := some_of h
       exact ⟨[.bool false], _, [], ⟨(tm Z), trivial⟩, vr, Weak.mkL [] (by decide) trivial trivial, ⟨Z, Z⟩⟩
      ·replace h := ite_fb hb1160 h
       refine aw_skip (aw_region (xa (.i (IntKind.wrap .i64 (s1070.t28 + 1))) Z (pu_int (v := .i (IntKind.wrap .i64 (s1070.t28 + 1))) Z Z (tm Z) (AEv.int _ _) Z) (xm Z Z Z (xe ?_))))
       obtain rfl := some_of h
       exact ⟨_, (), Z, Weak.mkL [0, 1] (by decide) ⟨⟨_, Z, Z⟩, ⟨_, Z, Z⟩, trivial⟩ ⟨tm Z, tm Z, tm Z, tm Z, tm Z, (AEv.le (tm Z) vr), trivial⟩⟩
   ·replace h := ite_f (dec_f hb1161) h
    refine aw_exit ?_
    obtain rfl := some_of h
    have h := congrArg some (hx1071 _ rfl)
    exact ⟨(), (), (some_of h).symm, Weak.mkL [0, 1] (by decide) ⟨⟨_, Z, Z⟩, ⟨_, Z, Z⟩, trivial⟩ ⟨tm Z, tm Z, tm Z, trivial⟩⟩

end Go.Pu
