/- Printed by lift.py: the functions come to them. -/
import Derived.Test.YtnlnolbgakfofaaGreatLiftW
import Derived.Test.YtnlnolbgakfofaaGreatMKK0
set_option maxRecDepth 100000
set_option maxHeartbeats 0
namespace Go.Pu
open Go.Lift Go.Proofs.Tryz Go.RowKit Go.Proofs

theorem charge.List_.ok {l : List (List UInt8)} {r : api.Value} (h : charge.List_ l = some r) : Go.Lift.Spec prog 7 [.sl .no 1 (l.map AV.str)] [] (fun v H => v = .agg (api.Value.ct .no .full .full ({ Kind := r.Kind, Text := r.Text, List_ := r.List_, Hash := r.Hash, ZSet := r.ZSet } : api.Value)) ∧ H = []) := by
 unfold charge.List_ at h
 refine Go.Lift.Spec.of_body (rs := [.cell 2 26]) func7 Z Z (nb Z) Z (xr (xc Z (op_alloc (cs := (api.Value.ct .full .full .full ({ Kind := 0, Text := ([] : List UInt8), List_ := ([] : List (List UInt8)), Hash := ([] : List api.Field), ZSet := ([] : List api.Scored) } : api.Value))) (v := .agg (api.Value.ct .full .full .full ({ Kind := 0, Text := ([] : List UInt8), List_ := ([] : List (List UInt8)), Hash := ([] : List api.Field), ZSet := ([] : List api.Scored) } : api.Value))) Z zeroValue26 Z Z Z ?_)))
 intro p5
 refine xe (aw_seq (xr (xm Z Z Z (xa (.i (l.length : Int)) Z (pu_lenM Z underlying22 (tm Z)) (xa (.bool (decide ((l.length : Int) = 0))) Z (pu_int (v := .bool (decide ((l.length : Int) = 0))) Z Z (tm Z) (AEv.int _ _) Z) (xe (aw_cond (b := decide ((l.length : Int) = 0)) (tm Z) (fun hb8 => ?_) (fun hb8 => ?_))))))))
 ·replace h := ite_t (dec_t hb8) h
  refine xr (xa (.agg (api.Value.ct .full .full .full ({ Kind := 0, Text := ([] : List UInt8), List_ := ([] : List (List UInt8)), Hash := ([] : List api.Field), ZSet := ([] : List api.Scored) } : api.Value))) Z (pu_build (zs := [.i 0, .str ([] : List UInt8), .sl .full 1 (([] : List (List UInt8)).map AV.str), .sl .full 2 (([] : List api.Field).map api.Field.av), .sl .full 2 (([] : List api.Scored).map api.Scored.av)]) (szs := [1, 1, 1, 1, 1]) (aparts := []) (cs := [.i 0, .str ([] : List UInt8), .sl .full 1 (([] : List (List UInt8)).map AV.str), .sl .full 2 (([] : List api.Field).map api.Field.av), .sl .full 2 (([] : List api.Scored).map api.Scored.av)]) Z underlying26 zeroValue26 Z ⟨sizeOf3, sizeOf9, sizeOf22, sizeOf23, sizeOf24, trivial⟩ trivial Z) (ac0 Z Z (op_store (i := 0) (cs' := (api.Value.ct .full .full .full ({ Kind := 0, Text := ([] : List UInt8), List_ := ([] : List (List UInt8)), Hash := ([] : List api.Field), ZSet := ([] : List api.Scored) } : api.Value))) Z sizeOf26 (tm Z) (v := .agg (api.Value.ct .full .full .full ({ Kind := 0, Text := ([] : List UInt8), List_ := ([] : List (List UInt8)), Hash := ([] : List api.Field), ZSet := ([] : List api.Scored) } : api.Value))) (tm Z) Z Z Z (nb Z) Z (xe (aw_ret ?_)))))
  obtain rfl := some_of h
  exact ⟨[.agg (api.Value.ct .full .full .full ({ Kind := 0, Text := ([] : List UInt8), List_ := ([] : List (List UInt8)), Hash := ([] : List api.Field), ZSet := ([] : List api.Scored) } : api.Value))], .agg (api.Value.ct .no .full .full ({ Kind := 0, Text := ([] : List UInt8), List_ := ([] : List (List UInt8)), Hash := ([] : List api.Field), ZSet := ([] : List api.Scored) } : api.Value)), [], ⟨(CellOk.agg 0 (tm Z) Z isAgg26 sizeOf26 (nb Z) Z), trivial⟩, (AV.Le.agg ⟨vr, vr, (AV.Le.forget _ _ _), vr, vr, trivial⟩), Weak.mkL [] (by decide) trivial trivial, ⟨Z, Z⟩⟩
 ·replace h := ite_f (dec_f hb8) h
  refine aw_skip (xr (xm Z Z Z ?_))
  obtain ⟨r6, r6e, h⟩ := bind_some h
  refine xc Z (op_call (vs := [.sl .no 1 (l.map AV.str)]) (H := []) Z call24 ⟨(tm Z), trivial⟩ (List.Perm.refl _) (slices.Clone_string.ok r6e) ?_)
  rintro _ _ ⟨t7, rfl, rfl⟩
  refine aops_publish 8 0 (tm Z) Z (xa (.agg (api.Value.ct .no .full .full ({ Kind := 2, Text := ([] : List UInt8), List_ := r6, Hash := ([] : List api.Field), ZSet := ([] : List api.Scored) } : api.Value))) Z (pu_build (zs := [.i 0, .str ([] : List UInt8), .sl .full 1 (([] : List (List UInt8)).map AV.str), .sl .full 2 (([] : List api.Field).map api.Field.av), .sl .full 2 (([] : List api.Scored).map api.Scored.av)]) (szs := [1, 1, 1, 1, 1]) (aparts := [(0, .i 2), (2, .sl .no 1 (r6.map AV.str))]) (cs := [.i 2, .str ([] : List UInt8), .sl .no 1 (r6.map AV.str), .sl .full 2 (([] : List api.Field).map api.Field.av), .sl .full 2 (([] : List api.Scored).map api.Scored.av)]) Z underlying26 zeroValue26 Z ⟨sizeOf3, sizeOf9, sizeOf22, sizeOf23, sizeOf24, trivial⟩ ⟨Z, (AEv.int _ _), ⟨Z, (tm Z), trivial⟩⟩ Z) (ac0 Z Z (op_store (i := 0) (cs' := (api.Value.ct .no .full .full ({ Kind := 2, Text := ([] : List UInt8), List_ := r6, Hash := ([] : List api.Field), ZSet := ([] : List api.Scored) } : api.Value))) Z sizeOf26 (tm Z) (v := .agg (api.Value.ct .no .full .full ({ Kind := 2, Text := ([] : List UInt8), List_ := r6, Hash := ([] : List api.Field), ZSet := ([] : List api.Scored) } : api.Value))) (tm Z) Z Z Z (nb Z) Z (xe (aw_ret ?_)))))
  obtain rfl := some_of h
  exact ⟨[.agg (api.Value.ct .no .full .full ({ Kind := 2, Text := ([] : List UInt8), List_ := r6, Hash := ([] : List api.Field), ZSet := ([] : List api.Scored) } : api.Value))], _, [], ⟨(CellOk.agg 0 (tm Z) Z isAgg26 sizeOf26 (nb Z) Z), trivial⟩, vr, Weak.mkL [] (by decide) trivial trivial, ⟨Z, Z⟩⟩

theorem mewsref19.List_.ok {l : List (List UInt8)} {r : api.Value} (h : mewsref19.List_ l = some r) : Go.Lift.Spec prog 8 [.sl .no 1 (l.map AV.str)] [] (fun v H => v = .agg (api.Value.ct .no .full .full ({ Kind := r.Kind, Text := r.Text, List_ := r.List_, Hash := r.Hash, ZSet := r.ZSet } : api.Value)) ∧ H = []) := by
 unfold mewsref19.List_ at h
 refine Go.Lift.Spec.of_body (rs := [.cell 2 26]) func8 Z Z (nb Z) Z (xr (xc Z (op_alloc (cs := (api.Value.ct .full .full .full ({ Kind := 0, Text := ([] : List UInt8), List_ := ([] : List (List UInt8)), Hash := ([] : List api.Field), ZSet := ([] : List api.Scored) } : api.Value))) (v := .agg (api.Value.ct .full .full .full ({ Kind := 0, Text := ([] : List UInt8), List_ := ([] : List (List UInt8)), Hash := ([] : List api.Field), ZSet := ([] : List api.Scored) } : api.Value))) Z zeroValue26 Z Z Z ?_)))
 intro p5
 refine xe (aw_seq (xr (xm Z Z Z (xa (.i (l.length : Int)) Z (pu_lenM Z underlying22 (tm Z)) (xa (.bool (decide ((l.length : Int) = 0))) Z (pu_int (v := .bool (decide ((l.length : Int) = 0))) Z Z (tm Z) (AEv.int _ _) Z) (xe (aw_cond (b := decide ((l.length : Int) = 0)) (tm Z) (fun hb8 => ?_) (fun hb8 => ?_))))))))
 ·replace h := ite_t (dec_t hb8) h
  refine xr (xa (.agg (api.Value.ct .full .full .full ({ Kind := 0, Text := ([] : List UInt8), List_ := ([] : List (List UInt8)), Hash := ([] : List api.Field), ZSet := ([] : List api.Scored) } : api.Value))) Z (pu_build (zs := [.i 0, .str ([] : List UInt8), .sl .full 1 (([] : List (List UInt8)).map AV.str), .sl .full 2 (([] : List api.Field).map api.Field.av), .sl .full 2 (([] : List api.Scored).map api.Scored.av)]) (szs := [1, 1, 1, 1, 1]) (aparts := []) (cs := [.i 0, .str ([] : List UInt8), .sl .full 1 (([] : List (List UInt8)).map AV.str), .sl .full 2 (([] : List api.Field).map api.Field.av), .sl .full 2 (([] : List api.Scored).map api.Scored.av)]) Z underlying26 zeroValue26 Z ⟨sizeOf3, sizeOf9, sizeOf22, sizeOf23, sizeOf24, trivial⟩ trivial Z) (ac0 Z Z (op_store (i := 0) (cs' := (api.Value.ct .full .full .full ({ Kind := 0, Text := ([] : List UInt8), List_ := ([] : List (List UInt8)), Hash := ([] : List api.Field), ZSet := ([] : List api.Scored) } : api.Value))) Z sizeOf26 (tm Z) (v := .agg (api.Value.ct .full .full .full ({ Kind := 0, Text := ([] : List UInt8), List_ := ([] : List (List UInt8)), Hash := ([] : List api.Field), ZSet := ([] : List api.Scored) } : api.Value))) (tm Z) Z Z Z (nb Z) Z (xe (aw_ret ?_)))))
  obtain rfl := some_of h
  exact ⟨[.agg (api.Value.ct .full .full .full ({ Kind := 0, Text := ([] : List UInt8), List_ := ([] : List (List UInt8)), Hash := ([] : List api.Field), ZSet := ([] : List api.Scored) } : api.Value))], .agg (api.Value.ct .no .full .full ({ Kind := 0, Text := ([] : List UInt8), List_ := ([] : List (List UInt8)), Hash := ([] : List api.Field), ZSet := ([] : List api.Scored) } : api.Value)), [], ⟨(CellOk.agg 0 (tm Z) Z isAgg26 sizeOf26 (nb Z) Z), trivial⟩, (AV.Le.agg ⟨vr, vr, (AV.Le.forget _ _ _), vr, vr, trivial⟩), Weak.mkL [] (by decide) trivial trivial, ⟨Z, Z⟩⟩
 ·replace h := ite_f (dec_f hb8) h
  refine aw_skip (xr (xm Z Z Z ?_))
  obtain ⟨c6, h⟩ := need_of h
  refine xc Z (op_appendFM Z underlying22 underlying22 (.inl Z) typeInfo9 Z Z Z (by decide) (AEv.nil 1 (by decide)) (given_sl (tm Z)) c6 ?_)
  intro t7
  refine xa (.agg (api.Value.ct (.own t7) .full .full ({ Kind := 2, Text := ([] : List UInt8), List_ := ([] : List (List UInt8)) ++ l, Hash := ([] : List api.Field), ZSet := ([] : List api.Scored) } : api.Value))) Z (pu_build (zs := [.i 0, .str ([] : List UInt8), .sl .full 1 (([] : List (List UInt8)).map AV.str), .sl .full 2 (([] : List api.Field).map api.Field.av), .sl .full 2 (([] : List api.Scored).map api.Scored.av)]) (szs := [1, 1, 1, 1, 1]) (aparts := [(0, .i 2), (2, .sl (.own t7) 1 ((([] : List (List UInt8)) ++ l).map AV.str))]) (cs := [.i 2, .str ([] : List UInt8), .sl (.own t7) 1 ((([] : List (List UInt8)) ++ l).map AV.str), .sl .full 2 (([] : List api.Field).map api.Field.av), .sl .full 2 (([] : List api.Scored).map api.Scored.av)]) Z underlying26 zeroValue26 Z ⟨sizeOf3, sizeOf9, sizeOf22, sizeOf23, sizeOf24, trivial⟩ ⟨Z, (AEv.int _ _), ⟨Z, (tm Z), trivial⟩⟩ Z) (ac0 Z Z (op_store (i := 1) (cs' := (api.Value.ct (.own t7) .full .full ({ Kind := 2, Text := ([] : List UInt8), List_ := ([] : List (List UInt8)) ++ l, Hash := ([] : List api.Field), ZSet := ([] : List api.Scored) } : api.Value))) Z sizeOf26 (tm Z) (v := .agg (api.Value.ct (.own t7) .full .full ({ Kind := 2, Text := ([] : List UInt8), List_ := ([] : List (List UInt8)) ++ l, Hash := ([] : List api.Field), ZSet := ([] : List api.Scored) } : api.Value))) (tm Z) Z Z Z (nb Z) Z (xe (aw_ret ?_))))
  obtain rfl := some_of h
  exact ⟨[.agg (api.Value.ct (.own t7) .full .full ({ Kind := 2, Text := ([] : List UInt8), List_ := ([] : List (List UInt8)) ++ l, Hash := ([] : List api.Field), ZSet := ([] : List api.Scored) } : api.Value))], .agg (api.Value.ct .no .full .full ({ Kind := 2, Text := ([] : List UInt8), List_ := ([] : List (List UInt8)) ++ l, Hash := ([] : List api.Field), ZSet := ([] : List api.Scored) } : api.Value)), [], ⟨(CellOk.agg 1 (tm Z) Z isAgg26 sizeOf26 (nb Z) Z), trivial⟩, (AV.Le.agg ⟨vr, vr, (AV.Le.forget _ _ _), vr, vr, trivial⟩), Weak.mkL [] (by decide) trivial trivial, ⟨Z, Z⟩⟩

theorem mewsref19.texts.ok {a : List (List UInt8)} {b : List (List UInt8)} {r : Bool} (h : mewsref19.texts a b = some r) : Go.Lift.Spec prog 21 [.sl .no 1 (a.map AV.str), .sl .no 1 (b.map AV.str)] [] (fun v H => v = .bool r ∧ H = []) := by
 unfold mewsref19.texts at h
 refine Go.Lift.Spec.of_body (rs := [.tmp 4]) func21 Z Z (nb Z) Z (xr (xa (.bool false) Z (pu_assign Z (AEv.bool _)) (xe (aw_seq (xr (xm Z Z Z (xa (.i (a.length : Int)) Z (pu_lenM Z underlying22 (tm Z)) ?_)))))))
 refine xm Z Z Z (xa (.i (b.length : Int)) Z (pu_lenM Z underlying22 (tm Z)) (xa (.bool (!decide ((a.length : Int) = (b.length : Int)))) Z (pu_int (v := .bool (!decide ((a.length : Int) = (b.length : Int)))) Z Z (tm Z) (tm Z) Z) (xe (aw_cond (b := (!decide ((a.length : Int) = (b.length : Int)))) (tm Z) (fun hb82 => ?_) (fun hb82 => ?_)))))
 ·replace h := ite_f (ndec_t hb82) h
  refine xr (xa (.bool false) Z (pu_assign Z (AEv.bool _)) (xe (aw_ret ?_)))
  obtain rfl := some_of h
  exact ⟨[.bool false], _, [], ⟨(tm Z), trivial⟩, vr, Weak.mkL [] (by decide) trivial trivial, ⟨Z, Z⟩⟩
 ·replace h := ite_t (ndec_f hb82) h
  refine aw_skip ?_
  obtain ⟨s81, s81e, h61⟩ := bind_some h
  refine aw_join (σ := Unit) (ν := Unit) (fun u v => []) (fun u v => []) (fun u => s81 = .inl u) ?_ ?_
  ·intro s60
   intro _
   rintro rfl
   have h := onSum_inl h61
   refine xr (xa (.bool true) Z (pu_assign Z (AEv.bool _)) (xe (aw_ret ?_)))
   obtain rfl := some_of h
   exact ⟨[.bool true], _, [], ⟨(tm Z), trivial⟩, vr, Weak.mkL [] (by decide) trivial trivial, ⟨Z, Z⟩⟩
  ·have h := s81e
   refine xr (xa (.i 0) Z (pu_assign Z (AEv.int _ _)) (xe (aw_block (aw_while (σ := mewsref19.texts.S0) (ν := Unit) (mewsref19.texts.body0 a b) (fun s73 v => [(0, .sl .no 1 (a.map AV.str)), (1, .sl .no 1 (b.map AV.str)), (5, .i s73.i)]) (fun s73 v => []) ⟨0⟩ () _ h (Weak.mkL [] (by decide) trivial ⟨tm Z, tm Z, tm Z, trivial⟩) ?_))))
   rintro s73 _ x75 h hx74
   unfold mewsref19.texts.body0 at h
   refine aw_seq (xr (xm Z Z Z (xm Z Z Z (xa (.i (a.length : Int)) Z (pu_lenM Z underlying22 (tm Z)) (xa (.bool (decide (s73.i < (a.length : Int)))) Z (pu_int (v := .bool (decide (s73.i < (a.length : Int)))) Z Z (tm Z) (tm Z) Z) (xe (aw_cond (b := decide (s73.i < (a.length : Int))) (tm Z) (fun hb80 => ?_) (fun hb80 => ?_))))))))
   ·replace h := ite_t (dec_t hb80) h
    refine aw_skip (aw_seq (aw_block (aw_seq ?_)))
    obtain ⟨c77, h⟩ := need_of h
    obtain ⟨c78, h⟩ := need_of h
    refine aw_planR (by decide +kernel) [[], [], [], [], [], [], [], [], []] [] [] [.sl .no 1 (a.map AV.str), .i s73.i, .vptr [.str (ix a s73.i)], .str (ix a s73.i), .sl .no 1 (b.map AV.str), .i s73.i, .vptr [.str (ix b s73.i)], .str (ix b s73.i), .bool (!decide ((ix a s73.i) = (ix b s73.i)))] (by decide +kernel) Z Z ?_ ?_
    ·exact ⟨ym Z Z Z, ym Z Z Z, yp Z (pu_indexAddrM Z underlying22 sizeOf9 (tm Z) (tm Z) c77 Z), stepg_plain Z (op_loadV1 Z isAgg9 (tm Z) Z ⟨Z, Z⟩), ym Z Z Z, ym Z Z Z, yp Z (pu_indexAddrM Z underlying22 sizeOf9 (tm Z) (tm Z) c78 Z), stepg_plain Z (op_loadV1 Z isAgg9 (tm Z) Z ⟨Z, Z⟩), yp Z (pu_str (v := .bool (!decide ((ix a s73.i) = (ix b s73.i)))) Z Z (tm Z) (tm Z) Z), trivial⟩
    refine aw_cond (b := (!decide ((ix a s73.i) = (ix b s73.i)))) (tm Z) (fun hb79 => ?_) (fun hb79 => ?_)
    ·replace h := ite_f (ndec_t hb79) h
     refine xr (xa (.bool false) Z (pu_assign Z (AEv.bool _)) (xe (aw_ret ?_)))
     obtain rfl := some_of h
     have h := congrArg some (hx74 _ rfl)
     obtain rfl := some_of h
     have h := onSum_inr h61
     obtain rfl := some_of h
     exact ⟨[.bool false], _, [], ⟨(tm Z), trivial⟩, vr, Weak.mkL [] (by decide) trivial trivial, ⟨Z, Z⟩⟩
    ·replace h := ite_t (ndec_f hb79) h
     refine aw_skip (aw_region (xm Z Z Z (xa (.i (IntKind.wrap .i64 (s73.i + 1))) Z (pu_int (v := .i (IntKind.wrap .i64 (s73.i + 1))) Z Z (tm Z) (AEv.int _ _) Z) (xm Z Z Z (xe ?_)))))
     obtain rfl := some_of h
     exact ⟨_, (), Z, Weak.mkL [] (by decide) trivial ⟨tm Z, tm Z, (AEv.le (tm Z) vr), trivial⟩⟩
   ·replace h := ite_f (dec_f hb80) h
    refine aw_exit ?_
    obtain rfl := some_of h
    have h := congrArg some (hx74 _ rfl)
    exact ⟨(), (), (some_of h).symm, Weak.mkL [] (by decide) trivial trivial⟩

theorem mewsref19.fields.ok {a : List api.Field} {b : List api.Field} {r : Bool} (h : mewsref19.fields a b = some r) : Go.Lift.Spec prog 22 [.sl .no 2 (a.map api.Field.av), .sl .no 2 (b.map api.Field.av)] [] (fun v H => v = .bool r ∧ H = []) := by
 unfold mewsref19.fields at h
 refine Go.Lift.Spec.of_body (rs := [.tmp 4]) func22 Z Z (nb Z) Z (xr (xa (.bool false) Z (pu_assign Z (AEv.bool _)) (xe (aw_seq (xr (xm Z Z Z (xa (.i (a.length : Int)) Z (pu_lenM Z underlying23 (tm Z)) ?_)))))))
 refine xm Z Z Z (xa (.i (b.length : Int)) Z (pu_lenM Z underlying23 (tm Z)) (xa (.bool (!decide ((a.length : Int) = (b.length : Int)))) Z (pu_int (v := .bool (!decide ((a.length : Int) = (b.length : Int)))) Z Z (tm Z) (tm Z) Z) (xe (aw_cond (b := (!decide ((a.length : Int) = (b.length : Int)))) (tm Z) (fun hb82 => ?_) (fun hb82 => ?_)))))
 ·replace h := ite_f (ndec_t hb82) h
  refine xr (xa (.bool false) Z (pu_assign Z (AEv.bool _)) (xe (aw_ret ?_)))
  obtain rfl := some_of h
  exact ⟨[.bool false], _, [], ⟨(tm Z), trivial⟩, vr, Weak.mkL [] (by decide) trivial trivial, ⟨Z, Z⟩⟩
 ·replace h := ite_t (ndec_f hb82) h
  refine aw_skip ?_
  obtain ⟨s81, s81e, h61⟩ := bind_some h
  refine aw_join (σ := Unit) (ν := Unit) (fun u v => []) (fun u v => []) (fun u => s81 = .inl u) ?_ ?_
  ·intro s60
   intro _
   rintro rfl
   have h := onSum_inl h61
   refine xr (xa (.bool true) Z (pu_assign Z (AEv.bool _)) (xe (aw_ret ?_)))
   obtain rfl := some_of h
   exact ⟨[.bool true], _, [], ⟨(tm Z), trivial⟩, vr, Weak.mkL [] (by decide) trivial trivial, ⟨Z, Z⟩⟩
  ·have h := s81e
   refine xr (xa (.i 0) Z (pu_assign Z (AEv.int _ _)) (xe (aw_block (aw_while (σ := mewsref19.fields.S0) (ν := Unit) (mewsref19.fields.body0 a b) (fun s73 v => [(0, .sl .no 2 (a.map api.Field.av)), (1, .sl .no 2 (b.map api.Field.av)), (5, .i s73.i)]) (fun s73 v => []) ⟨0⟩ () _ h (Weak.mkL [] (by decide) trivial ⟨tm Z, tm Z, tm Z, trivial⟩) ?_))))
   rintro s73 _ x75 h hx74
   unfold mewsref19.fields.body0 at h
   refine aw_seq (xr (xm Z Z Z (xm Z Z Z (xa (.i (a.length : Int)) Z (pu_lenM Z underlying23 (tm Z)) (xa (.bool (decide (s73.i < (a.length : Int)))) Z (pu_int (v := .bool (decide (s73.i < (a.length : Int)))) Z Z (tm Z) (tm Z) Z) (xe (aw_cond (b := decide (s73.i < (a.length : Int))) (tm Z) (fun hb80 => ?_) (fun hb80 => ?_))))))))
   ·replace h := ite_t (dec_t hb80) h
    refine aw_skip (aw_seq (aw_block (aw_seq ?_)))
    obtain ⟨c77, h⟩ := need_of h
    obtain ⟨c78, h⟩ := need_of h
    refine aw_planR (by decide +kernel) [[], [], [], [], [], [], [], [], []] [] [] [.sl .no 2 (a.map api.Field.av), .i s73.i, .vptr [.str (ix a s73.i).Key, .str (ix a s73.i).Val], .agg [.str (ix a s73.i).Key, .str (ix a s73.i).Val], .sl .no 2 (b.map api.Field.av), .i s73.i, .vptr [.str (ix b s73.i).Key, .str (ix b s73.i).Val], .agg [.str (ix b s73.i).Key, .str (ix b s73.i).Val], .bool (!decide ((ix a s73.i) = (ix b s73.i)))] (by decide +kernel) Z Z ?_ ?_
    ·exact ⟨ym Z Z Z, ym Z Z Z, yp Z (pu_indexAddrM Z underlying23 sizeOf54 (tm Z) (tm Z) c77 Z), stepg_plain Z (op_loadVN Z isAgg54 sizeOf54 (tm Z) (nb Z) Z ⟨Z, Z⟩), ym Z Z Z, ym Z Z Z, yp Z (pu_indexAddrM Z underlying23 sizeOf54 (tm Z) (tm Z) c78 Z), stepg_plain Z (op_loadVN Z isAgg54 sizeOf54 (tm Z) (nb Z) Z ⟨Z, Z⟩), yp Z (APure.eq (pu_structNe (b := (decide ((ix a s73.i).Key = (ix b s73.i).Key) && (decide ((ix a s73.i).Val = (ix b s73.i).Val) && true))) Z underlying54 (by kernel_rfl) (by kernel_rfl) (tm Z) (tm Z) ⟨_, _, _, _, ⟨by decide, isAgg9, Z, Z, CEq.str underlying9⟩, ⟨_, _, _, _, ⟨by decide, isAgg9, Z, Z, CEq.str underlying9⟩, Z, Z⟩, Z⟩) (congrArg (fun b => AV.bool (!b)) (api.Field.eq_iff (ix a s73.i) (ix b s73.i)).symm)), trivial⟩
    refine aw_cond (b := (!decide ((ix a s73.i) = (ix b s73.i)))) (tm Z) (fun hb79 => ?_) (fun hb79 => ?_)
    ·replace h := ite_f (ndec_t hb79) h
     refine xr (xa (.bool false) Z (pu_assign Z (AEv.bool _)) (xe (aw_ret ?_)))
     obtain rfl := some_of h
     have h := congrArg some (hx74 _ rfl)
     obtain rfl := some_of h
     have h := onSum_inr h61
     obtain rfl := some_of h
     exact ⟨[.bool false], _, [], ⟨(tm Z), trivial⟩, vr, Weak.mkL [] (by decide) trivial trivial, ⟨Z, Z⟩⟩
    ·replace h := ite_t (ndec_f hb79) h
     refine aw_skip (aw_region (xm Z Z Z (xa (.i (IntKind.wrap .i64 (s73.i + 1))) Z (pu_int (v := .i (IntKind.wrap .i64 (s73.i + 1))) Z Z (tm Z) (AEv.int _ _) Z) (xm Z Z Z (xe ?_)))))
     obtain rfl := some_of h
     exact ⟨_, (), Z, Weak.mkL [] (by decide) trivial ⟨tm Z, tm Z, (AEv.le (tm Z) vr), trivial⟩⟩
   ·replace h := ite_f (dec_f hb80) h
    refine aw_exit ?_
    obtain rfl := some_of h
    have h := congrArg some (hx74 _ rfl)
    exact ⟨(), (), (some_of h).symm, Weak.mkL [] (by decide) trivial trivial⟩

theorem mewsref10.Same.ok {a : List api.Scored} {b : List api.Scored} {r : Bool} (h : mewsref10.Same a b = some r) : Go.Lift.Spec prog 23 [.sl .no 2 (a.map api.Scored.av), .sl .no 2 (b.map api.Scored.av)] [] (fun v H => v = .bool r ∧ H = []) := by
 unfold mewsref10.Same at h
 refine Go.Lift.Spec.of_body (rs := [.tmp 4]) func23 Z Z (nb Z) Z (xr (xa (.bool false) Z (pu_assign Z (AEv.bool _)) (xe (aw_seq (xr (xm Z Z Z (xa (.i (a.length : Int)) Z (pu_lenM Z underlying24 (tm Z)) ?_)))))))
 refine xm Z Z Z (xa (.i (b.length : Int)) Z (pu_lenM Z underlying24 (tm Z)) (xa (.bool (!decide ((a.length : Int) = (b.length : Int)))) Z (pu_int (v := .bool (!decide ((a.length : Int) = (b.length : Int)))) Z Z (tm Z) (tm Z) Z) (xe (aw_cond (b := (!decide ((a.length : Int) = (b.length : Int)))) (tm Z) (fun hb82 => ?_) (fun hb82 => ?_)))))
 ·replace h := ite_f (ndec_t hb82) h
  refine xr (xa (.bool false) Z (pu_assign Z (AEv.bool _)) (xe (aw_ret ?_)))
  obtain rfl := some_of h
  exact ⟨[.bool false], _, [], ⟨(tm Z), trivial⟩, vr, Weak.mkL [] (by decide) trivial trivial, ⟨Z, Z⟩⟩
 ·replace h := ite_t (ndec_f hb82) h
  refine aw_skip ?_
  obtain ⟨s81, s81e, h61⟩ := bind_some h
  refine aw_join (σ := Unit) (ν := Unit) (fun u v => []) (fun u v => []) (fun u => s81 = .inl u) ?_ ?_
  ·intro s60
   intro _
   rintro rfl
   have h := onSum_inl h61
   refine xr (xa (.bool true) Z (pu_assign Z (AEv.bool _)) (xe (aw_ret ?_)))
   obtain rfl := some_of h
   exact ⟨[.bool true], _, [], ⟨(tm Z), trivial⟩, vr, Weak.mkL [] (by decide) trivial trivial, ⟨Z, Z⟩⟩
  ·have h := s81e
   refine xr (xa (.i 0) Z (pu_assign Z (AEv.int _ _)) (xe (aw_block (aw_while (σ := mewsref10.Same.S0) (ν := Unit) (mewsref10.Same.body0 a b) (fun s73 v => [(0, .sl .no 2 (a.map api.Scored.av)), (1, .sl .no 2 (b.map api.Scored.av)), (5, .i s73.i)]) (fun s73 v => []) ⟨0⟩ () _ h (Weak.mkL [] (by decide) trivial ⟨tm Z, tm Z, tm Z, trivial⟩) ?_))))
   rintro s73 _ x75 h hx74
   unfold mewsref10.Same.body0 at h
   refine aw_seq (xr (xm Z Z Z (xm Z Z Z (xa (.i (a.length : Int)) Z (pu_lenM Z underlying24 (tm Z)) (xa (.bool (decide (s73.i < (a.length : Int)))) Z (pu_int (v := .bool (decide (s73.i < (a.length : Int)))) Z Z (tm Z) (tm Z) Z) (xe (aw_cond (b := decide (s73.i < (a.length : Int))) (tm Z) (fun hb80 => ?_) (fun hb80 => ?_))))))))
   ·replace h := ite_t (dec_t hb80) h
    refine aw_skip (aw_seq (aw_block (aw_seq ?_)))
    obtain ⟨c77, h⟩ := need_of h
    obtain ⟨c78, h⟩ := need_of h
    refine aw_planR (by decide +kernel) [[], [], [], [], [], [], [], [], []] [] [] [.sl .no 2 (a.map api.Scored.av), .i s73.i, .vptr [.str (ix a s73.i).Member, .i (ix a s73.i).Score], .agg [.str (ix a s73.i).Member, .i (ix a s73.i).Score], .sl .no 2 (b.map api.Scored.av), .i s73.i, .vptr [.str (ix b s73.i).Member, .i (ix b s73.i).Score], .agg [.str (ix b s73.i).Member, .i (ix b s73.i).Score], .bool (!decide ((ix a s73.i) = (ix b s73.i)))] (by decide +kernel) Z Z ?_ ?_
    ·exact ⟨ym Z Z Z, ym Z Z Z, yp Z (pu_indexAddrM Z underlying24 sizeOf64 (tm Z) (tm Z) c77 Z), stepg_plain Z (op_loadVN Z isAgg64 sizeOf64 (tm Z) (nb Z) Z ⟨Z, Z⟩), ym Z Z Z, ym Z Z Z, yp Z (pu_indexAddrM Z underlying24 sizeOf64 (tm Z) (tm Z) c78 Z), stepg_plain Z (op_loadVN Z isAgg64 sizeOf64 (tm Z) (nb Z) Z ⟨Z, Z⟩), yp Z (APure.eq (pu_structNe (b := (decide ((ix a s73.i).Member = (ix b s73.i).Member) && (decide ((ix a s73.i).Score = (ix b s73.i).Score) && true))) Z underlying64 (by kernel_rfl) (by kernel_rfl) (tm Z) (tm Z) ⟨_, _, _, _, ⟨by decide, isAgg9, Z, Z, CEq.str underlying9⟩, ⟨_, _, _, _, ⟨by decide, isAgg2, Z, Z, CEq.int underlying2⟩, Z, Z⟩, Z⟩) (congrArg (fun b => AV.bool (!b)) (api.Scored.eq_iff (ix a s73.i) (ix b s73.i)).symm)), trivial⟩
    refine aw_cond (b := (!decide ((ix a s73.i) = (ix b s73.i)))) (tm Z) (fun hb79 => ?_) (fun hb79 => ?_)
    ·replace h := ite_f (ndec_t hb79) h
     refine xr (xa (.bool false) Z (pu_assign Z (AEv.bool _)) (xe (aw_ret ?_)))
     obtain rfl := some_of h
     have h := congrArg some (hx74 _ rfl)
     obtain rfl := some_of h
     have h := onSum_inr h61
     obtain rfl := some_of h
     exact ⟨[.bool false], _, [], ⟨(tm Z), trivial⟩, vr, Weak.mkL [] (by decide) trivial trivial, ⟨Z, Z⟩⟩
    ·replace h := ite_t (ndec_f hb79) h
     refine aw_skip (aw_region (xm Z Z Z (xa (.i (IntKind.wrap .i64 (s73.i + 1))) Z (pu_int (v := .i (IntKind.wrap .i64 (s73.i + 1))) Z Z (tm Z) (AEv.int _ _) Z) (xm Z Z Z (xe ?_)))))
     obtain rfl := some_of h
     exact ⟨_, (), Z, Weak.mkL [] (by decide) trivial ⟨tm Z, tm Z, (AEv.le (tm Z) vr), trivial⟩⟩
   ·replace h := ite_f (dec_f hb80) h
    refine aw_exit ?_
    obtain rfl := some_of h
    have h := congrArg some (hx74 _ rfl)
    exact ⟨(), (), (some_of h).symm, Weak.mkL [] (by decide) trivial trivial⟩

theorem mewsref19.Same.ok {a : api.Value} {b : api.Value} {r : Bool} (h : mewsref19.Same a b = some r) : Go.Lift.Spec prog 6 [.agg (api.Value.ct .no .no .no a), .agg (api.Value.ct .no .no .no b)] [] (fun v H => v = .bool r ∧ H = []) := by
 unfold mewsref19.Same at h
 refine Go.Lift.Spec.of_body (rs := [.tmp 4]) func6 Z Z (nb Z) Z (xr (xc Z (op_box (cs := (api.Value.ct .no .no .no a)) (v := .agg (api.Value.ct .no .no .no a)) Z (tm Z) Z Z ?_)))
 intro p20
 refine xc Z (op_box (cs := (api.Value.ct .no .no .no b)) (v := .agg (api.Value.ct .no .no .no b)) Z (tm Z) Z Z ?_)
 intro p21
 refine xa (.bool false) Z (pu_assign Z (AEv.bool _)) (xe ?_)
 obtain ⟨s29, s29e, h30⟩ := bind_some h
 refine aw_meet (ν := Unit) (fun v => [(4, .bool s29)]) (fun v => []) ?_ ?_
 ·have h := s29e
  refine aw_region (xa (.ptr p20 0) Z (fa Z underlying26 Z sizeOf3 Z Z Z) (xc Z (op_load1 (i := 1) Z isAgg3 (tm Z) Z Z (xa (.ptr p21 0) Z (fa Z underlying26 Z sizeOf3 Z Z Z) (xc Z (op_load1 (i := 0) Z isAgg3 (tm Z) Z Z (xa (.bool (decide (a.Kind = b.Kind))) Z (pu_int (v := .bool (decide (a.Kind = b.Kind))) Z Z (tm Z) (tm Z) Z) (xm Z Z Z ?_))))))))
  rcases Bool.eq_false_or_eq_true (decide (a.Kind = b.Kind)) with hb32 | hb32
  ·replace h := ite_t (dec_t hb32) h
   refine aops_known 10 Z hb32 (xp (.ptr p20 1) Z Z (fa Z underlying26 Z sizeOf9 Z Z Z) (xg Z Z (op_load1 (i := 1) Z isAgg9 (tm Z) Z Z (xp (.ptr p21 1) Z Z (fa Z underlying26 Z sizeOf9 Z Z Z) (xg Z Z (op_load1 (i := 0) Z isAgg9 (tm Z) Z Z (xp (.bool (decide (a.Text = b.Text))) Z Z (pu_str (v := .bool (decide (a.Text = b.Text))) Z Z (tm Z) (tm Z) Z) (xa (.bool (decide (a.Text = b.Text))) Z (pu_pick (b := true) Z (tm Z) (fun _ => (tm Z)) (fun h => nomatch h)) (xm Z Z Z ?_)))))))))
   rcases Bool.eq_false_or_eq_true (decide (a.Text = b.Text)) with hb33 | hb33
   ·replace h := ite_t (dec_t hb33) h
    refine aops_known 17 Z hb33 (xp (.ptr p20 2) Z Z (fa Z underlying26 Z sizeOf22 Z Z Z) (xg Z Z (op_load1 (i := 1) Z isAgg22 (tm Z) Z Z (xp (.ptr p21 2) Z Z (fa Z underlying26 Z sizeOf22 Z Z Z) (xg Z Z (op_load1 (i := 0) Z isAgg22 (tm Z) Z Z ?_))))))
    obtain ⟨r34, r34e, h⟩ := bind_some h
    refine xg Z Z (op_call (vs := [.sl .no 1 (a.List_.map AV.str), .sl .no 1 (b.List_.map AV.str)]) (H := []) Z call21 ⟨(tm Z), (tm Z), trivial⟩ (List.Perm.refl _) (mewsref19.texts.ok r34e) ?_)
    rintro _ _ ⟨rfl, rfl⟩
    refine xa (.bool r34) Z (pu_pick (b := true) Z (tm Z) (fun _ => (tm Z)) (fun h => nomatch h)) (xm Z Z Z ?_)
    rcases Bool.eq_false_or_eq_true r34 with hb35 | hb35
    ·replace h := ite_t hb35 h
     refine aops_known 24 Z hb35 (xp (.ptr p20 3) Z Z (fa Z underlying26 Z sizeOf23 Z Z Z) (xg Z Z (op_load1 (i := 1) Z isAgg23 (tm Z) Z Z (xp (.ptr p21 3) Z Z (fa Z underlying26 Z sizeOf23 Z Z Z) (xg Z Z (op_load1 (i := 0) Z isAgg23 (tm Z) Z Z ?_))))))
     obtain ⟨r36, r36e, h⟩ := bind_some h
     refine xg Z Z (op_call (vs := [.sl .no 2 (a.Hash.map api.Field.av), .sl .no 2 (b.Hash.map api.Field.av)]) (H := []) Z call22 ⟨(tm Z), (tm Z), trivial⟩ (List.Perm.refl _) (mewsref19.fields.ok r36e) ?_)
     rintro _ _ ⟨rfl, rfl⟩
     refine xa (.bool r36) Z (pu_pick (b := true) Z (tm Z) (fun _ => (tm Z)) (fun h => nomatch h)) (xm Z Z Z ?_)
     rcases Bool.eq_false_or_eq_true r36 with hb37 | hb37
     ·replace h := ite_t hb37 h
      refine aops_known 31 Z hb37 (xp (.ptr p20 4) Z Z (fa Z underlying26 Z sizeOf24 Z Z Z) (xg Z Z (op_load1 (i := 1) Z isAgg24 (tm Z) Z Z (xp (.ptr p21 4) Z Z (fa Z underlying26 Z sizeOf24 Z Z Z) (xg Z Z (op_load1 (i := 0) Z isAgg24 (tm Z) Z Z ?_))))))
      obtain ⟨r38, r38e, h⟩ := bind_some h
      refine xg Z Z (op_call (vs := [.sl .no 2 (a.ZSet.map api.Scored.av), .sl .no 2 (b.ZSet.map api.Scored.av)]) (H := []) Z call23 ⟨(tm Z), (tm Z), trivial⟩ (List.Perm.refl _) (mewsref10.Same.ok r38e) ?_)
      rintro _ _ ⟨rfl, rfl⟩
      refine xa (.bool r38) Z (pu_pick (b := true) Z (tm Z) (fun _ => (tm Z)) (fun h => nomatch h)) (xm Z Z Z (xe ?_))
      obtain rfl := some_of h
      exact ⟨(), Weak.mkL [] (by decide) trivial ⟨tm Z, trivial⟩⟩
     ·replace h := ite_fb hb37 h
      refine aops_known 31 Z hb37 (xn Z Z Z (xn Z Z Z (xn Z Z Z (xn Z Z Z (xn Z Z Z (xa (.bool false) Z (pu_pick (b := false) Z (tm Z) (fun h => nomatch h) (fun _ => (AEv.bool _))) (xm Z Z Z (xe ?_))))))))
      obtain rfl := some_of h
      exact ⟨(), Weak.mkL [] (by decide) trivial ⟨tm Z, trivial⟩⟩
    ·replace h := ite_fb hb35 h
     refine aops_known 24 Z hb35 (xn Z Z Z (xn Z Z Z (xn Z Z Z (xn Z Z Z (xn Z Z Z (xa (.bool false) Z (pu_pick (b := false) Z (tm Z) (fun h => nomatch h) (fun _ => (AEv.bool _))) (xm Z Z Z (xn Z Z Z (xn Z Z Z ?_)))))))))
     refine xn Z Z Z (xn Z Z Z (xn Z Z Z (xa (.bool false) Z (pu_pick (b := false) Z (tm Z) (fun h => nomatch h) (fun _ => (AEv.bool _))) (xm Z Z Z (xe ?_)))))
     obtain rfl := some_of h
     exact ⟨(), Weak.mkL [] (by decide) trivial ⟨tm Z, trivial⟩⟩
   ·replace h := ite_f (dec_f hb33) h
    refine aops_known 17 Z hb33 (xn Z Z Z (xn Z Z Z (xn Z Z Z (xn Z Z Z (xn Z Z Z (xa (.bool false) Z (pu_pick (b := false) Z (tm Z) (fun h => nomatch h) (fun _ => (AEv.bool _))) (xm Z Z Z (xn Z Z Z (xn Z Z Z ?_)))))))))
    refine xn Z Z Z (xn Z Z Z (xn Z Z Z (xa (.bool false) Z (pu_pick (b := false) Z (tm Z) (fun h => nomatch h) (fun _ => (AEv.bool _))) (xm Z Z Z (xn Z Z Z (xn Z Z Z (xn Z Z Z (xn Z Z Z (xn Z Z Z ?_)))))))))
    refine xa (.bool false) Z (pu_pick (b := false) Z (tm Z) (fun h => nomatch h) (fun _ => (AEv.bool _))) (xm Z Z Z (xe ?_))
    obtain rfl := some_of h
    exact ⟨(), Weak.mkL [] (by decide) trivial ⟨tm Z, trivial⟩⟩
  ·replace h := ite_f (dec_f hb32) h
   refine aops_known 10 Z hb32 (xn Z Z Z (xn Z Z Z (xn Z Z Z (xn Z Z Z (xn Z Z Z (xa (.bool false) Z (pu_pick (b := false) Z (tm Z) (fun h => nomatch h) (fun _ => (AEv.bool _))) (xm Z Z Z (xn Z Z Z (xn Z Z Z ?_)))))))))
   refine xn Z Z Z (xn Z Z Z (xn Z Z Z (xa (.bool false) Z (pu_pick (b := false) Z (tm Z) (fun h => nomatch h) (fun _ => (AEv.bool _))) (xm Z Z Z (xn Z Z Z (xn Z Z Z (xn Z Z Z (xn Z Z Z (xn Z Z Z ?_)))))))))
   refine xa (.bool false) Z (pu_pick (b := false) Z (tm Z) (fun h => nomatch h) (fun _ => (AEv.bool _))) (xm Z Z Z (xn Z Z Z (xn Z Z Z (xn Z Z Z (xn Z Z Z (xn Z Z Z (xa (.bool false) Z (pu_pick (b := false) Z (tm Z) (fun h => nomatch h) (fun _ => (AEv.bool _))) (xm Z Z Z (xe ?_)))))))))
   obtain rfl := some_of h
   exact ⟨(), Weak.mkL [] (by decide) trivial ⟨tm Z, trivial⟩⟩
 ·intro _
  have h := h30
  refine aw_ret ?_
  obtain rfl := some_of h
  exact ⟨[.bool s29], _, [], ⟨(tm Z), trivial⟩, vr, Weak.mkL [] (by decide) trivial trivial, ⟨Z, Z⟩⟩

theorem mewsref19.With.ok {l : List (List UInt8)} {s_ : List UInt8} {r : List (List UInt8)} (h : mewsref19.With l s_ = some r) : Go.Lift.Spec prog 28 [.sl .no 1 (l.map AV.str), .str s_] [] (fun v H => v = .sl .no 1 (r.map AV.str) ∧ H = []) := by
 unfold mewsref19.With at h
 refine Go.Lift.Spec.of_body (rs := [.tmp 4]) func28 Z Z (nb Z) Z (xr (xa (.sl .full 1 (([] : List (List UInt8)).map AV.str)) Z (pu_assign Z (AEv.nil 1 (by decide))) (xe (xr (xa (.i 0) Z (pu_assign Z (AEv.int _ _)) (xe ?_))))))
 obtain ⟨s110, s110e, h111⟩ := bind_some h
 refine aw_meet (ν := Unit) (fun v => [(0, .sl .no 1 (l.map AV.str)), (1, .str s_), (5, .i s110)]) (fun v => []) ?_ ?_
 ·have h := s110e
  refine aw_block (aw_while (σ := mewsref19.With.S0) (ν := Unit) (mewsref19.With.body0 l s_) (fun s131 v => [(0, .sl .no 1 (l.map AV.str)), (1, .str s_), (5, .i s131.i)]) (fun s131 v => []) ⟨0⟩ () _ h (Weak.mkL [] (by decide) trivial ⟨tm Z, tm Z, tm Z, trivial⟩) ?_)
  rintro s131 _ x133 h hx132
  unfold mewsref19.With.body0 at h
  refine aw_seq ?_
  obtain ⟨s137, s137e, h138⟩ := bind_some h
  refine aw_meet (ν := Unit) (fun v => [(0, .sl .no 1 (l.map AV.str)), (1, .str s_), (5, .i s131.i), (18, .bool s137)]) (fun v => []) ?_ ?_
  ·have h := s137e
   refine aw_region (xm Z Z Z (xm Z Z Z (xa (.i (l.length : Int)) Z (pu_lenM Z underlying22 (tm Z)) (xa (.bool (decide (s131.i < (l.length : Int)))) Z (pu_int (v := .bool (decide (s131.i < (l.length : Int)))) Z Z (tm Z) (tm Z) Z) (xm Z Z Z ?_)))))
   rcases Bool.eq_false_or_eq_true (decide (s131.i < (l.length : Int))) with hb140 | hb140
   ·replace h := ite_t (dec_t hb140) h
    refine aops_known 11 Z hb140 (xq Z Z Z Z (xq Z Z Z Z ?_))
    obtain ⟨c141, h⟩ := need_of h
    refine xp (.vptr [.str (ix l s131.i)]) Z Z (pu_indexAddrM Z underlying22 sizeOf9 (tm Z) (tm Z) c141 Z) (xg Z Z (op_loadV1 Z isAgg9 (tm Z) Z (xq Z Z Z Z (xp (.bool (strLt (ix l s131.i) s_)) Z Z (pu_str (v := .bool (strLt (ix l s131.i) s_)) Z Z (tm Z) (tm Z) Z) (xa (.bool (strLt (ix l s131.i) s_)) Z (pu_pick (b := true) Z (tm Z) (fun _ => (tm Z)) (fun h => nomatch h)) (xe ?_))))))
    obtain rfl := some_of h
    exact ⟨(), Weak.mkL [] (by decide) trivial ⟨tm Z, tm Z, tm Z, (AEv.le (tm Z) vr), trivial⟩⟩
   ·replace h := ite_f (dec_f hb140) h
    refine aops_known 11 Z hb140 (xn Z Z Z (xn Z Z Z (xn Z Z Z (xn Z Z Z (xn Z Z Z (xn Z Z Z (xa (.bool false) Z (pu_pick (b := false) Z (tm Z) (fun h => nomatch h) (fun _ => (AEv.bool _))) (xe ?_))))))))
    obtain rfl := some_of h
    exact ⟨(), Weak.mkL [] (by decide) trivial ⟨tm Z, tm Z, tm Z, tm Z, trivial⟩⟩
  ·intro _
   have h := h138
   refine aw_cond (b := s137) (tm Z) (fun hb142 => ?_) (fun hb142 => ?_)
   ·replace h := ite_t hb142 h
    refine aw_skip (aw_block (aw_region (xm Z Z Z (xa (.i (IntKind.wrap .i64 (s131.i + 1))) Z (pu_int (v := .i (IntKind.wrap .i64 (s131.i + 1))) Z Z (tm Z) (AEv.int _ _) Z) (xm Z Z Z (xe ?_))))))
    obtain rfl := some_of h
    exact ⟨_, (), Z, Weak.mkL [] (by decide) trivial ⟨tm Z, tm Z, (AEv.le (tm Z) vr), trivial⟩⟩
   ·replace h := ite_fb hb142 h
    refine aw_exit ?_
    obtain rfl := some_of h
    have h := congrArg some (hx132 _ rfl)
    obtain rfl := some_of h
    exact ⟨(), Weak.mkL [] (by decide) trivial ⟨tm Z, tm Z, tm Z, trivial⟩⟩
 ·intro _
  have h := h111
  refine aw_seq ?_
  obtain ⟨s145, s145e, h146⟩ := bind_some h
  refine aw_meet (ν := Unit) (fun v => [(0, .sl .no 1 (l.map AV.str)), (1, .str s_), (5, .i s110), (32, .bool s145)]) (fun v => []) ?_ ?_
  ·have h := s145e
   refine aw_region (xm Z Z Z (xm Z Z Z (xa (.i (l.length : Int)) Z (pu_lenM Z underlying22 (tm Z)) (xa (.bool (decide (s110 < (l.length : Int)))) Z (pu_int (v := .bool (decide (s110 < (l.length : Int)))) Z Z (tm Z) (tm Z) Z) (xm Z Z Z ?_)))))
   rcases Bool.eq_false_or_eq_true (decide (s110 < (l.length : Int))) with hb148 | hb148
   ·replace h := ite_t (dec_t hb148) h
    refine aops_known 25 Z hb148 (xq Z Z Z Z (xq Z Z Z Z ?_))
    obtain ⟨c149, h⟩ := need_of h
    refine xp (.vptr [.str (ix l s110)]) Z Z (pu_indexAddrM Z underlying22 sizeOf9 (tm Z) (tm Z) c149 Z) (xg Z Z (op_loadV1 Z isAgg9 (tm Z) Z (xq Z Z Z Z (xp (.bool (decide ((ix l s110) = s_))) Z Z (pu_str (v := .bool (decide ((ix l s110) = s_))) Z Z (tm Z) (tm Z) Z) (xa (.bool (decide ((ix l s110) = s_))) Z (pu_pick (b := true) Z (tm Z) (fun _ => (tm Z)) (fun h => nomatch h)) (xe ?_))))))
    obtain rfl := some_of h
    exact ⟨(), Weak.mkL [] (by decide) trivial ⟨tm Z, tm Z, tm Z, (AEv.le (tm Z) vr), trivial⟩⟩
   ·replace h := ite_f (dec_f hb148) h
    refine aops_known 25 Z hb148 (xn Z Z Z (xn Z Z Z (xn Z Z Z (xn Z Z Z (xn Z Z Z (xn Z Z Z (xa (.bool false) Z (pu_pick (b := false) Z (tm Z) (fun h => nomatch h) (fun _ => (AEv.bool _))) (xe ?_))))))))
    obtain rfl := some_of h
    exact ⟨(), Weak.mkL [] (by decide) trivial ⟨tm Z, tm Z, tm Z, tm Z, trivial⟩⟩
  ·intro _
   have h := h146
   refine aw_cond (b := s145) (tm Z) (fun hb158 => ?_) (fun hb158 => ?_)
   ·replace h := ite_t hb158 h
    refine xr (xm Z Z Z (xm Z Z Z (xe (aw_ret ?_))))
    obtain rfl := some_of h
    exact ⟨[.sl .no 1 (l.map AV.str)], _, [], ⟨(tm Z), trivial⟩, vr, Weak.mkL [] (by decide) trivial trivial, ⟨Z, Z⟩⟩
   ·replace h := ite_fb hb158 h
    refine aw_skip (xr (xm Z Z Z (xm Z Z Z ?_)))
    obtain ⟨c150, h⟩ := need_of h
    refine xa (.sl .no 1 ((sub l 0 s110).map AV.str)) Z (pu_sliceM Z underlying22 sizeOf9 (tm Z) Z ⟨_, (tm Z)⟩ c150) ?_
    obtain ⟨c151, h⟩ := need_of h
    refine xc Z (op_appendFM Z underlying22 underlying22 (.inl Z) typeInfo9 Z Z Z (by decide) (AEv.nil 1 (by decide)) (given_sl (tm Z)) c151 ?_)
    intro t152
    refine xm Z Z Z (xe (xr (xm Z Z Z (xm Z Z Z (xc Z (op_buildSlice (xs := ([s_] : List (List UInt8)).map AV.str) (aparts := [(0, .str s_)]) Z underlying22 sizeOf9 zeroValue9 (by decide) (by decide) ⟨Z, (tm Z), trivial⟩ Z Z Z ?_))))))
    obtain ⟨c153, h⟩ := need_of h
    refine xc Z (op_appendOM (q := 0) Z underlying22 underlying22 (.inl Z) typeInfo9 Z Z Z (by decide) (tm Z) Z (given_sl (tm Z)) c153 ?_)
    intro t154
    refine xm Z Z Z (xe (xr (xm Z Z Z (xm Z Z Z (xm Z Z Z ?_)))))
    obtain ⟨c155, h⟩ := need_of h
    refine xa (.sl .no 1 ((sub l s110 (l.length : Int)).map AV.str)) Z (pu_sliceM Z underlying22 sizeOf9 (tm Z) ⟨_, (tm Z)⟩ Z c155) ?_
    obtain ⟨c156, h⟩ := need_of h
    refine xc Z (op_appendOM (q := 0) Z underlying22 underlying22 (.inl Z) typeInfo9 Z Z Z (by decide) (tm Z) Z (given_sl (tm Z)) c156 ?_)
    intro t157
    refine xm Z Z Z (xe (aw_ret ?_))
    obtain rfl := some_of h
    exact ⟨[.sl .no 1 ((((([] : List (List UInt8)) ++ (sub l 0 s110)) ++ [s_]) ++ (sub l s110 (l.length : Int))).map AV.str)], _, [], ⟨(AEv.le (tm Z) (AV.Le.forget _ _ _)), trivial⟩, vr, Weak.mkL [] (by decide) trivial trivial, ⟨Z, Z⟩⟩

theorem mewsref19.Set.ok {l : List (List UInt8)} {r : api.Value} (h : mewsref19.Set l = some r) : Go.Lift.Spec prog 10 [.sl .no 1 (l.map AV.str)] [] (fun v H => v = .agg (api.Value.ct .no .full .full ({ Kind := r.Kind, Text := r.Text, List_ := r.List_, Hash := r.Hash, ZSet := r.ZSet } : api.Value)) ∧ H = []) := by
 unfold mewsref19.Set at h
 refine Go.Lift.Spec.of_body (rs := [.cell 2 26]) func10 Z Z (nb Z) Z (xr (xc Z (op_alloc (cs := (api.Value.ct .full .full .full ({ Kind := 0, Text := ([] : List UInt8), List_ := ([] : List (List UInt8)), Hash := ([] : List api.Field), ZSet := ([] : List api.Scored) } : api.Value))) (v := .agg (api.Value.ct .full .full .full ({ Kind := 0, Text := ([] : List UInt8), List_ := ([] : List (List UInt8)), Hash := ([] : List api.Field), ZSet := ([] : List api.Scored) } : api.Value))) Z zeroValue26 Z Z Z ?_)))
 intro p37
 refine xe (aw_seq (xr (xm Z Z Z (xa (.i (l.length : Int)) Z (pu_lenM Z underlying22 (tm Z)) (xa (.bool (decide ((l.length : Int) = 0))) Z (pu_int (v := .bool (decide ((l.length : Int) = 0))) Z Z (tm Z) (AEv.int _ _) Z) (xe (aw_cond (b := decide ((l.length : Int) = 0)) (tm Z) (fun hb72 => ?_) (fun hb72 => ?_))))))))
 ·replace h := ite_t (dec_t hb72) h
  refine xr (xa (.agg (api.Value.ct .full .full .full ({ Kind := 0, Text := ([] : List UInt8), List_ := ([] : List (List UInt8)), Hash := ([] : List api.Field), ZSet := ([] : List api.Scored) } : api.Value))) Z (pu_build (zs := [.i 0, .str ([] : List UInt8), .sl .full 1 (([] : List (List UInt8)).map AV.str), .sl .full 2 (([] : List api.Field).map api.Field.av), .sl .full 2 (([] : List api.Scored).map api.Scored.av)]) (szs := [1, 1, 1, 1, 1]) (aparts := []) (cs := [.i 0, .str ([] : List UInt8), .sl .full 1 (([] : List (List UInt8)).map AV.str), .sl .full 2 (([] : List api.Field).map api.Field.av), .sl .full 2 (([] : List api.Scored).map api.Scored.av)]) Z underlying26 zeroValue26 Z ⟨sizeOf3, sizeOf9, sizeOf22, sizeOf23, sizeOf24, trivial⟩ trivial Z) (ac0 Z Z (op_store (i := 0) (cs' := (api.Value.ct .full .full .full ({ Kind := 0, Text := ([] : List UInt8), List_ := ([] : List (List UInt8)), Hash := ([] : List api.Field), ZSet := ([] : List api.Scored) } : api.Value))) Z sizeOf26 (tm Z) (v := .agg (api.Value.ct .full .full .full ({ Kind := 0, Text := ([] : List UInt8), List_ := ([] : List (List UInt8)), Hash := ([] : List api.Field), ZSet := ([] : List api.Scored) } : api.Value))) (tm Z) Z Z Z (nb Z) Z (xe (aw_ret ?_)))))
  obtain rfl := some_of h
  exact ⟨[.agg (api.Value.ct .full .full .full ({ Kind := 0, Text := ([] : List UInt8), List_ := ([] : List (List UInt8)), Hash := ([] : List api.Field), ZSet := ([] : List api.Scored) } : api.Value))], .agg (api.Value.ct .no .full .full ({ Kind := 0, Text := ([] : List UInt8), List_ := ([] : List (List UInt8)), Hash := ([] : List api.Field), ZSet := ([] : List api.Scored) } : api.Value)), [], ⟨(CellOk.agg 0 (tm Z) Z isAgg26 sizeOf26 (nb Z) Z), trivial⟩, (AV.Le.agg ⟨vr, vr, (AV.Le.forget _ _ _), vr, vr, trivial⟩), Weak.mkL [] (by decide) trivial trivial, ⟨Z, Z⟩⟩
 ·replace h := ite_f (dec_f hb72) h
  refine aw_skip (xr (xa (.agg (api.Value.ct .full .full .full ({ Kind := 4, Text := ([] : List UInt8), List_ := ([] : List (List UInt8)), Hash := ([] : List api.Field), ZSet := ([] : List api.Scored) } : api.Value))) Z (pu_build (zs := [.i 0, .str ([] : List UInt8), .sl .full 1 (([] : List (List UInt8)).map AV.str), .sl .full 2 (([] : List api.Field).map api.Field.av), .sl .full 2 (([] : List api.Scored).map api.Scored.av)]) (szs := [1, 1, 1, 1, 1]) (aparts := [(0, .i 4)]) (cs := [.i 4, .str ([] : List UInt8), .sl .full 1 (([] : List (List UInt8)).map AV.str), .sl .full 2 (([] : List api.Field).map api.Field.av), .sl .full 2 (([] : List api.Scored).map api.Scored.av)]) Z underlying26 zeroValue26 Z ⟨sizeOf3, sizeOf9, sizeOf22, sizeOf23, sizeOf24, trivial⟩ ⟨Z, (AEv.int _ _), trivial⟩ Z) (xc Z (op_alloc (cs := (api.Value.ct .full .full .full ({ Kind := 0, Text := ([] : List UInt8), List_ := ([] : List (List UInt8)), Hash := ([] : List api.Field), ZSet := ([] : List api.Scored) } : api.Value))) (v := .agg (api.Value.ct .full .full .full ({ Kind := 0, Text := ([] : List UInt8), List_ := ([] : List (List UInt8)), Hash := ([] : List api.Field), ZSet := ([] : List api.Scored) } : api.Value))) Z zeroValue26 Z Z Z ?_))))
  intro p38
  refine ac0 Z Z (op_store (i := 0) (cs' := (api.Value.ct .full .full .full ({ Kind := 4, Text := ([] : List UInt8), List_ := ([] : List (List UInt8)), Hash := ([] : List api.Field), ZSet := ([] : List api.Scored) } : api.Value))) Z sizeOf26 (tm Z) (v := .agg (api.Value.ct .full .full .full ({ Kind := 4, Text := ([] : List UInt8), List_ := ([] : List (List UInt8)), Hash := ([] : List api.Field), ZSet := ([] : List api.Scored) } : api.Value))) (tm Z) Z Z Z (nb Z) Z (xe ?_))
  obtain ⟨s54, s54e, h55⟩ := bind_some h
  refine aw_meet (ν := Unit) (fun v => [(2, .ptr p37 0), (3, .ptr p38 0)]) (fun v => [(p37, .cells (api.Value.ct .full .full .full ({ Kind := 0, Text := ([] : List UInt8), List_ := ([] : List (List UInt8)), Hash := ([] : List api.Field), ZSet := ([] : List api.Scored) } : api.Value))), (p38, .cells (api.Value.ct .no .full .full ({ Kind := 4, Text := ([] : List UInt8), List_ := s54, Hash := ([] : List api.Field), ZSet := ([] : List api.Scored) } : api.Value)))]) ?_ ?_
  ·have h := s54e
   refine xr (xa (.i 0) Z (pu_assign Z (AEv.int _ _)) (xe (aw_block (aw_while (σ := mewsref19.Set.S0) (ν := Unit) (mewsref19.Set.body0 l) (fun s65 v => [(0, .sl .no 1 (l.map AV.str)), (2, .ptr p37 0), (3, .ptr p38 0), (4, .i s65.i)]) (fun s65 v => [(p37, .cells (api.Value.ct .full .full .full ({ Kind := 0, Text := ([] : List UInt8), List_ := ([] : List (List UInt8)), Hash := ([] : List api.Field), ZSet := ([] : List api.Scored) } : api.Value))), (p38, .cells (api.Value.ct .no .full .full ({ Kind := 4, Text := ([] : List UInt8), List_ := s65.c, Hash := ([] : List api.Field), ZSet := ([] : List api.Scored) } : api.Value)))]) ⟨0, ([] : List (List UInt8))⟩ () _ h (Weak.mkL [1, 0] (by decide) ⟨⟨_, Z, cr, Z⟩, ⟨_, Z, ⟨vr, vr, (AV.Le.forget _ _ _), vr, vr, trivial⟩, Z⟩, trivial⟩ ⟨tm Z, tm Z, tm Z, tm Z, trivial⟩) ?_))))
   rintro s65 _ x67 h hx66
   unfold mewsref19.Set.body0 at h
   refine aw_seq (xr (xm Z Z Z (xm Z Z Z (xa (.i (l.length : Int)) Z (pu_lenM Z underlying22 (tm Z)) (xa (.bool (decide (s65.i < (l.length : Int)))) Z (pu_int (v := .bool (decide (s65.i < (l.length : Int)))) Z Z (tm Z) (tm Z) Z) (xe (aw_cond (b := decide (s65.i < (l.length : Int))) (tm Z) (fun hb71 => ?_) (fun hb71 => ?_))))))))
   ·replace h := ite_t (dec_t hb71) h
    refine aw_skip (aw_seq (aw_block ?_))
    obtain ⟨c69, h⟩ := need_of h
    obtain ⟨r70, r70e, h⟩ := bind_some h
    refine aw_planR (by decide +kernel) [[], [(1, 0, false)], [], [], [], [], [], [], [(1, 0, true)]] [[], [8]] [[[(p37, .cells (api.Value.ct .full .full .full ({ Kind := 0, Text := ([] : List UInt8), List_ := ([] : List (List UInt8)), Hash := ([] : List api.Field), ZSet := ([] : List api.Scored) } : api.Value)))]], [[(p38, .cells (api.Value.ct .no .full .full ({ Kind := 4, Text := ([] : List UInt8), List_ := s65.c, Hash := ([] : List api.Field), ZSet := ([] : List api.Scored) } : api.Value)))], [(p38, .cells (api.Value.ct .no .full .full ({ Kind := 4, Text := ([] : List UInt8), List_ := r70, Hash := ([] : List api.Field), ZSet := ([] : List api.Scored) } : api.Value)))]]] [.ptr p38 2, .sl .no 1 (s65.c.map AV.str), .sl .no 1 (l.map AV.str), .i s65.i, .vptr [.str (ix l s65.i)], .str (ix l s65.i), .sl .no 1 (r70.map AV.str), .ptr p38 2, .un] (by decide +kernel) Z Z ?_ ?_
    ·exact ⟨yp Z (fa Z underlying26 Z sizeOf22 Z Z Z), stepg_plain Z (op_load1 (i := 0) Z isAgg22 (tm Z) Z Z ⟨Z, Z⟩), ym Z Z Z, ym Z Z Z, yp Z (pu_indexAddrM Z underlying22 sizeOf9 (tm Z) (tm Z) c69 Z), stepg_plain Z (op_loadV1 Z isAgg9 (tm Z) Z ⟨Z, Z⟩), stepg_plain Z (op_call (vs := [.sl .no 1 (s65.c.map AV.str), .str (ix l s65.i)]) (H := []) Z call28 ⟨(tm Z), (tm Z), trivial⟩ (R := []) (List.Perm.refl _) (mewsref19.With.ok r70e) (by rintro _ _ ⟨rfl, rfl⟩; exact ⟨Z, Z⟩)), yp Z (fa Z underlying26 Z sizeOf22 Z Z Z), stepg_plain Z (op_store (i := 0) (cs' := (api.Value.ct .no .full .full ({ Kind := 4, Text := ([] : List UInt8), List_ := r70, Hash := ([] : List api.Field), ZSet := ([] : List api.Scored) } : api.Value))) Z sizeOf22 (tm Z) (v := .sl .no 1 (r70.map AV.str)) (tm Z) Z Z Z (nb Z) Z ⟨Z, Z⟩), trivial⟩
    refine aw_region (xm Z Z Z (xa (.i (IntKind.wrap .i64 (s65.i + 1))) Z (pu_int (v := .i (IntKind.wrap .i64 (s65.i + 1))) Z Z (tm Z) (AEv.int _ _) Z) (xm Z Z Z (xe ?_))))
    obtain rfl := some_of h
    exact ⟨_, (), Z, Weak.mkL [0, 1] (by decide) ⟨⟨_, Z, cr, Z⟩, ⟨_, Z, cr, Z⟩, trivial⟩ ⟨tm Z, tm Z, tm Z, (AEv.le (tm Z) vr), trivial⟩⟩
   ·replace h := ite_f (dec_f hb71) h
    refine aw_exit ?_
    obtain rfl := some_of h
    have h := congrArg some (hx66 _ rfl)
    obtain rfl := some_of h
    exact ⟨(), Weak.mkL [0, 1] (by decide) ⟨⟨_, Z, cr, Z⟩, ⟨_, Z, cr, Z⟩, trivial⟩ ⟨tm Z, tm Z, trivial⟩⟩
  ·intro _
   have h := h55
   refine xr (xc Z (op_loadN (i := 1) Z isAgg26 sizeOf26 (tm Z) Z (nb Z) Z (ac0 Z Z (op_store (i := 0) (cs' := (api.Value.ct .no .full .full ({ Kind := 4, Text := ([] : List UInt8), List_ := s54, Hash := ([] : List api.Field), ZSet := ([] : List api.Scored) } : api.Value))) Z sizeOf26 (tm Z) (v := .agg (api.Value.ct .no .full .full ({ Kind := 4, Text := ([] : List UInt8), List_ := s54, Hash := ([] : List api.Field), ZSet := ([] : List api.Scored) } : api.Value))) (tm Z) Z Z Z (nb Z) Z (xe (aw_ret ?_))))))
   obtain rfl := some_of h
   exact ⟨[.agg (api.Value.ct .no .full .full ({ Kind := 4, Text := ([] : List UInt8), List_ := s54, Hash := ([] : List api.Field), ZSet := ([] : List api.Scored) } : api.Value))], _, [], ⟨(CellOk.agg 0 (tm Z) Z isAgg26 sizeOf26 (nb Z) Z), trivial⟩, vr, Weak.mkL [] (by decide) trivial trivial, ⟨Z, Z⟩⟩

theorem slices.Clone_api_Field.ok {s : List api.Field} {r : List api.Field} (h : slices.Clone_api_Field s = some r) : Go.Lift.Spec prog 29 [.sl .no 2 (s.map api.Field.av)] [] (fun v H => ∃ n0, v = .vec n0 ∧ H = [(n0, .vec 2 (r.map api.Field.av))]) := by
 unfold slices.Clone_api_Field at h
 obtain ⟨c, h⟩ := need_of h
 obtain rfl := some_of h
 refine Go.Lift.Spec.of_body (rs := [.tmp 2]) func29 Z Z (nb Z) Z (xr (xa (.sl .full 2 (([] : List api.Field).map api.Field.av)) Z (pu_assign Z (AEv.nil 2 (by decide))) (xe (aw_seq (xr (xm Z Z Z (xc Z (op_nilSlice Z underlying23 (tm Z) fun b hb => ?_))))))))
 refine xe (aw_cond (b := b) (tm Z) (fun hb2 => ?_) (fun hb2 => ?_))
 ·have hs : s = [] := List.map_eq_nil_iff.1 (hb hb2)
  subst hs
  refine xr (xa (.sl .full 2 (([] : List api.Field).map api.Field.av)) Z (pu_assign Z (AEv.nil 2 (by decide))) (xe (aw_vecNil 2 (tm Z) fun t => (aw_ret ?_))))
  exact ⟨[.vec t], _, [(t, .vec 2 (([] : List api.Field).map api.Field.av))], ⟨tm Z, trivial⟩, AV.Le.refl _, Weak.mkL [0] (by decide) ⟨⟨_, Z, Z⟩, trivial⟩ trivial, ⟨t, Z, Z⟩⟩
 ·refine aw_skip (xr (xc Z (op_buildSlice (xs := ([] : List api.Field).map api.Field.av) (aparts := []) Z underlying23 sizeOf54 zeroValue54 (by decide) (by decide) trivial Z Z Z (xm Z Z Z (xc Z (op_appendNVM (sz := 2) Z underlying23 underlying23 (.inl Z) typeInfo54 Z Z Z (by decide) (tm Z) (given_sl (tm Z)) c ?_))))))
  intro t
  refine xm Z Z Z (xe (aw_ret ?_))
  exact ⟨[.vec t], _, [(t, .vec 2 ((([] : List api.Field) ++ s).map api.Field.av))], ⟨tm Z, trivial⟩, AV.Le.refl _, Weak.mkL [0] (by decide) ⟨⟨_, Z, Z⟩, trivial⟩ trivial, ⟨t, Z, Z⟩⟩

theorem slices.Reverse_api_Field_v.ok {s_ : List api.Field} {r : List api.Field} (h : slices.Reverse_api_Field_v s_ = some r) (o0 : Nat) : Go.Lift.Spec prog 30 [.vec o0] [(o0, .vec 2 (s_.map api.Field.av))] (fun v H => v = .tup [] ∧ H = [(o0, .vec 2 (r.map api.Field.av))]) := by
 unfold slices.Reverse_api_Field_v at h
 refine Go.Lift.Spec.of_body (rs := []) func30 Z Z (nb Z) Z (aw_upd (xr (xm Z Z Z (xc Z (op_lenVecM (i := 0) Z underlying23 (tm Z) Z (xa (.i (IntKind.wrap .i64 ((s_.length : Int) - 1))) Z (pu_int (v := .i (IntKind.wrap .i64 ((s_.length : Int) - 1))) Z Z (tm Z) (AEv.int _ _) Z) (xa (.i 0) Z (pu_assign Z (AEv.int _ _)) (xm Z Z Z (xe ?_)))))))))
 refine aw_block (aw_while (σ := slices.Reverse_api_Field_v.S0) (ν := Unit) slices.Reverse_api_Field_v.body0 (fun s54 v => [(0, .vec o0), (2, .i s54.i), (3, .i s54.j)]) (fun s54 v => [(o0, .vec 2 (s54.v.map api.Field.av))]) ⟨0, IntKind.wrap .i64 ((s_.length : Int) - 1), s_⟩ () _ h (Weak.mkL [0] (by decide) ⟨⟨_, Z, Z⟩, trivial⟩ ⟨tm Z, tm Z, (AEv.le (tm Z) vr), trivial⟩) ?_)
 rintro s54 _ x56 h hx55
 unfold slices.Reverse_api_Field_v.body0 at h
 refine aw_seq (xr (xm Z Z Z (xm Z Z Z (xa (.bool (decide (s54.i < s54.j))) Z (pu_int (v := .bool (decide (s54.i < s54.j))) Z Z (tm Z) (tm Z) Z) (xe (aw_cond (b := decide (s54.i < s54.j)) (tm Z) (fun hb66 => ?_) (fun hb66 => ?_)))))))
 ·replace h := ite_t (dec_t hb66) h
  refine aw_skip (aw_seq (aw_block ?_))
  obtain ⟨c58, h⟩ := need_of h
  obtain ⟨c59, h⟩ := need_of h
  obtain ⟨c60, h⟩ := need_of h
  obtain ⟨c61, h⟩ := need_of h
  obtain ⟨c62, h⟩ := need_of h
  obtain ⟨c63, h⟩ := need_of h
  obtain ⟨c64, h⟩ := need_of h
  obtain ⟨c65, h⟩ := need_of h
  refine aw_planR (by decide +kernel) [[], [], [], [], [], [], [(0, 0, false)], [(0, 0, false)], [], [], [(0, 0, false)], [(0, 0, false)], [(0, 0, false)], [(0, 0, true)], [(0, 1, false)], [(0, 1, true)]] [[13, 15]] [[[(o0, .vec 2 (s54.v.map api.Field.av))], [(o0, .vec 2 ((upd s54.v s54.i (ix s54.v s54.j)).map api.Field.av))], [(o0, .vec 2 ((upd (upd s54.v s54.i (ix s54.v s54.j)) s54.j (ix s54.v s54.i)).map api.Field.av))]]] [.vec o0, .i s54.i, .vec o0, .i s54.j, .vec o0, .i s54.j, .eptr o0 (s54.j).toNat 0, .agg [.str (ix s54.v s54.j).Key, .str (ix s54.v s54.j).Val], .vec o0, .i s54.i, .eptr o0 (s54.i).toNat 0, .agg [.str (ix s54.v s54.i).Key, .str (ix s54.v s54.i).Val], .eptr o0 (s54.i).toNat 0, .un, .eptr o0 (s54.j).toNat 0, .un] (by decide +kernel) Z Z ?_ ?_
  ·exact ⟨ym Z Z Z, ym Z Z Z, ym Z Z Z, ym Z Z Z, ym Z Z Z, ym Z Z Z, stepg_plain Z (op_indexAddrVecM Z underlying23 sizeOf54 (tm Z) (j := 0) Z (tm Z) c58 ⟨Z, Z⟩), stepg_plain Z (op_loadENM (i := 0) (sz := 2) Z isAgg54 sizeOf54 (tm Z) Z c59 (by decide) Z ⟨Z, Z⟩), ym Z Z Z, ym Z Z Z, stepg_plain Z (op_indexAddrVecM Z underlying23 sizeOf54 (tm Z) (j := 0) Z (tm Z) c60 ⟨Z, Z⟩), stepg_plain Z (op_loadENM (i := 0) (sz := 2) Z isAgg54 sizeOf54 (tm Z) Z c61 (by decide) Z ⟨Z, Z⟩), stepg_plain Z (op_indexAddrVecM Z underlying23 sizeOf54 (tm Z) (j := 0) Z (tm Z) c62 ⟨Z, Z⟩), stepg_plain Z (op_storeEM (i := 0) (sz := 2) (y' := (ix s54.v s54.j)) Z sizeOf54 (tm Z) (v := .agg [.str (ix s54.v s54.j).Key, .str (ix s54.v s54.j).Val]) (tm Z) Z c63 Z Z (by decide) Z ⟨Z, Z⟩), stepg_plain Z (op_indexAddrVecM Z underlying23 sizeOf54 (tm Z) (j := 0) Z (tm Z) c64 ⟨Z, Z⟩), stepg_plain Z (op_storeEM (i := 0) (sz := 2) (y' := (ix s54.v s54.i)) Z sizeOf54 (tm Z) (v := .agg [.str (ix s54.v s54.i).Key, .str (ix s54.v s54.i).Val]) (tm Z) Z c65 Z Z (by decide) Z ⟨Z, Z⟩), trivial⟩
  refine aw_region (xm Z Z Z (xa (.i (IntKind.wrap .i64 (s54.i + 1))) Z (pu_int (v := .i (IntKind.wrap .i64 (s54.i + 1))) Z Z (tm Z) (AEv.int _ _) Z) (xm Z Z Z (xa (.i (IntKind.wrap .i64 (s54.j - 1))) Z (pu_int (v := .i (IntKind.wrap .i64 (s54.j - 1))) Z Z (tm Z) (AEv.int _ _) Z) (xm Z Z Z (xm Z Z Z (xe ?_)))))))
  obtain rfl := some_of h
  exact ⟨_, (), Z, Weak.mkL [0] (by decide) ⟨⟨_, Z, Z⟩, trivial⟩ ⟨tm Z, (AEv.le (tm Z) vr), (AEv.le (tm Z) vr), trivial⟩⟩
 ·replace h := ite_f (dec_f hb66) h
  refine aw_exit ?_
  obtain rfl := some_of h
  have h := congrArg some (hx55 _ rfl)
  refine upd_done ?_
  obtain rfl := some_of h
  exact ⟨[], _, [(o0, .vec 2 (s54.v.map api.Field.av))], trivial, vr, Weak.mkL [0] (by decide) ⟨⟨_, Z, Z⟩, trivial⟩ trivial, ⟨Z, Z⟩⟩

theorem strings.Compare.ok {a : List UInt8} {b : List UInt8} {r : Int} (h : strings.Compare a b = some r) : Go.Lift.Spec prog 33 [.str a, .str b] [] (fun v H => v = .int .i64 r ∧ H = []) := by
 unfold strings.Compare at h
 obtain rfl := some_of h
 have hcon := fun W' => Go.Proofs.Tryz.strings_Compare ⟨a.toArray⟩ ⟨b.toArray⟩ W'
 change ∀ W', Calls prog 33 _ _ _ at hcon
 have hr : Go.Lib.compareBytes (⟨a.toArray⟩ : ByteArray).data.toList (⟨b.toArray⟩ : ByteArray).data.toList = Go.Lib.compareBytes a b := by simp
 rw [hr] at hcon
 exact spec_str2 hcon

theorem charge.Hash_1.ok {a : api.Field} {b : api.Field} {r : Int} (h : charge.Hash_1 a b = some r) : Go.Lift.Spec prog 32 [.agg [.str a.Key, .str a.Val], .agg [.str b.Key, .str b.Val]] [] (fun v H => v = .i r ∧ H = []) := by
 unfold charge.Hash_1 at h
 refine Go.Lift.Spec.of_body (rs := [.tmp 4]) func32 Z Z (nb Z) Z (xr (xc Z (op_box (cs := [.str a.Key, .str a.Val]) (v := .agg [.str a.Key, .str a.Val]) Z (tm Z) Z Z ?_)))
 intro p4
 refine xc Z (op_box (cs := [.str b.Key, .str b.Val]) (v := .agg [.str b.Key, .str b.Val]) Z (tm Z) Z Z ?_)
 intro p5
 refine xa (.i 0) Z (pu_assign Z (AEv.int _ _)) (xe (xr (xa (.ptr p4 0) Z (fa Z underlying54 Z sizeOf9 Z Z Z) (xc Z (op_load1 (i := 1) Z isAgg9 (tm Z) Z Z (xa (.ptr p5 0) Z (fa Z underlying54 Z sizeOf9 Z Z Z) (xc Z (op_load1 (i := 0) Z isAgg9 (tm Z) Z Z ?_))))))))
 obtain ⟨r6, r6e, h⟩ := bind_some h
 refine xc Z (op_call (vs := [.str a.Key, .str b.Key]) (H := []) Z call33 ⟨(tm Z), (tm Z), trivial⟩ (List.Perm.refl _) (strings.Compare.ok r6e) ?_)
 rintro _ _ ⟨rfl, rfl⟩
 refine xm Z Z Z (xe (aw_ret ?_))
 obtain rfl := some_of h
 exact ⟨[.i r6], _, [], ⟨(tm Z), trivial⟩, vr, Weak.mkL [] (by decide) trivial trivial, ⟨Z, Z⟩⟩

theorem slices.insertionSortCmpFunc_api_Field_v_charge_Hash_1.ok {data : List api.Field} {a : Int} {b : Int} {r : List api.Field} (h : slices.insertionSortCmpFunc_api_Field_v_charge_Hash_1 data a b = some r) (o0 : Nat) : Go.Lift.Spec prog 75 [.vec o0, .i a, .i b, .fn 32 []] [(o0, .vec 2 (data.map api.Field.av))] (fun v H => v = .tup [] ∧ H = [(o0, .vec 2 (r.map api.Field.av))]) := by
 unfold slices.insertionSortCmpFunc_api_Field_v_charge_Hash_1 at h
 refine Go.Lift.Spec.of_body (rs := []) func75 Z Z (nb Z) Z (aw_upd (xr (xm Z Z Z (xa (.i (IntKind.wrap .i64 (a + 1))) Z (pu_int (v := .i (IntKind.wrap .i64 (a + 1))) Z Z (tm Z) (AEv.int _ _) Z) (xm Z Z Z (xe (aw_block (aw_while (σ := slices.insertionSortCmpFunc_api_Field_v_charge_Hash_1.S0) (ν := Unit) (slices.insertionSortCmpFunc_api_Field_v_charge_Hash_1.body0 b a) (fun s809 v => [(0, .vec o0), (1, .i a), (2, .i b), (3, .fn 32 []), (8, .i s809.i)]) (fun s809 v => [(o0, .vec 2 (s809.v.map api.Field.av))]) ⟨IntKind.wrap .i64 (a + 1), data⟩ () _ h (Weak.mkL [0] (by decide) ⟨⟨_, Z, Z⟩, trivial⟩ ⟨tm Z, tm Z, tm Z, tm Z, (AEv.le (tm Z) vr), trivial⟩) ?_))))))))
 rintro s809 _ x811 h hx810
 unfold slices.insertionSortCmpFunc_api_Field_v_charge_Hash_1.body0 at h
 refine aw_seq (xr (xm Z Z Z (xm Z Z Z (xa (.bool (decide (s809.i < b))) Z (pu_int (v := .bool (decide (s809.i < b))) Z Z (tm Z) (tm Z) Z) (xe (aw_cond (b := decide (s809.i < b)) (tm Z) (fun hb972 => ?_) (fun hb972 => ?_)))))))
 ·replace h := ite_t (dec_t hb972) h
  refine aw_skip ?_
  obtain ⟨s891, s891e, h892⟩ := bind_some h
  refine aw_meet (ν := Unit) (fun v => [(0, .vec o0), (1, .i a), (2, .i b), (3, .fn 32 []), (8, .i s809.i)]) (fun v => [(o0, .vec 2 (s891.map api.Field.av))]) ?_ ?_
  ·have h := s891e
   refine aw_block (xr (xm Z Z Z (xm Z Z Z (xe (aw_block (aw_while (σ := slices.insertionSortCmpFunc_api_Field_v_charge_Hash_1.S2) (ν := Unit) (slices.insertionSortCmpFunc_api_Field_v_charge_Hash_1.body2 a) (fun s944 v => [(0, .vec o0), (1, .i a), (2, .i b), (3, .fn 32 []), (8, .i s809.i), (9, .i s944.j)]) (fun s944 v => [(o0, .vec 2 (s944.v.map api.Field.av))]) ⟨s809.i, s809.v⟩ () _ h (Weak.mkL [0] (by decide) ⟨⟨_, Z, Z⟩, trivial⟩ ⟨tm Z, tm Z, tm Z, tm Z, tm Z, tm Z, trivial⟩) ?_))))))
   rintro s944 _ x946 h hx945
   unfold slices.insertionSortCmpFunc_api_Field_v_charge_Hash_1.body2 at h
   refine aw_seq ?_
   obtain ⟨s954, s954e, h955⟩ := bind_some h
   refine aw_meet (ν := Unit) (fun v => [(0, .vec o0), (1, .i a), (2, .i b), (3, .fn 32 []), (8, .i s809.i), (9, .i s944.j), (34, .bool s954)]) (fun v => [(o0, .vec 2 (s944.v.map api.Field.av))]) ?_ ?_
   ·have h := s954e
    rcases Bool.eq_false_or_eq_true (decide (a < s944.j)) with hb957 | hb957
    ·replace h := ite_t (dec_t hb957) h
     obtain ⟨c958, h⟩ := need_of h
     obtain ⟨c959, h⟩ := need_of h
     obtain ⟨c960, h⟩ := need_of h
     obtain ⟨c961, h⟩ := need_of h
     obtain ⟨r962, r962e, h⟩ := bind_some h
     refine aw_planR (by decide +kernel) [[], [], [], [], [], [], [], [(0, 0, false)], [(0, 0, false)], [], [], [], [(0, 0, false)], [(0, 0, false)], [], [], []] [[]] [[[(o0, .vec 2 (s944.v.map api.Field.av))]]] [.i s944.j, .i a, .bool (decide (a < s944.j)), .bool true, .fn 32 [], .vec o0, .i s944.j, .eptr o0 (s944.j).toNat 0, .agg [.str (ix s944.v s944.j).Key, .str (ix s944.v s944.j).Val], .vec o0, .i s944.j, .i (IntKind.wrap .i64 (s944.j - 1)), .eptr o0 (IntKind.wrap .i64 (s944.j - 1)).toNat 0, .agg [.str (ix s944.v (IntKind.wrap .i64 (s944.j - 1))).Key, .str (ix s944.v (IntKind.wrap .i64 (s944.j - 1))).Val], .i r962, .bool (decide (r962 < 0)), .bool (decide (r962 < 0))] (by decide +kernel) Z Z ?_ ?_
     ·exact ⟨ym Z Z Z, ym Z Z Z, yp Z (pu_int (v := .bool (decide (a < s944.j))) Z Z (tm Z) (tm Z) Z), AStepG.cast (ym Z Z Z) (congrArg AV.bool hb957), yq Z Z (pu_move Z (tm Z)), yq Z Z (pu_move Z (tm Z)), yq Z Z (pu_move Z (tm Z)), yg Z Z (op_indexAddrVecM Z underlying23 sizeOf54 (tm Z) (j := 0) Z (tm Z) c958 ⟨Z, Z⟩), yg Z Z (op_loadENM (i := 0) (sz := 2) Z isAgg54 sizeOf54 (tm Z) Z c959 (by decide) Z ⟨Z, Z⟩), yq Z Z (pu_move Z (tm Z)), yq Z Z (pu_move Z (tm Z)), yq Z Z (pu_int (v := .i (IntKind.wrap .i64 (s944.j - 1))) Z Z (tm Z) (AEv.int _ _) Z), yg Z Z (op_indexAddrVecM Z underlying23 sizeOf54 (tm Z) (j := 0) Z (tm Z) c960 ⟨Z, Z⟩), yg Z Z (op_loadENM (i := 0) (sz := 2) Z isAgg54 sizeOf54 (tm Z) Z c961 (by decide) Z ⟨Z, Z⟩), yg Z Z (op_callV (vs := [.agg [.str (ix s944.v s944.j).Key, .str (ix s944.v s944.j).Val], .agg [.str (ix s944.v (IntKind.wrap .i64 (s944.j - 1))).Key, .str (ix s944.v (IntKind.wrap .i64 (s944.j - 1))).Val]]) (H := []) Z (tm Z) call32 ⟨(tm Z), (tm Z), trivial⟩ (R := []) (List.Perm.refl _) (charge.Hash_1.ok r962e) (by rintro _ _ ⟨rfl, rfl⟩; exact ⟨Z, Z⟩)), yq Z Z (pu_int (v := .bool (decide (r962 < 0))) Z Z (tm Z) (AEv.int _ _) Z), yp Z (pu_pick (b := true) Z (tm Z) (fun _ => (tm Z)) (fun h => nomatch h)), trivial⟩
     obtain rfl := some_of h
     exact ⟨(), Weak.mkL [0] (by decide) ⟨⟨_, Z, Z⟩, trivial⟩ ⟨tm Z, tm Z, tm Z, tm Z, tm Z, tm Z, (AEv.le (tm Z) vr), trivial⟩⟩
    ·replace h := ite_f (dec_f hb957) h
     refine aw_planR (by decide +kernel) [[], [], [], [], [], [], [], [], [], [], [], [], [], [], [], [], []] [[]] [[[(o0, .vec 2 (s944.v.map api.Field.av))]]] [.i s944.j, .i a, .bool (decide (a < s944.j)), .bool false, .lit undef, .lit undef, .lit undef, .lit undef, .lit undef, .lit undef, .lit undef, .lit undef, .lit undef, .lit undef, .lit undef, .lit undef, .bool false] (by decide +kernel) Z Z ?_ ?_
     ·exact ⟨ym Z Z Z, ym Z Z Z, yp Z (pu_int (v := .bool (decide (a < s944.j))) Z Z (tm Z) (tm Z) Z), AStepG.cast (ym Z Z Z) (congrArg AV.bool hb957), yx Z Z Z, yx Z Z Z, yx Z Z Z, yx Z Z Z, yx Z Z Z, yx Z Z Z, yx Z Z Z, yx Z Z Z, yx Z Z Z, yx Z Z Z, yx Z Z Z, yx Z Z Z, yp Z (pu_pick (b := false) Z (tm Z) (fun h => nomatch h) (fun _ => (AEv.bool _))), trivial⟩
     obtain rfl := some_of h
     exact ⟨(), Weak.mkL [0] (by decide) ⟨⟨_, Z, Z⟩, trivial⟩ ⟨tm Z, tm Z, tm Z, tm Z, tm Z, tm Z, tm Z, trivial⟩⟩
   ·intro _
    have h := h955
    refine aw_cond (b := s954) (tm Z) (fun hb971 => ?_) (fun hb971 => ?_)
    ·replace h := ite_t hb971 h
     refine aw_skip (aw_seq (aw_block ?_))
     obtain ⟨c963, h⟩ := need_of h
     obtain ⟨c964, h⟩ := need_of h
     obtain ⟨c965, h⟩ := need_of h
     obtain ⟨c966, h⟩ := need_of h
     obtain ⟨c967, h⟩ := need_of h
     obtain ⟨c968, h⟩ := need_of h
     obtain ⟨c969, h⟩ := need_of h
     obtain ⟨c970, h⟩ := need_of h
     refine aw_planR (by decide +kernel) [[], [], [], [], [], [], [], [], [(0, 0, false)], [(0, 0, false)], [], [], [(0, 0, false)], [(0, 0, false)], [(0, 0, false)], [(0, 0, true)], [(0, 1, false)], [(0, 1, true)]] [[15, 17]] [[[(o0, .vec 2 (s944.v.map api.Field.av))], [(o0, .vec 2 ((upd s944.v s944.j (ix s944.v (IntKind.wrap .i64 (s944.j - 1)))).map api.Field.av))], [(o0, .vec 2 ((upd (upd s944.v s944.j (ix s944.v (IntKind.wrap .i64 (s944.j - 1)))) (IntKind.wrap .i64 (s944.j - 1)) (ix s944.v s944.j)).map api.Field.av))]]] [.vec o0, .i s944.j, .vec o0, .i s944.j, .i (IntKind.wrap .i64 (s944.j - 1)), .vec o0, .i s944.j, .i (IntKind.wrap .i64 (s944.j - 1)), .eptr o0 (IntKind.wrap .i64 (s944.j - 1)).toNat 0, .agg [.str (ix s944.v (IntKind.wrap .i64 (s944.j - 1))).Key, .str (ix s944.v (IntKind.wrap .i64 (s944.j - 1))).Val], .vec o0, .i s944.j, .eptr o0 (s944.j).toNat 0, .agg [.str (ix s944.v s944.j).Key, .str (ix s944.v s944.j).Val], .eptr o0 (s944.j).toNat 0, .un, .eptr o0 (IntKind.wrap .i64 (s944.j - 1)).toNat 0, .un] (by decide +kernel) Z Z ?_ ?_
     ·exact ⟨ym Z Z Z, ym Z Z Z, ym Z Z Z, ym Z Z Z, yp Z (pu_int (v := .i (IntKind.wrap .i64 (s944.j - 1))) Z Z (tm Z) (AEv.int _ _) Z), ym Z Z Z, ym Z Z Z, yp Z (pu_int (v := .i (IntKind.wrap .i64 (s944.j - 1))) Z Z (tm Z) (AEv.int _ _) Z), stepg_plain Z (op_indexAddrVecM Z underlying23 sizeOf54 (tm Z) (j := 0) Z (tm Z) c963 ⟨Z, Z⟩), stepg_plain Z (op_loadENM (i := 0) (sz := 2) Z isAgg54 sizeOf54 (tm Z) Z c964 (by decide) Z ⟨Z, Z⟩), ym Z Z Z, ym Z Z Z, stepg_plain Z (op_indexAddrVecM Z underlying23 sizeOf54 (tm Z) (j := 0) Z (tm Z) c965 ⟨Z, Z⟩), stepg_plain Z (op_loadENM (i := 0) (sz := 2) Z isAgg54 sizeOf54 (tm Z) Z c966 (by decide) Z ⟨Z, Z⟩), stepg_plain Z (op_indexAddrVecM Z underlying23 sizeOf54 (tm Z) (j := 0) Z (tm Z) c967 ⟨Z, Z⟩), stepg_plain Z (op_storeEM (i := 0) (sz := 2) (y' := (ix s944.v (IntKind.wrap .i64 (s944.j - 1)))) Z sizeOf54 (tm Z) (v := .agg [.str (ix s944.v (IntKind.wrap .i64 (s944.j - 1))).Key, .str (ix s944.v (IntKind.wrap .i64 (s944.j - 1))).Val]) (tm Z) Z c968 Z Z (by decide) Z ⟨Z, Z⟩), stepg_plain Z (op_indexAddrVecM Z underlying23 sizeOf54 (tm Z) (j := 0) Z (tm Z) c969 ⟨Z, Z⟩), stepg_plain Z (op_storeEM (i := 0) (sz := 2) (y' := (ix s944.v s944.j)) Z sizeOf54 (tm Z) (v := .agg [.str (ix s944.v s944.j).Key, .str (ix s944.v s944.j).Val]) (tm Z) Z c970 Z Z (by decide) Z ⟨Z, Z⟩), trivial⟩
     refine aw_region (xm Z Z Z (xa (.i (IntKind.wrap .i64 (s944.j - 1))) Z (pu_int (v := .i (IntKind.wrap .i64 (s944.j - 1))) Z Z (tm Z) (AEv.int _ _) Z) (xm Z Z Z (xe ?_))))
     obtain rfl := some_of h
     exact ⟨_, (), Z, Weak.mkL [0] (by decide) ⟨⟨_, Z, Z⟩, trivial⟩ ⟨tm Z, tm Z, tm Z, tm Z, tm Z, (AEv.le (tm Z) vr), trivial⟩⟩
    ·replace h := ite_fb hb971 h
     refine aw_exit ?_
     obtain rfl := some_of h
     have h := congrArg some (hx945 _ rfl)
     obtain rfl := some_of h
     exact ⟨(), Weak.mkL [0] (by decide) ⟨⟨_, Z, Z⟩, trivial⟩ ⟨tm Z, tm Z, tm Z, tm Z, tm Z, trivial⟩⟩
  ·intro _
   have h := h892
   refine aw_region (xm Z Z Z (xa (.i (IntKind.wrap .i64 (s809.i + 1))) Z (pu_int (v := .i (IntKind.wrap .i64 (s809.i + 1))) Z Z (tm Z) (AEv.int _ _) Z) (xm Z Z Z (xe ?_))))
   obtain rfl := some_of h
   exact ⟨_, (), Z, Weak.mkL [0] (by decide) ⟨⟨_, Z, Z⟩, trivial⟩ ⟨tm Z, tm Z, tm Z, tm Z, (AEv.le (tm Z) vr), trivial⟩⟩
 ·replace h := ite_f (dec_f hb972) h
  refine aw_exit ?_
  obtain rfl := some_of h
  have h := congrArg some (hx810 _ rfl)
  refine upd_done ?_
  obtain rfl := some_of h
  exact ⟨[], _, [(o0, .vec 2 (s809.v.map api.Field.av))], trivial, vr, Weak.mkL [0] (by decide) ⟨⟨_, Z, Z⟩, trivial⟩ trivial, ⟨Z, Z⟩⟩

theorem slices.swapRangeCmpFunc_api_Field_v_charge_Hash_1.ok {data : List api.Field} {a : Int} {b : Int} {n_ : Int} {r : List api.Field} (h : slices.swapRangeCmpFunc_api_Field_v_charge_Hash_1 data a b n_ = some r) (o0 : Nat) : Go.Lift.Spec prog 102 [.vec o0, .i a, .i b, .i n_, .fn 32 []] [(o0, .vec 2 (data.map api.Field.av))] (fun v H => v = .tup [] ∧ H = [(o0, .vec 2 (r.map api.Field.av))]) := by
 unfold slices.swapRangeCmpFunc_api_Field_v_charge_Hash_1 at h
 refine Go.Lift.Spec.of_body (rs := []) func102 Z Z (nb Z) Z (aw_upd (xr (xa (.i 0) Z (pu_assign Z (AEv.int _ _)) (xe (aw_block (aw_while (σ := slices.swapRangeCmpFunc_api_Field_v_charge_Hash_1.S0) (ν := Unit) (slices.swapRangeCmpFunc_api_Field_v_charge_Hash_1.body0 n_ b a) (fun s54 v => [(0, .vec o0), (1, .i a), (2, .i b), (3, .i n_), (10, .i s54.i)]) (fun s54 v => [(o0, .vec 2 (s54.v.map api.Field.av))]) ⟨0, data⟩ () _ h (Weak.mkL [0] (by decide) ⟨⟨_, Z, Z⟩, trivial⟩ ⟨tm Z, tm Z, tm Z, tm Z, tm Z, trivial⟩) ?_))))))
 rintro s54 _ x56 h hx55
 unfold slices.swapRangeCmpFunc_api_Field_v_charge_Hash_1.body0 at h
 refine aw_seq (xr (xm Z Z Z (xm Z Z Z (xa (.bool (decide (s54.i < n_))) Z (pu_int (v := .bool (decide (s54.i < n_))) Z Z (tm Z) (tm Z) Z) (xe (aw_cond (b := decide (s54.i < n_)) (tm Z) (fun hb66 => ?_) (fun hb66 => ?_)))))))
 ·replace h := ite_t (dec_t hb66) h
  refine aw_skip (aw_seq (aw_block ?_))
  obtain ⟨c58, h⟩ := need_of h
  obtain ⟨c59, h⟩ := need_of h
  obtain ⟨c60, h⟩ := need_of h
  obtain ⟨c61, h⟩ := need_of h
  obtain ⟨c62, h⟩ := need_of h
  obtain ⟨c63, h⟩ := need_of h
  obtain ⟨c64, h⟩ := need_of h
  obtain ⟨c65, h⟩ := need_of h
  refine aw_planR (by decide +kernel) [[], [], [], [], [], [], [], [], [], [], [], [], [(0, 0, false)], [(0, 0, false)], [], [], [], [], [(0, 0, false)], [(0, 0, false)], [(0, 0, false)], [(0, 0, true)], [(0, 1, false)], [(0, 1, true)]] [[21, 23]] [[[(o0, .vec 2 (s54.v.map api.Field.av))], [(o0, .vec 2 ((upd s54.v (IntKind.wrap .i64 (a + s54.i)) (ix s54.v (IntKind.wrap .i64 (b + s54.i)))).map api.Field.av))], [(o0, .vec 2 ((upd (upd s54.v (IntKind.wrap .i64 (a + s54.i)) (ix s54.v (IntKind.wrap .i64 (b + s54.i)))) (IntKind.wrap .i64 (b + s54.i)) (ix s54.v (IntKind.wrap .i64 (a + s54.i)))).map api.Field.av))]]] [.vec o0, .i a, .i s54.i, .i (IntKind.wrap .i64 (a + s54.i)), .vec o0, .i b, .i s54.i, .i (IntKind.wrap .i64 (b + s54.i)), .vec o0, .i b, .i s54.i, .i (IntKind.wrap .i64 (b + s54.i)), .eptr o0 (IntKind.wrap .i64 (b + s54.i)).toNat 0, .agg [.str (ix s54.v (IntKind.wrap .i64 (b + s54.i))).Key, .str (ix s54.v (IntKind.wrap .i64 (b + s54.i))).Val], .vec o0, .i a, .i s54.i, .i (IntKind.wrap .i64 (a + s54.i)), .eptr o0 (IntKind.wrap .i64 (a + s54.i)).toNat 0, .agg [.str (ix s54.v (IntKind.wrap .i64 (a + s54.i))).Key, .str (ix s54.v (IntKind.wrap .i64 (a + s54.i))).Val], .eptr o0 (IntKind.wrap .i64 (a + s54.i)).toNat 0, .un, .eptr o0 (IntKind.wrap .i64 (b + s54.i)).toNat 0, .un] (by decide +kernel) Z Z ?_ ?_
  ·exact ⟨ym Z Z Z, ym Z Z Z, ym Z Z Z, yp Z (pu_int (v := .i (IntKind.wrap .i64 (a + s54.i))) Z Z (tm Z) (tm Z) Z), ym Z Z Z, ym Z Z Z, ym Z Z Z, yp Z (pu_int (v := .i (IntKind.wrap .i64 (b + s54.i))) Z Z (tm Z) (tm Z) Z), ym Z Z Z, ym Z Z Z, ym Z Z Z, yp Z (pu_int (v := .i (IntKind.wrap .i64 (b + s54.i))) Z Z (tm Z) (tm Z) Z), stepg_plain Z (op_indexAddrVecM Z underlying23 sizeOf54 (tm Z) (j := 0) Z (tm Z) c58 ⟨Z, Z⟩), stepg_plain Z (op_loadENM (i := 0) (sz := 2) Z isAgg54 sizeOf54 (tm Z) Z c59 (by decide) Z ⟨Z, Z⟩), ym Z Z Z, ym Z Z Z, ym Z Z Z, yp Z (pu_int (v := .i (IntKind.wrap .i64 (a + s54.i))) Z Z (tm Z) (tm Z) Z), stepg_plain Z (op_indexAddrVecM Z underlying23 sizeOf54 (tm Z) (j := 0) Z (tm Z) c60 ⟨Z, Z⟩), stepg_plain Z (op_loadENM (i := 0) (sz := 2) Z isAgg54 sizeOf54 (tm Z) Z c61 (by decide) Z ⟨Z, Z⟩), stepg_plain Z (op_indexAddrVecM Z underlying23 sizeOf54 (tm Z) (j := 0) Z (tm Z) c62 ⟨Z, Z⟩), stepg_plain Z (op_storeEM (i := 0) (sz := 2) (y' := (ix s54.v (IntKind.wrap .i64 (b + s54.i)))) Z sizeOf54 (tm Z) (v := .agg [.str (ix s54.v (IntKind.wrap .i64 (b + s54.i))).Key, .str (ix s54.v (IntKind.wrap .i64 (b + s54.i))).Val]) (tm Z) Z c63 Z Z (by decide) Z ⟨Z, Z⟩), stepg_plain Z (op_indexAddrVecM Z underlying23 sizeOf54 (tm Z) (j := 0) Z (tm Z) c64 ⟨Z, Z⟩), stepg_plain Z (op_storeEM (i := 0) (sz := 2) (y' := (ix s54.v (IntKind.wrap .i64 (a + s54.i)))) Z sizeOf54 (tm Z) (v := .agg [.str (ix s54.v (IntKind.wrap .i64 (a + s54.i))).Key, .str (ix s54.v (IntKind.wrap .i64 (a + s54.i))).Val]) (tm Z) Z c65 Z Z (by decide) Z ⟨Z, Z⟩), trivial⟩
  refine aw_region (xm Z Z Z (xa (.i (IntKind.wrap .i64 (s54.i + 1))) Z (pu_int (v := .i (IntKind.wrap .i64 (s54.i + 1))) Z Z (tm Z) (AEv.int _ _) Z) (xm Z Z Z (xe ?_))))
  obtain rfl := some_of h
  exact ⟨_, (), Z, Weak.mkL [0] (by decide) ⟨⟨_, Z, Z⟩, trivial⟩ ⟨tm Z, tm Z, tm Z, tm Z, (AEv.le (tm Z) vr), trivial⟩⟩
 ·replace h := ite_f (dec_f hb66) h
  refine aw_exit ?_
  obtain rfl := some_of h
  have h := congrArg some (hx55 _ rfl)
  refine upd_done ?_
  obtain rfl := some_of h
  exact ⟨[], _, [(o0, .vec 2 (s54.v.map api.Field.av))], trivial, vr, Weak.mkL [0] (by decide) ⟨⟨_, Z, Z⟩, trivial⟩ trivial, ⟨Z, Z⟩⟩

theorem slices.rotateCmpFunc_api_Field_v_charge_Hash_1.ok {data : List api.Field} {a : Int} {m : Int} {b : Int} {r : List api.Field} (h : slices.rotateCmpFunc_api_Field_v_charge_Hash_1 data a m b = some r) (o0 : Nat) : Go.Lift.Spec prog 95 [.vec o0, .i a, .i m, .i b, .fn 32 []] [(o0, .vec 2 (data.map api.Field.av))] (fun v H => v = .tup [] ∧ H = [(o0, .vec 2 (r.map api.Field.av))]) := by
 unfold slices.rotateCmpFunc_api_Field_v_charge_Hash_1 at h
 refine Go.Lift.Spec.of_body (rs := []) func95 Z Z (nb Z) Z (aw_upd (xr (xm Z Z Z (xm Z Z Z (xa (.i (IntKind.wrap .i64 (m - a))) Z (pu_int (v := .i (IntKind.wrap .i64 (m - a))) Z Z (tm Z) (tm Z) Z) (xm Z Z Z (xe (aw_seq ?_))))))))
 refine aw_region (xm Z Z Z (xm Z Z Z (xa (.i (IntKind.wrap .i64 (b - m))) Z (pu_int (v := .i (IntKind.wrap .i64 (b - m))) Z Z (tm Z) (tm Z) Z) (xm Z Z Z (xe ?_)))))
 obtain ⟨s62, s62e, h63⟩ := bind_some h
 refine aw_meet (ν := Unit) (fun v => [(0, .vec o0), (2, .i m), (4, .fn 32 []), (10, .i s62.1)]) (fun v => [(o0, .vec 2 (s62.2.map api.Field.av))]) ?_ ?_
 ·have h := s62e
  refine aw_block (aw_while (σ := slices.rotateCmpFunc_api_Field_v_charge_Hash_1.S0) (ν := Unit) (slices.rotateCmpFunc_api_Field_v_charge_Hash_1.body0 m) (fun s76 v => [(0, .vec o0), (2, .i m), (4, .fn 32 []), (10, .i s76.i), (11, .i s76.j)]) (fun s76 v => [(o0, .vec 2 (s76.v.map api.Field.av))]) ⟨IntKind.wrap .i64 (m - a), IntKind.wrap .i64 (b - m), data⟩ () _ h (Weak.mkL [0] (by decide) ⟨⟨_, Z, Z⟩, trivial⟩ ⟨tm Z, tm Z, tm Z, (AEv.le (tm Z) vr), (AEv.le (tm Z) vr), trivial⟩) ?_)
  rintro s76 _ x78 h hx77
  unfold slices.rotateCmpFunc_api_Field_v_charge_Hash_1.body0 at h
  refine aw_seq (xr (xm Z Z Z (xm Z Z Z (xa (.bool (!decide (s76.i = s76.j))) Z (pu_int (v := .bool (!decide (s76.i = s76.j))) Z Z (tm Z) (tm Z) Z) (xe (aw_cond (b := (!decide (s76.i = s76.j))) (tm Z) (fun hb83 => ?_) (fun hb83 => ?_)))))))
  ·replace h := ite_f (ndec_t hb83) h
   refine aw_skip (aw_block (xr (xm Z Z Z (xm Z Z Z (xa (.bool (decide (s76.j < s76.i))) Z (pu_int (v := .bool (decide (s76.j < s76.i))) Z Z (tm Z) (tm Z) Z) (xe (aw_cond (b := decide (s76.j < s76.i)) (tm Z) (fun hb82 => ?_) (fun hb82 => ?_))))))))
   ·replace h := ite_t (dec_t hb82) h
    refine xr (xm Z Z Z (xm Z Z Z (xm Z Z Z (xa (.i (IntKind.wrap .i64 (m - s76.i))) Z (pu_int (v := .i (IntKind.wrap .i64 (m - s76.i))) Z Z (tm Z) (tm Z) Z) (xm Z Z Z (xm Z Z Z (xm Z Z Z ?_)))))))
    obtain ⟨r80, r80e, h⟩ := bind_some h
    refine xc Z (op_call (vs := [.vec o0, .i (IntKind.wrap .i64 (m - s76.i)), .i m, .i s76.j, .fn 32 []]) (H := [(o0, .vec 2 (s76.v.map api.Field.av))]) Z call102 ⟨(tm Z), (tm Z), (tm Z), (tm Z), (tm Z), trivial⟩ (List.Perm.refl _) (slices.swapRangeCmpFunc_api_Field_v_charge_Hash_1.ok r80e o0) ?_)
    rintro _ _ ⟨rfl, rfl⟩
    refine xe (aw_region (xm Z Z Z (xm Z Z Z (xa (.i (IntKind.wrap .i64 (s76.i - s76.j))) Z (pu_int (v := .i (IntKind.wrap .i64 (s76.i - s76.j))) Z Z (tm Z) (tm Z) Z) (xm Z Z Z (xe ?_))))))
    obtain rfl := some_of h
    exact ⟨_, (), Z, Weak.mkL [0] (by decide) ⟨⟨_, Z, Z⟩, trivial⟩ ⟨tm Z, tm Z, tm Z, (AEv.le (tm Z) vr), tm Z, trivial⟩⟩
   ·replace h := ite_f (dec_f hb82) h
    refine xr (xm Z Z Z (xm Z Z Z (xm Z Z Z (xa (.i (IntKind.wrap .i64 (m - s76.i))) Z (pu_int (v := .i (IntKind.wrap .i64 (m - s76.i))) Z Z (tm Z) (tm Z) Z) (xm Z Z Z (xm Z Z Z (xa (.i (IntKind.wrap .i64 (m + s76.j))) Z (pu_int (v := .i (IntKind.wrap .i64 (m + s76.j))) Z Z (tm Z) (tm Z) Z) (xm Z Z Z ?_))))))))
    refine xa (.i (IntKind.wrap .i64 ((IntKind.wrap .i64 (m + s76.j)) - s76.i))) Z (pu_int (v := .i (IntKind.wrap .i64 ((IntKind.wrap .i64 (m + s76.j)) - s76.i))) Z Z (tm Z) (tm Z) Z) (xm Z Z Z (xm Z Z Z ?_))
    obtain ⟨r81, r81e, h⟩ := bind_some h
    refine xc Z (op_call (vs := [.vec o0, .i (IntKind.wrap .i64 (m - s76.i)), .i (IntKind.wrap .i64 ((IntKind.wrap .i64 (m + s76.j)) - s76.i)), .i s76.i, .fn 32 []]) (H := [(o0, .vec 2 (s76.v.map api.Field.av))]) Z call102 ⟨(tm Z), (tm Z), (tm Z), (tm Z), (tm Z), trivial⟩ (List.Perm.refl _) (slices.swapRangeCmpFunc_api_Field_v_charge_Hash_1.ok r81e o0) ?_)
    rintro _ _ ⟨rfl, rfl⟩
    refine xe (aw_region (xm Z Z Z (xm Z Z Z (xa (.i (IntKind.wrap .i64 (s76.j - s76.i))) Z (pu_int (v := .i (IntKind.wrap .i64 (s76.j - s76.i))) Z Z (tm Z) (tm Z) Z) (xm Z Z Z (xe ?_))))))
    obtain rfl := some_of h
    exact ⟨_, (), Z, Weak.mkL [0] (by decide) ⟨⟨_, Z, Z⟩, trivial⟩ ⟨tm Z, tm Z, tm Z, tm Z, (AEv.le (tm Z) vr), trivial⟩⟩
  ·replace h := ite_t (ndec_f hb83) h
   refine aw_exit ?_
   obtain rfl := some_of h
   have h := congrArg some (hx77 _ rfl)
   obtain rfl := some_of h
   exact ⟨(), Weak.mkL [0] (by decide) ⟨⟨_, Z, Z⟩, trivial⟩ ⟨tm Z, tm Z, tm Z, tm Z, trivial⟩⟩
 ·intro _
  have h := h63
  refine aw_region (xm Z Z Z (xm Z Z Z (xm Z Z Z (xa (.i (IntKind.wrap .i64 (m - s62.1))) Z (pu_int (v := .i (IntKind.wrap .i64 (m - s62.1))) Z Z (tm Z) (tm Z) Z) (xm Z Z Z (xm Z Z Z (xm Z Z Z ?_)))))))
  obtain ⟨r84, r84e, h⟩ := bind_some h
  refine xc Z (op_call (vs := [.vec o0, .i (IntKind.wrap .i64 (m - s62.1)), .i m, .i s62.1, .fn 32 []]) (H := [(o0, .vec 2 (s62.2.map api.Field.av))]) Z call102 ⟨(tm Z), (tm Z), (tm Z), (tm Z), (tm Z), trivial⟩ (List.Perm.refl _) (slices.swapRangeCmpFunc_api_Field_v_charge_Hash_1.ok r84e o0) ?_)
  rintro _ _ ⟨rfl, rfl⟩
  refine xe (upd_done ?_)
  obtain rfl := some_of h
  exact ⟨[], _, [(o0, .vec 2 (r84.map api.Field.av))], trivial, vr, Weak.mkL [0] (by decide) ⟨⟨_, Z, Z⟩, trivial⟩ trivial, ⟨Z, Z⟩⟩

theorem slices.symMergeCmpFunc_api_Field_v_charge_Hash_1.rec.ok (kk : Nat) : ∀ {data : List api.Field} {a : Int} {m : Int} {b : Int} {r : List api.Field} (h : slices.symMergeCmpFunc_api_Field_v_charge_Hash_1.rec kk data a m b = some r) (o0 : Nat), Go.Lift.Spec prog 76 [.vec o0, .i a, .i m, .i b, .fn 32 []] [(o0, .vec 2 (data.map api.Field.av))] (fun v H => v = .tup [] ∧ H = [(o0, .vec 2 (r.map api.Field.av))]) := by
 induction kk with
 | zero => intro data a m b r h o0; exact nomatch h
 | succ kk ih =>
  intro data a m b r h o0
  rw [slices.symMergeCmpFunc_api_Field_v_charge_Hash_1.rec.eq_2] at h
  refine Go.Lift.Spec.of_body (rs := []) func76 Z Z (nb Z) Z (aw_upd (aw_seq (xr (xm Z Z Z (xm Z Z Z (xa (.i (IntKind.wrap .i64 (m - a))) Z (pu_int (v := .i (IntKind.wrap .i64 (m - a))) Z Z (tm Z) (tm Z) Z) (xa (.bool (decide ((IntKind.wrap .i64 (m - a)) = 1))) Z (pu_int (v := .bool (decide ((IntKind.wrap .i64 (m - a)) = 1))) Z Z (tm Z) (AEv.int _ _) Z) (xe ?_))))))))
  refine aw_cond (b := decide ((IntKind.wrap .i64 (m - a)) = 1)) (tm Z) (fun hb764 => ?_) (fun hb764 => ?_)
  ·replace h := ite_t (dec_t hb764) h
   refine xr (xm Z Z Z (xm Z Z Z (xe (xr (xm Z Z Z (xm Z Z Z (xe ?_)))))))
   obtain ⟨s413, s413e, h414⟩ := bind_some h
   refine aw_meet (ν := Unit) (fun v => [(0, .vec o0), (1, .i a), (10, .i s413)]) (fun v => [(o0, .vec 2 (data.map api.Field.av))]) ?_ ?_
   ·have h := s413e
    refine aw_block (aw_while (σ := slices.symMergeCmpFunc_api_Field_v_charge_Hash_1.S0) (ν := Unit) (slices.symMergeCmpFunc_api_Field_v_charge_Hash_1.body0 data a) (fun s434 v => [(0, .vec o0), (1, .i a), (4, .fn 32 []), (10, .i s434.i), (11, .i s434.j)]) (fun s434 v => [(o0, .vec 2 (data.map api.Field.av))]) ⟨m, b⟩ () _ h (Weak.mkL [0] (by decide) ⟨⟨_, Z, Z⟩, trivial⟩ ⟨tm Z, tm Z, tm Z, tm Z, tm Z, trivial⟩) ?_)
    rintro s434 _ x436 h hx435
    unfold slices.symMergeCmpFunc_api_Field_v_charge_Hash_1.body0 at h
    refine aw_seq (xr (xm Z Z Z (xm Z Z Z (xa (.bool (decide (s434.i < s434.j))) Z (pu_int (v := .bool (decide (s434.i < s434.j))) Z Z (tm Z) (tm Z) Z) (xe (aw_cond (b := decide (s434.i < s434.j)) (tm Z) (fun hb445 => ?_) (fun hb445 => ?_)))))))
    ·replace h := ite_t (dec_t hb445) h
     refine aw_skip (aw_block (xr (xm Z Z Z (xm Z Z Z (xa (.i (IntKind.wrap .i64 (s434.i + s434.j))) Z (pu_int (v := .i (IntKind.wrap .i64 (s434.i + s434.j))) Z Z (tm Z) (tm Z) Z) (xa (.int .u64 (IntKind.wrap .u64 (IntKind.wrap .i64 (s434.i + s434.j)))) Z (pu_conv Z underlying3 underlying78 (tm Z)) (xa (.int .u64 ((IntKind.wrap .u64 (IntKind.wrap .i64 (s434.i + s434.j))) / 2 ^ min (Int.toNat 1) (IntKind.bits .u64))) Z (pu_shr Z (tm Z) (AEv.int _ _) (by decide)) (xa (.i (IntKind.wrap .i64 ((IntKind.wrap .u64 (IntKind.wrap .i64 (s434.i + s434.j))) / 2 ^ min (Int.toNat 1) (IntKind.bits .u64)))) Z (pu_conv Z underlying78 underlying3 (tm Z)) ?_))))))))
     refine xm Z Z Z (xe (aw_seq ?_))
     obtain ⟨c438, h⟩ := need_of h
     obtain ⟨c439, h⟩ := need_of h
     obtain ⟨c440, h⟩ := need_of h
     obtain ⟨c441, h⟩ := need_of h
     obtain ⟨r442, r442e, h⟩ := bind_some h
     refine aw_planR (by decide +kernel) [[], [], [], [(0, 0, false)], [(0, 0, false)], [], [], [(0, 0, false)], [(0, 0, false)], [], []] [[]] [[[(o0, .vec 2 (data.map api.Field.av))]]] [.fn 32 [], .vec o0, .i (IntKind.wrap .i64 ((IntKind.wrap .u64 (IntKind.wrap .i64 (s434.i + s434.j))) / 2 ^ min (Int.toNat 1) (IntKind.bits .u64))), .eptr o0 (IntKind.wrap .i64 ((IntKind.wrap .u64 (IntKind.wrap .i64 (s434.i + s434.j))) / 2 ^ min (Int.toNat 1) (IntKind.bits .u64))).toNat 0, .agg [.str (ix data (IntKind.wrap .i64 ((IntKind.wrap .u64 (IntKind.wrap .i64 (s434.i + s434.j))) / 2 ^ min (Int.toNat 1) (IntKind.bits .u64)))).Key, .str (ix data (IntKind.wrap .i64 ((IntKind.wrap .u64 (IntKind.wrap .i64 (s434.i + s434.j))) / 2 ^ min (Int.toNat 1) (IntKind.bits .u64)))).Val], .vec o0, .i a, .eptr o0 (a).toNat 0, .agg [.str (ix data a).Key, .str (ix data a).Val], .i r442, .bool (decide (r442 < 0))] (by decide +kernel) Z Z ?_ ?_
     ·exact ⟨ym Z Z Z, ym Z Z Z, ym Z Z Z, stepg_plain Z (op_indexAddrVecM Z underlying23 sizeOf54 (tm Z) (j := 0) Z (tm Z) c438 ⟨Z, Z⟩), stepg_plain Z (op_loadENM (i := 0) (sz := 2) Z isAgg54 sizeOf54 (tm Z) Z c439 (by decide) Z ⟨Z, Z⟩), ym Z Z Z, ym Z Z Z, stepg_plain Z (op_indexAddrVecM Z underlying23 sizeOf54 (tm Z) (j := 0) Z (tm Z) c440 ⟨Z, Z⟩), stepg_plain Z (op_loadENM (i := 0) (sz := 2) Z isAgg54 sizeOf54 (tm Z) Z c441 (by decide) Z ⟨Z, Z⟩), stepg_plain Z (op_callV (vs := [.agg [.str (ix data (IntKind.wrap .i64 ((IntKind.wrap .u64 (IntKind.wrap .i64 (s434.i + s434.j))) / 2 ^ min (Int.toNat 1) (IntKind.bits .u64)))).Key, .str (ix data (IntKind.wrap .i64 ((IntKind.wrap .u64 (IntKind.wrap .i64 (s434.i + s434.j))) / 2 ^ min (Int.toNat 1) (IntKind.bits .u64)))).Val], .agg [.str (ix data a).Key, .str (ix data a).Val]]) (H := []) Z (tm Z) call32 ⟨(tm Z), (tm Z), trivial⟩ (R := []) (List.Perm.refl _) (charge.Hash_1.ok r442e) (by rintro _ _ ⟨rfl, rfl⟩; exact ⟨Z, Z⟩)), yp Z (pu_int (v := .bool (decide (r442 < 0))) Z Z (tm Z) (AEv.int _ _) Z), trivial⟩
     refine aw_cond (b := decide (r442 < 0)) (tm Z) (fun hb444 => ?_) (fun hb444 => ?_)
     ·replace h := ite_t (dec_t hb444) h
      refine aw_region (xm Z Z Z ?_)
      obtain ⟨x443, x443e, h⟩ := letO_of h
      refine xa (.i x443) Z (APure.eq (pu_int (v := .i (IntKind.wrap .i64 ((IntKind.wrap .i64 ((IntKind.wrap .u64 (IntKind.wrap .i64 (s434.i + s434.j))) / 2 ^ min (Int.toNat 1) (IntKind.bits .u64))) + 1))) Z Z (tm Z) (AEv.int _ _) Z) (congrArg (AV.int .i64) x443e.symm)) (xm Z Z Z (xe ?_))
      obtain rfl := some_of h
      exact ⟨_, (), Z, Weak.mkL [0] (by decide) ⟨⟨_, Z, Z⟩, trivial⟩ ⟨tm Z, tm Z, tm Z, tm Z, tm Z, trivial⟩⟩
     ·replace h := ite_f (dec_f hb444) h
      refine aw_region (xm Z Z Z (xm Z Z Z (xe ?_)))
      obtain rfl := some_of h
      exact ⟨_, (), Z, Weak.mkL [0] (by decide) ⟨⟨_, Z, Z⟩, trivial⟩ ⟨tm Z, tm Z, tm Z, tm Z, (AEv.le (tm Z) vr), trivial⟩⟩
    ·replace h := ite_f (dec_f hb445) h
     refine aw_exit ?_
     obtain rfl := some_of h
     have h := congrArg some (hx435 _ rfl)
     obtain rfl := some_of h
     exact ⟨(), Weak.mkL [0] (by decide) ⟨⟨_, Z, Z⟩, trivial⟩ ⟨tm Z, tm Z, tm Z, trivial⟩⟩
   ·intro _
    have h := h414
    obtain ⟨s479, s479e, h480⟩ := bind_some h
    refine aw_meet (ν := Unit) (fun v => []) (fun v => [(o0, .vec 2 (s479.map api.Field.av))]) ?_ ?_
    ·have h := s479e
     refine xr (xm Z Z Z (xm Z Z Z (xe (aw_block (aw_while (σ := slices.symMergeCmpFunc_api_Field_v_charge_Hash_1.S2) (ν := Unit) (slices.symMergeCmpFunc_api_Field_v_charge_Hash_1.body2 s413) (fun s502 v => [(0, .vec o0), (10, .i s413), (13, .i s502.k)]) (fun s502 v => [(o0, .vec 2 (s502.v.map api.Field.av))]) ⟨a, data⟩ () _ h (Weak.mkL [0] (by decide) ⟨⟨_, Z, Z⟩, trivial⟩ ⟨tm Z, tm Z, tm Z, trivial⟩) ?_)))))
     rintro s502 _ x504 h hx503
     unfold slices.symMergeCmpFunc_api_Field_v_charge_Hash_1.body2 at h
     refine aw_seq (xr (xm Z Z Z (xm Z Z Z (xa (.i (IntKind.wrap .i64 (s413 - 1))) Z (pu_int (v := .i (IntKind.wrap .i64 (s413 - 1))) Z Z (tm Z) (AEv.int _ _) Z) (xa (.bool (decide (s502.k < (IntKind.wrap .i64 (s413 - 1))))) Z (pu_int (v := .bool (decide (s502.k < (IntKind.wrap .i64 (s413 - 1))))) Z Z (tm Z) (tm Z) Z) (xe (aw_cond (b := decide (s502.k < (IntKind.wrap .i64 (s413 - 1)))) (tm Z) (fun hb514 => ?_) (fun hb514 => ?_))))))))
     ·replace h := ite_t (dec_t hb514) h
      refine aw_skip (aw_seq (aw_block ?_))
      obtain ⟨c506, h⟩ := need_of h
      obtain ⟨c507, h⟩ := need_of h
      obtain ⟨c508, h⟩ := need_of h
      obtain ⟨c509, h⟩ := need_of h
      obtain ⟨c510, h⟩ := need_of h
      obtain ⟨c511, h⟩ := need_of h
      obtain ⟨c512, h⟩ := need_of h
      obtain ⟨c513, h⟩ := need_of h
      refine aw_planR (by decide +kernel) [[], [], [], [], [], [], [], [], [(0, 0, false)], [(0, 0, false)], [], [], [(0, 0, false)], [(0, 0, false)], [(0, 0, false)], [(0, 0, true)], [(0, 1, false)], [(0, 1, true)]] [[15, 17]] [[[(o0, .vec 2 (s502.v.map api.Field.av))], [(o0, .vec 2 ((upd s502.v s502.k (ix s502.v (IntKind.wrap .i64 (s502.k + 1)))).map api.Field.av))], [(o0, .vec 2 ((upd (upd s502.v s502.k (ix s502.v (IntKind.wrap .i64 (s502.k + 1)))) (IntKind.wrap .i64 (s502.k + 1)) (ix s502.v s502.k)).map api.Field.av))]]] [.vec o0, .i s502.k, .vec o0, .i s502.k, .i (IntKind.wrap .i64 (s502.k + 1)), .vec o0, .i s502.k, .i (IntKind.wrap .i64 (s502.k + 1)), .eptr o0 (IntKind.wrap .i64 (s502.k + 1)).toNat 0, .agg [.str (ix s502.v (IntKind.wrap .i64 (s502.k + 1))).Key, .str (ix s502.v (IntKind.wrap .i64 (s502.k + 1))).Val], .vec o0, .i s502.k, .eptr o0 (s502.k).toNat 0, .agg [.str (ix s502.v s502.k).Key, .str (ix s502.v s502.k).Val], .eptr o0 (s502.k).toNat 0, .un, .eptr o0 (IntKind.wrap .i64 (s502.k + 1)).toNat 0, .un] (by decide +kernel) Z Z ?_ ?_
      ·exact ⟨ym Z Z Z, ym Z Z Z, ym Z Z Z, ym Z Z Z, yp Z (pu_int (v := .i (IntKind.wrap .i64 (s502.k + 1))) Z Z (tm Z) (AEv.int _ _) Z), ym Z Z Z, ym Z Z Z, yp Z (pu_int (v := .i (IntKind.wrap .i64 (s502.k + 1))) Z Z (tm Z) (AEv.int _ _) Z), stepg_plain Z (op_indexAddrVecM Z underlying23 sizeOf54 (tm Z) (j := 0) Z (tm Z) c506 ⟨Z, Z⟩), stepg_plain Z (op_loadENM (i := 0) (sz := 2) Z isAgg54 sizeOf54 (tm Z) Z c507 (by decide) Z ⟨Z, Z⟩), ym Z Z Z, ym Z Z Z, stepg_plain Z (op_indexAddrVecM Z underlying23 sizeOf54 (tm Z) (j := 0) Z (tm Z) c508 ⟨Z, Z⟩), stepg_plain Z (op_loadENM (i := 0) (sz := 2) Z isAgg54 sizeOf54 (tm Z) Z c509 (by decide) Z ⟨Z, Z⟩), stepg_plain Z (op_indexAddrVecM Z underlying23 sizeOf54 (tm Z) (j := 0) Z (tm Z) c510 ⟨Z, Z⟩), stepg_plain Z (op_storeEM (i := 0) (sz := 2) (y' := (ix s502.v (IntKind.wrap .i64 (s502.k + 1)))) Z sizeOf54 (tm Z) (v := .agg [.str (ix s502.v (IntKind.wrap .i64 (s502.k + 1))).Key, .str (ix s502.v (IntKind.wrap .i64 (s502.k + 1))).Val]) (tm Z) Z c511 Z Z (by decide) Z ⟨Z, Z⟩), stepg_plain Z (op_indexAddrVecM Z underlying23 sizeOf54 (tm Z) (j := 0) Z (tm Z) c512 ⟨Z, Z⟩), stepg_plain Z (op_storeEM (i := 0) (sz := 2) (y' := (ix s502.v s502.k)) Z sizeOf54 (tm Z) (v := .agg [.str (ix s502.v s502.k).Key, .str (ix s502.v s502.k).Val]) (tm Z) Z c513 Z Z (by decide) Z ⟨Z, Z⟩), trivial⟩
      refine aw_region (xm Z Z Z (xa (.i (IntKind.wrap .i64 (s502.k + 1))) Z (pu_int (v := .i (IntKind.wrap .i64 (s502.k + 1))) Z Z (tm Z) (AEv.int _ _) Z) (xm Z Z Z (xe ?_))))
      obtain rfl := some_of h
      exact ⟨_, (), Z, Weak.mkL [0] (by decide) ⟨⟨_, Z, Z⟩, trivial⟩ ⟨tm Z, tm Z, (AEv.le (tm Z) vr), trivial⟩⟩
     ·replace h := ite_f (dec_f hb514) h
      refine aw_exit ?_
      obtain rfl := some_of h
      have h := congrArg some (hx503 _ rfl)
      obtain rfl := some_of h
      exact ⟨(), Weak.mkL [0] (by decide) ⟨⟨_, Z, Z⟩, trivial⟩ trivial⟩
    ·intro _
     have h := h480
     refine aw_ret ?_
     obtain rfl := some_of h
     exact ⟨[], _, [(o0, .vec 2 (s479.map api.Field.av))], trivial, vr, Weak.mkL [0] (by decide) ⟨⟨_, Z, Z⟩, trivial⟩ trivial, ⟨Z, Z⟩⟩
  ·replace h := ite_f (dec_f hb764) h
   refine aw_skip (aw_seq (xr (xm Z Z Z (xm Z Z Z (xa (.i (IntKind.wrap .i64 (b - m))) Z (pu_int (v := .i (IntKind.wrap .i64 (b - m))) Z Z (tm Z) (tm Z) Z) (xa (.bool (decide ((IntKind.wrap .i64 (b - m)) = 1))) Z (pu_int (v := .bool (decide ((IntKind.wrap .i64 (b - m)) = 1))) Z Z (tm Z) (AEv.int _ _) Z) (xe (aw_cond (b := decide ((IntKind.wrap .i64 (b - m)) = 1)) (tm Z) (fun hb763 => ?_) (fun hb763 => ?_)))))))))
   ·replace h := ite_t (dec_t hb763) h
    refine xr (xm Z Z Z (xm Z Z Z (xe (xr (xm Z Z Z (xm Z Z Z (xe ?_)))))))
    obtain ⟨s545, s545e, h546⟩ := bind_some h
    refine aw_meet (ν := Unit) (fun v => [(0, .vec o0), (2, .i m), (14, .i s545)]) (fun v => [(o0, .vec 2 (data.map api.Field.av))]) ?_ ?_
    ·have h := s545e
     refine aw_block (aw_while (σ := slices.symMergeCmpFunc_api_Field_v_charge_Hash_1.S4) (ν := Unit) (slices.symMergeCmpFunc_api_Field_v_charge_Hash_1.body4 m data) (fun s566 v => [(0, .vec o0), (2, .i m), (4, .fn 32 []), (14, .i s566.i), (15, .i s566.j)]) (fun s566 v => [(o0, .vec 2 (data.map api.Field.av))]) ⟨a, m⟩ () _ h (Weak.mkL [0] (by decide) ⟨⟨_, Z, Z⟩, trivial⟩ ⟨tm Z, tm Z, tm Z, tm Z, tm Z, trivial⟩) ?_)
     rintro s566 _ x568 h hx567
     unfold slices.symMergeCmpFunc_api_Field_v_charge_Hash_1.body4 at h
     refine aw_seq (xr (xm Z Z Z (xm Z Z Z (xa (.bool (decide (s566.i < s566.j))) Z (pu_int (v := .bool (decide (s566.i < s566.j))) Z Z (tm Z) (tm Z) Z) (xe (aw_cond (b := decide (s566.i < s566.j)) (tm Z) (fun hb577 => ?_) (fun hb577 => ?_)))))))
     ·replace h := ite_t (dec_t hb577) h
      refine aw_skip (aw_block (xr (xm Z Z Z (xm Z Z Z (xa (.i (IntKind.wrap .i64 (s566.i + s566.j))) Z (pu_int (v := .i (IntKind.wrap .i64 (s566.i + s566.j))) Z Z (tm Z) (tm Z) Z) (xa (.int .u64 (IntKind.wrap .u64 (IntKind.wrap .i64 (s566.i + s566.j)))) Z (pu_conv Z underlying3 underlying78 (tm Z)) (xa (.int .u64 ((IntKind.wrap .u64 (IntKind.wrap .i64 (s566.i + s566.j))) / 2 ^ min (Int.toNat 1) (IntKind.bits .u64))) Z (pu_shr Z (tm Z) (AEv.int _ _) (by decide)) (xa (.i (IntKind.wrap .i64 ((IntKind.wrap .u64 (IntKind.wrap .i64 (s566.i + s566.j))) / 2 ^ min (Int.toNat 1) (IntKind.bits .u64)))) Z (pu_conv Z underlying78 underlying3 (tm Z)) ?_))))))))
      refine xm Z Z Z (xe (aw_seq ?_))
      obtain ⟨c570, h⟩ := need_of h
      obtain ⟨c571, h⟩ := need_of h
      obtain ⟨c572, h⟩ := need_of h
      obtain ⟨c573, h⟩ := need_of h
      obtain ⟨r574, r574e, h⟩ := bind_some h
      refine aw_planR (by decide +kernel) [[], [], [], [(0, 0, false)], [(0, 0, false)], [], [], [(0, 0, false)], [(0, 0, false)], [], [], []] [[]] [[[(o0, .vec 2 (data.map api.Field.av))]]] [.fn 32 [], .vec o0, .i m, .eptr o0 (m).toNat 0, .agg [.str (ix data m).Key, .str (ix data m).Val], .vec o0, .i (IntKind.wrap .i64 ((IntKind.wrap .u64 (IntKind.wrap .i64 (s566.i + s566.j))) / 2 ^ min (Int.toNat 1) (IntKind.bits .u64))), .eptr o0 (IntKind.wrap .i64 ((IntKind.wrap .u64 (IntKind.wrap .i64 (s566.i + s566.j))) / 2 ^ min (Int.toNat 1) (IntKind.bits .u64))).toNat 0, .agg [.str (ix data (IntKind.wrap .i64 ((IntKind.wrap .u64 (IntKind.wrap .i64 (s566.i + s566.j))) / 2 ^ min (Int.toNat 1) (IntKind.bits .u64)))).Key, .str (ix data (IntKind.wrap .i64 ((IntKind.wrap .u64 (IntKind.wrap .i64 (s566.i + s566.j))) / 2 ^ min (Int.toNat 1) (IntKind.bits .u64)))).Val], .i r574, .bool (decide (r574 < 0)), .bool (!(decide (r574 < 0)))] (by decide +kernel) Z Z ?_ ?_
      ·exact ⟨ym Z Z Z, ym Z Z Z, ym Z Z Z, stepg_plain Z (op_indexAddrVecM Z underlying23 sizeOf54 (tm Z) (j := 0) Z (tm Z) c570 ⟨Z, Z⟩), stepg_plain Z (op_loadENM (i := 0) (sz := 2) Z isAgg54 sizeOf54 (tm Z) Z c571 (by decide) Z ⟨Z, Z⟩), ym Z Z Z, ym Z Z Z, stepg_plain Z (op_indexAddrVecM Z underlying23 sizeOf54 (tm Z) (j := 0) Z (tm Z) c572 ⟨Z, Z⟩), stepg_plain Z (op_loadENM (i := 0) (sz := 2) Z isAgg54 sizeOf54 (tm Z) Z c573 (by decide) Z ⟨Z, Z⟩), stepg_plain Z (op_callV (vs := [.agg [.str (ix data m).Key, .str (ix data m).Val], .agg [.str (ix data (IntKind.wrap .i64 ((IntKind.wrap .u64 (IntKind.wrap .i64 (s566.i + s566.j))) / 2 ^ min (Int.toNat 1) (IntKind.bits .u64)))).Key, .str (ix data (IntKind.wrap .i64 ((IntKind.wrap .u64 (IntKind.wrap .i64 (s566.i + s566.j))) / 2 ^ min (Int.toNat 1) (IntKind.bits .u64)))).Val]]) (H := []) Z (tm Z) call32 ⟨(tm Z), (tm Z), trivial⟩ (R := []) (List.Perm.refl _) (charge.Hash_1.ok r574e) (by rintro _ _ ⟨rfl, rfl⟩; exact ⟨Z, Z⟩)), yp Z (pu_int (v := .bool (decide (r574 < 0))) Z Z (tm Z) (AEv.int _ _) Z), yp Z (pu_not Z (tm Z)), trivial⟩
      refine aw_cond (b := (!(decide (r574 < 0)))) (tm Z) (fun hb576 => ?_) (fun hb576 => ?_)
      ·replace h := ite_f (ndec_t hb576) h
       refine aw_region (xm Z Z Z ?_)
       obtain ⟨x575, x575e, h⟩ := letO_of h
       refine xa (.i x575) Z (APure.eq (pu_int (v := .i (IntKind.wrap .i64 ((IntKind.wrap .i64 ((IntKind.wrap .u64 (IntKind.wrap .i64 (s566.i + s566.j))) / 2 ^ min (Int.toNat 1) (IntKind.bits .u64))) + 1))) Z Z (tm Z) (AEv.int _ _) Z) (congrArg (AV.int .i64) x575e.symm)) (xm Z Z Z (xe ?_))
       obtain rfl := some_of h
       exact ⟨_, (), Z, Weak.mkL [0] (by decide) ⟨⟨_, Z, Z⟩, trivial⟩ ⟨tm Z, tm Z, tm Z, tm Z, tm Z, trivial⟩⟩
      ·replace h := ite_t (ndec_f hb576) h
       refine aw_region (xm Z Z Z (xm Z Z Z (xe ?_)))
       obtain rfl := some_of h
       exact ⟨_, (), Z, Weak.mkL [0] (by decide) ⟨⟨_, Z, Z⟩, trivial⟩ ⟨tm Z, tm Z, tm Z, tm Z, (AEv.le (tm Z) vr), trivial⟩⟩
     ·replace h := ite_f (dec_f hb577) h
      refine aw_exit ?_
      obtain rfl := some_of h
      have h := congrArg some (hx567 _ rfl)
      obtain rfl := some_of h
      exact ⟨(), Weak.mkL [0] (by decide) ⟨⟨_, Z, Z⟩, trivial⟩ ⟨tm Z, tm Z, tm Z, trivial⟩⟩
    ·intro _
     have h := h546
     obtain ⟨s611, s611e, h612⟩ := bind_some h
     refine aw_meet (ν := Unit) (fun v => []) (fun v => [(o0, .vec 2 (s611.map api.Field.av))]) ?_ ?_
     ·have h := s611e
      refine xr (xm Z Z Z (xm Z Z Z (xe (aw_block (aw_while (σ := slices.symMergeCmpFunc_api_Field_v_charge_Hash_1.S6) (ν := Unit) (slices.symMergeCmpFunc_api_Field_v_charge_Hash_1.body6 s545) (fun s634 v => [(0, .vec o0), (14, .i s545), (17, .i s634.k)]) (fun s634 v => [(o0, .vec 2 (s634.v.map api.Field.av))]) ⟨m, data⟩ () _ h (Weak.mkL [0] (by decide) ⟨⟨_, Z, Z⟩, trivial⟩ ⟨tm Z, tm Z, tm Z, trivial⟩) ?_)))))
      rintro s634 _ x636 h hx635
      unfold slices.symMergeCmpFunc_api_Field_v_charge_Hash_1.body6 at h
      refine aw_seq (xr (xm Z Z Z (xm Z Z Z (xa (.bool (decide (s545 < s634.k))) Z (pu_int (v := .bool (decide (s545 < s634.k))) Z Z (tm Z) (tm Z) Z) (xe (aw_cond (b := decide (s545 < s634.k)) (tm Z) (fun hb646 => ?_) (fun hb646 => ?_)))))))
      ·replace h := ite_t (dec_t hb646) h
       refine aw_skip (aw_seq (aw_block ?_))
       obtain ⟨c638, h⟩ := need_of h
       obtain ⟨c639, h⟩ := need_of h
       obtain ⟨c640, h⟩ := need_of h
       obtain ⟨c641, h⟩ := need_of h
       obtain ⟨c642, h⟩ := need_of h
       obtain ⟨c643, h⟩ := need_of h
       obtain ⟨c644, h⟩ := need_of h
       obtain ⟨c645, h⟩ := need_of h
       refine aw_planR (by decide +kernel) [[], [], [], [], [], [], [], [], [(0, 0, false)], [(0, 0, false)], [], [], [(0, 0, false)], [(0, 0, false)], [(0, 0, false)], [(0, 0, true)], [(0, 1, false)], [(0, 1, true)]] [[15, 17]] [[[(o0, .vec 2 (s634.v.map api.Field.av))], [(o0, .vec 2 ((upd s634.v s634.k (ix s634.v (IntKind.wrap .i64 (s634.k - 1)))).map api.Field.av))], [(o0, .vec 2 ((upd (upd s634.v s634.k (ix s634.v (IntKind.wrap .i64 (s634.k - 1)))) (IntKind.wrap .i64 (s634.k - 1)) (ix s634.v s634.k)).map api.Field.av))]]] [.vec o0, .i s634.k, .vec o0, .i s634.k, .i (IntKind.wrap .i64 (s634.k - 1)), .vec o0, .i s634.k, .i (IntKind.wrap .i64 (s634.k - 1)), .eptr o0 (IntKind.wrap .i64 (s634.k - 1)).toNat 0, .agg [.str (ix s634.v (IntKind.wrap .i64 (s634.k - 1))).Key, .str (ix s634.v (IntKind.wrap .i64 (s634.k - 1))).Val], .vec o0, .i s634.k, .eptr o0 (s634.k).toNat 0, .agg [.str (ix s634.v s634.k).Key, .str (ix s634.v s634.k).Val], .eptr o0 (s634.k).toNat 0, .un, .eptr o0 (IntKind.wrap .i64 (s634.k - 1)).toNat 0, .un] (by decide +kernel) Z Z ?_ ?_
       ·exact ⟨ym Z Z Z, ym Z Z Z, ym Z Z Z, ym Z Z Z, yp Z (pu_int (v := .i (IntKind.wrap .i64 (s634.k - 1))) Z Z (tm Z) (AEv.int _ _) Z), ym Z Z Z, ym Z Z Z, yp Z (pu_int (v := .i (IntKind.wrap .i64 (s634.k - 1))) Z Z (tm Z) (AEv.int _ _) Z), stepg_plain Z (op_indexAddrVecM Z underlying23 sizeOf54 (tm Z) (j := 0) Z (tm Z) c638 ⟨Z, Z⟩), stepg_plain Z (op_loadENM (i := 0) (sz := 2) Z isAgg54 sizeOf54 (tm Z) Z c639 (by decide) Z ⟨Z, Z⟩), ym Z Z Z, ym Z Z Z, stepg_plain Z (op_indexAddrVecM Z underlying23 sizeOf54 (tm Z) (j := 0) Z (tm Z) c640 ⟨Z, Z⟩), stepg_plain Z (op_loadENM (i := 0) (sz := 2) Z isAgg54 sizeOf54 (tm Z) Z c641 (by decide) Z ⟨Z, Z⟩), stepg_plain Z (op_indexAddrVecM Z underlying23 sizeOf54 (tm Z) (j := 0) Z (tm Z) c642 ⟨Z, Z⟩), stepg_plain Z (op_storeEM (i := 0) (sz := 2) (y' := (ix s634.v (IntKind.wrap .i64 (s634.k - 1)))) Z sizeOf54 (tm Z) (v := .agg [.str (ix s634.v (IntKind.wrap .i64 (s634.k - 1))).Key, .str (ix s634.v (IntKind.wrap .i64 (s634.k - 1))).Val]) (tm Z) Z c643 Z Z (by decide) Z ⟨Z, Z⟩), stepg_plain Z (op_indexAddrVecM Z underlying23 sizeOf54 (tm Z) (j := 0) Z (tm Z) c644 ⟨Z, Z⟩), stepg_plain Z (op_storeEM (i := 0) (sz := 2) (y' := (ix s634.v s634.k)) Z sizeOf54 (tm Z) (v := .agg [.str (ix s634.v s634.k).Key, .str (ix s634.v s634.k).Val]) (tm Z) Z c645 Z Z (by decide) Z ⟨Z, Z⟩), trivial⟩
       refine aw_region (xm Z Z Z (xa (.i (IntKind.wrap .i64 (s634.k - 1))) Z (pu_int (v := .i (IntKind.wrap .i64 (s634.k - 1))) Z Z (tm Z) (AEv.int _ _) Z) (xm Z Z Z (xe ?_))))
       obtain rfl := some_of h
       exact ⟨_, (), Z, Weak.mkL [0] (by decide) ⟨⟨_, Z, Z⟩, trivial⟩ ⟨tm Z, tm Z, (AEv.le (tm Z) vr), trivial⟩⟩
      ·replace h := ite_f (dec_f hb646) h
       refine aw_exit ?_
       obtain rfl := some_of h
       have h := congrArg some (hx635 _ rfl)
       obtain rfl := some_of h
       exact ⟨(), Weak.mkL [0] (by decide) ⟨⟨_, Z, Z⟩, trivial⟩ trivial⟩
     ·intro _
      have h := h612
      refine aw_ret ?_
      obtain rfl := some_of h
      exact ⟨[], _, [(o0, .vec 2 (s611.map api.Field.av))], trivial, vr, Weak.mkL [0] (by decide) ⟨⟨_, Z, Z⟩, trivial⟩ trivial, ⟨Z, Z⟩⟩
   ·replace h := ite_f (dec_f hb763) h
    refine aw_skip (xr (xm Z Z Z (xm Z Z Z (xa (.i (IntKind.wrap .i64 (a + b))) Z (pu_int (v := .i (IntKind.wrap .i64 (a + b))) Z Z (tm Z) (tm Z) Z) (xa (.int .u64 (IntKind.wrap .u64 (IntKind.wrap .i64 (a + b)))) Z (pu_conv Z underlying3 underlying78 (tm Z)) (xa (.int .u64 ((IntKind.wrap .u64 (IntKind.wrap .i64 (a + b))) / 2 ^ min (Int.toNat 1) (IntKind.bits .u64))) Z (pu_shr Z (tm Z) (AEv.int _ _) (by decide)) (xa (.i (IntKind.wrap .i64 ((IntKind.wrap .u64 (IntKind.wrap .i64 (a + b))) / 2 ^ min (Int.toNat 1) (IntKind.bits .u64)))) Z (pu_conv Z underlying78 underlying3 (tm Z)) (xm Z Z Z ?_))))))))
    refine xe (xr (xm Z Z Z (xm Z Z Z ?_)))
    obtain ⟨x647, x647e, h⟩ := letO_of h
    refine xa (.i x647) Z (APure.eq (pu_int (v := .i (IntKind.wrap .i64 ((IntKind.wrap .i64 ((IntKind.wrap .u64 (IntKind.wrap .i64 (a + b))) / 2 ^ min (Int.toNat 1) (IntKind.bits .u64))) + m))) Z Z (tm Z) (tm Z) Z) (congrArg (AV.int .i64) x647e.symm)) (xm Z Z Z (xe (xr (xa (.i 0) Z (pu_assign Z (AEv.int _ _)) (xa (.i 0) Z (pu_assign Z (AEv.int _ _)) (xe ?_))))))
    obtain ⟨s649, s649e, h650⟩ := letO_of h
    refine aw_meet (ν := Unit) (fun v => [(0, .vec o0), (1, .i a), (2, .i m), (3, .i b), (4, .fn 32 []), (18, .i (IntKind.wrap .i64 ((IntKind.wrap .u64 (IntKind.wrap .i64 (a + b))) / 2 ^ min (Int.toNat 1) (IntKind.bits .u64)))), (19, .i x647), (20, .i s649.1), (21, .i s649.2)]) (fun v => [(o0, .vec 2 (data.map api.Field.av))]) ?_ ?_
    ·have h := s649e.symm
     refine xr (xm Z Z Z (xm Z Z Z (xa (.bool (decide ((IntKind.wrap .i64 ((IntKind.wrap .u64 (IntKind.wrap .i64 (a + b))) / 2 ^ min (Int.toNat 1) (IntKind.bits .u64))) < m))) Z (pu_int (v := .bool (decide ((IntKind.wrap .i64 ((IntKind.wrap .u64 (IntKind.wrap .i64 (a + b))) / 2 ^ min (Int.toNat 1) (IntKind.bits .u64))) < m))) Z Z (tm Z) (tm Z) Z) (xe (aw_cond (b := decide ((IntKind.wrap .i64 ((IntKind.wrap .u64 (IntKind.wrap .i64 (a + b))) / 2 ^ min (Int.toNat 1) (IntKind.bits .u64))) < m)) (tm Z) (fun hb652 => ?_) (fun hb652 => ?_))))))
     ·replace h := ite_t (dec_t hb652) h
      refine xr (xm Z Z Z (xm Z Z Z (xa (.i (IntKind.wrap .i64 (x647 - b))) Z (pu_int (v := .i (IntKind.wrap .i64 (x647 - b))) Z Z (tm Z) (tm Z) Z) (xm Z Z Z (xe (aw_region (xm Z Z Z (xm Z Z Z ?_))))))))
      refine xe ?_
      subst h
      exact ⟨(), Weak.mkL [0] (by decide) ⟨⟨_, Z, Z⟩, trivial⟩ ⟨tm Z, tm Z, tm Z, tm Z, tm Z, tm Z, tm Z, (AEv.le (tm Z) vr), (AEv.le (tm Z) vr), trivial⟩⟩
     ·replace h := ite_f (dec_f hb652) h
      refine xr (xm Z Z Z (xm Z Z Z (xe (aw_region (xm Z Z Z (xm Z Z Z (xe ?_)))))))
      subst h
      exact ⟨(), Weak.mkL [0] (by decide) ⟨⟨_, Z, Z⟩, trivial⟩ ⟨tm Z, tm Z, tm Z, tm Z, tm Z, tm Z, tm Z, tm Z, tm Z, trivial⟩⟩
    ·intro _
     have h := h650
     refine xr (xm Z Z Z (xa (.i (IntKind.wrap .i64 (x647 - 1))) Z (pu_int (v := .i (IntKind.wrap .i64 (x647 - 1))) Z Z (tm Z) (AEv.int _ _) Z) (xm Z Z Z (xe ?_))))
     obtain ⟨s686, s686e, h687⟩ := bind_some h
     refine aw_meet (ν := Unit) (fun v => [(0, .vec o0), (1, .i a), (2, .i m), (3, .i b), (4, .fn 32 []), (18, .i (IntKind.wrap .i64 ((IntKind.wrap .u64 (IntKind.wrap .i64 (a + b))) / 2 ^ min (Int.toNat 1) (IntKind.bits .u64)))), (19, .i x647), (20, .i s686)]) (fun v => [(o0, .vec 2 (data.map api.Field.av))]) ?_ ?_
     ·have h := s686e
      refine aw_block (aw_while (σ := slices.symMergeCmpFunc_api_Field_v_charge_Hash_1.S8) (ν := Unit) (slices.symMergeCmpFunc_api_Field_v_charge_Hash_1.body8 x647 data) (fun s709 v => [(0, .vec o0), (1, .i a), (2, .i m), (3, .i b), (4, .fn 32 []), (18, .i (IntKind.wrap .i64 ((IntKind.wrap .u64 (IntKind.wrap .i64 (a + b))) / 2 ^ min (Int.toNat 1) (IntKind.bits .u64)))), (19, .i x647), (20, .i s709.start), (21, .i s709.r), (22, .i (IntKind.wrap .i64 (x647 - 1)))]) (fun s709 v => [(o0, .vec 2 (data.map api.Field.av))]) ⟨s649.1, s649.2⟩ () _ h (Weak.mkL [0] (by decide) ⟨⟨_, Z, Z⟩, trivial⟩ ⟨tm Z, tm Z, tm Z, tm Z, tm Z, tm Z, tm Z, tm Z, tm Z, tm Z, trivial⟩) ?_)
      rintro s709 _ x711 h hx710
      unfold slices.symMergeCmpFunc_api_Field_v_charge_Hash_1.body8 at h
      refine aw_seq (xr (xm Z Z Z (xm Z Z Z (xa (.bool (decide (s709.start < s709.r))) Z (pu_int (v := .bool (decide (s709.start < s709.r))) Z Z (tm Z) (tm Z) Z) (xe (aw_cond (b := decide (s709.start < s709.r)) (tm Z) (fun hb721 => ?_) (fun hb721 => ?_)))))))
      ·replace h := ite_t (dec_t hb721) h
       refine aw_skip (aw_block (xr (xm Z Z Z (xm Z Z Z (xa (.i (IntKind.wrap .i64 (s709.start + s709.r))) Z (pu_int (v := .i (IntKind.wrap .i64 (s709.start + s709.r))) Z Z (tm Z) (tm Z) Z) (xa (.int .u64 (IntKind.wrap .u64 (IntKind.wrap .i64 (s709.start + s709.r)))) Z (pu_conv Z underlying3 underlying78 (tm Z)) (xa (.int .u64 ((IntKind.wrap .u64 (IntKind.wrap .i64 (s709.start + s709.r))) / 2 ^ min (Int.toNat 1) (IntKind.bits .u64))) Z (pu_shr Z (tm Z) (AEv.int _ _) (by decide)) (xa (.i (IntKind.wrap .i64 ((IntKind.wrap .u64 (IntKind.wrap .i64 (s709.start + s709.r))) / 2 ^ min (Int.toNat 1) (IntKind.bits .u64)))) Z (pu_conv Z underlying78 underlying3 (tm Z)) ?_))))))))
       refine xm Z Z Z (xe (aw_seq ?_))
       obtain ⟨x713, x713e, h⟩ := letO_of h
       obtain ⟨c714, h⟩ := need_of h
       obtain ⟨c715, h⟩ := need_of h
       obtain ⟨c716, h⟩ := need_of h
       obtain ⟨c717, h⟩ := need_of h
       obtain ⟨r718, r718e, h⟩ := bind_some h
       refine aw_planR (by decide +kernel) [[], [], [], [], [], [(0, 0, false)], [(0, 0, false)], [], [], [(0, 0, false)], [(0, 0, false)], [], [], []] [[]] [[[(o0, .vec 2 (data.map api.Field.av))]]] [.fn 32 [], .vec o0, .i (IntKind.wrap .i64 (x647 - 1)), .i (IntKind.wrap .i64 ((IntKind.wrap .u64 (IntKind.wrap .i64 (s709.start + s709.r))) / 2 ^ min (Int.toNat 1) (IntKind.bits .u64))), .i x713, .eptr o0 (x713).toNat 0, .agg [.str (ix data x713).Key, .str (ix data x713).Val], .vec o0, .i (IntKind.wrap .i64 ((IntKind.wrap .u64 (IntKind.wrap .i64 (s709.start + s709.r))) / 2 ^ min (Int.toNat 1) (IntKind.bits .u64))), .eptr o0 (IntKind.wrap .i64 ((IntKind.wrap .u64 (IntKind.wrap .i64 (s709.start + s709.r))) / 2 ^ min (Int.toNat 1) (IntKind.bits .u64))).toNat 0, .agg [.str (ix data (IntKind.wrap .i64 ((IntKind.wrap .u64 (IntKind.wrap .i64 (s709.start + s709.r))) / 2 ^ min (Int.toNat 1) (IntKind.bits .u64)))).Key, .str (ix data (IntKind.wrap .i64 ((IntKind.wrap .u64 (IntKind.wrap .i64 (s709.start + s709.r))) / 2 ^ min (Int.toNat 1) (IntKind.bits .u64)))).Val], .i r718, .bool (decide (r718 < 0)), .bool (!(decide (r718 < 0)))] (by decide +kernel) Z Z ?_ ?_
       ·exact ⟨ym Z Z Z, ym Z Z Z, ym Z Z Z, ym Z Z Z, yp Z (APure.eq (pu_int (v := .i (IntKind.wrap .i64 ((IntKind.wrap .i64 (x647 - 1)) - (IntKind.wrap .i64 ((IntKind.wrap .u64 (IntKind.wrap .i64 (s709.start + s709.r))) / 2 ^ min (Int.toNat 1) (IntKind.bits .u64)))))) Z Z (tm Z) (tm Z) Z) (congrArg (AV.int .i64) x713e.symm)), stepg_plain Z (op_indexAddrVecM Z underlying23 sizeOf54 (tm Z) (j := 0) Z (tm Z) c714 ⟨Z, Z⟩), stepg_plain Z (op_loadENM (i := 0) (sz := 2) Z isAgg54 sizeOf54 (tm Z) Z c715 (by decide) Z ⟨Z, Z⟩), ym Z Z Z, ym Z Z Z, stepg_plain Z (op_indexAddrVecM Z underlying23 sizeOf54 (tm Z) (j := 0) Z (tm Z) c716 ⟨Z, Z⟩), stepg_plain Z (op_loadENM (i := 0) (sz := 2) Z isAgg54 sizeOf54 (tm Z) Z c717 (by decide) Z ⟨Z, Z⟩), stepg_plain Z (op_callV (vs := [.agg [.str (ix data x713).Key, .str (ix data x713).Val], .agg [.str (ix data (IntKind.wrap .i64 ((IntKind.wrap .u64 (IntKind.wrap .i64 (s709.start + s709.r))) / 2 ^ min (Int.toNat 1) (IntKind.bits .u64)))).Key, .str (ix data (IntKind.wrap .i64 ((IntKind.wrap .u64 (IntKind.wrap .i64 (s709.start + s709.r))) / 2 ^ min (Int.toNat 1) (IntKind.bits .u64)))).Val]]) (H := []) Z (tm Z) call32 ⟨(tm Z), (tm Z), trivial⟩ (R := []) (List.Perm.refl _) (charge.Hash_1.ok r718e) (by rintro _ _ ⟨rfl, rfl⟩; exact ⟨Z, Z⟩)), yp Z (pu_int (v := .bool (decide (r718 < 0))) Z Z (tm Z) (AEv.int _ _) Z), yp Z (pu_not Z (tm Z)), trivial⟩
       refine aw_cond (b := (!(decide (r718 < 0)))) (tm Z) (fun hb720 => ?_) (fun hb720 => ?_)
       ·replace h := ite_f (ndec_t hb720) h
        refine aw_region (xm Z Z Z ?_)
        obtain ⟨x719, x719e, h⟩ := letO_of h
        refine xa (.i x719) Z (APure.eq (pu_int (v := .i (IntKind.wrap .i64 ((IntKind.wrap .i64 ((IntKind.wrap .u64 (IntKind.wrap .i64 (s709.start + s709.r))) / 2 ^ min (Int.toNat 1) (IntKind.bits .u64))) + 1))) Z Z (tm Z) (AEv.int _ _) Z) (congrArg (AV.int .i64) x719e.symm)) (xm Z Z Z (xe ?_))
        obtain rfl := some_of h
        exact ⟨_, (), Z, Weak.mkL [0] (by decide) ⟨⟨_, Z, Z⟩, trivial⟩ ⟨tm Z, tm Z, tm Z, tm Z, tm Z, tm Z, tm Z, tm Z, tm Z, tm Z, trivial⟩⟩
       ·replace h := ite_t (ndec_f hb720) h
        refine aw_region (xm Z Z Z (xm Z Z Z (xe ?_)))
        obtain rfl := some_of h
        exact ⟨_, (), Z, Weak.mkL [0] (by decide) ⟨⟨_, Z, Z⟩, trivial⟩ ⟨tm Z, tm Z, tm Z, tm Z, tm Z, tm Z, tm Z, tm Z, (AEv.le (tm Z) vr), tm Z, trivial⟩⟩
      ·replace h := ite_f (dec_f hb721) h
       refine aw_exit ?_
       obtain rfl := some_of h
       have h := congrArg some (hx710 _ rfl)
       obtain rfl := some_of h
       exact ⟨(), Weak.mkL [0] (by decide) ⟨⟨_, Z, Z⟩, trivial⟩ ⟨tm Z, tm Z, tm Z, tm Z, tm Z, tm Z, tm Z, tm Z, trivial⟩⟩
     ·intro _
      have h := h687
      refine xr (xm Z Z Z (xm Z Z Z (xa (.i (IntKind.wrap .i64 (x647 - s686))) Z (pu_int (v := .i (IntKind.wrap .i64 (x647 - s686))) Z Z (tm Z) (tm Z) Z) (xm Z Z Z (xe ?_)))))
      obtain ⟨s729, s729e, h730⟩ := bind_some h
      refine aw_meet (ν := Unit) (fun v => [(0, .vec o0), (1, .i a), (3, .i b), (4, .fn 32 []), (18, .i (IntKind.wrap .i64 ((IntKind.wrap .u64 (IntKind.wrap .i64 (a + b))) / 2 ^ min (Int.toNat 1) (IntKind.bits .u64)))), (20, .i s686), (24, .i (IntKind.wrap .i64 (x647 - s686)))]) (fun v => [(o0, .vec 2 (s729.map api.Field.av))]) ?_ ?_
      ·have h := s729e
       obtain ⟨s733, s733e, h734⟩ := letO_of h
       refine aw_meet (ν := Unit) (fun v => [(0, .vec o0), (1, .i a), (2, .i m), (3, .i b), (4, .fn 32 []), (18, .i (IntKind.wrap .i64 ((IntKind.wrap .u64 (IntKind.wrap .i64 (a + b))) / 2 ^ min (Int.toNat 1) (IntKind.bits .u64)))), (20, .i s686), (24, .i (IntKind.wrap .i64 (x647 - s686))), (185, .bool s733)]) (fun v => [(o0, .vec 2 (data.map api.Field.av))]) ?_ ?_
       ·have h := s733e.symm
        refine aw_region (xm Z Z Z (xm Z Z Z (xa (.bool (decide (s686 < m))) Z (pu_int (v := .bool (decide (s686 < m))) Z Z (tm Z) (tm Z) Z) (xm Z Z Z ?_))))
        rcases Bool.eq_false_or_eq_true (decide (s686 < m)) with hb736 | hb736
        ·replace h := ite_t (dec_t hb736) h
         refine aops_known 181 Z hb736 (xq Z Z Z Z (xq Z Z Z Z (xp (.bool (decide (m < (IntKind.wrap .i64 (x647 - s686))))) Z Z (pu_int (v := .bool (decide (m < (IntKind.wrap .i64 (x647 - s686))))) Z Z (tm Z) (tm Z) Z) (xa (.bool (decide (m < (IntKind.wrap .i64 (x647 - s686))))) Z (pu_pick (b := true) Z (tm Z) (fun _ => (tm Z)) (fun h => nomatch h)) (xe ?_)))))
         subst h
         exact ⟨(), Weak.mkL [0] (by decide) ⟨⟨_, Z, Z⟩, trivial⟩ ⟨tm Z, tm Z, tm Z, tm Z, tm Z, tm Z, tm Z, tm Z, (AEv.le (tm Z) vr), trivial⟩⟩
        ·replace h := ite_f (dec_f hb736) h
         refine aops_known 181 Z hb736 (xn Z Z Z (xn Z Z Z (xn Z Z Z (xa (.bool false) Z (pu_pick (b := false) Z (tm Z) (fun h => nomatch h) (fun _ => (AEv.bool _))) (xe ?_)))))
         subst h
         exact ⟨(), Weak.mkL [0] (by decide) ⟨⟨_, Z, Z⟩, trivial⟩ ⟨tm Z, tm Z, tm Z, tm Z, tm Z, tm Z, tm Z, tm Z, tm Z, trivial⟩⟩
       ·intro _
        have h := h734
        refine aw_cond (b := s733) (tm Z) (fun hb738 => ?_) (fun hb738 => ?_)
        ·replace h := ite_t hb738 h
         refine aw_region (xm Z Z Z (xm Z Z Z (xm Z Z Z (xm Z Z Z (xm Z Z Z ?_)))))
         obtain ⟨r737, r737e, h⟩ := bind_some h
         refine xc Z (op_call (vs := [.vec o0, .i s686, .i m, .i (IntKind.wrap .i64 (x647 - s686)), .fn 32 []]) (H := [(o0, .vec 2 (data.map api.Field.av))]) Z call95 ⟨(tm Z), (tm Z), (tm Z), (tm Z), (tm Z), trivial⟩ (List.Perm.refl _) (slices.rotateCmpFunc_api_Field_v_charge_Hash_1.ok r737e o0) ?_)
         rintro _ _ ⟨rfl, rfl⟩
         refine xe ?_
         obtain rfl := some_of h
         exact ⟨(), Weak.mkL [0] (by decide) ⟨⟨_, Z, Z⟩, trivial⟩ ⟨tm Z, tm Z, tm Z, tm Z, tm Z, tm Z, tm Z, trivial⟩⟩
        ·replace h := ite_fb hb738 h
         refine aw_skip ?_
         obtain rfl := some_of h
         exact ⟨(), Weak.mkL [0] (by decide) ⟨⟨_, Z, Z⟩, trivial⟩ ⟨tm Z, tm Z, tm Z, tm Z, tm Z, tm Z, tm Z, trivial⟩⟩
      ·intro _
       have h := h730
       obtain ⟨s746, s746e, h747⟩ := bind_some h
       refine aw_meet (ν := Unit) (fun v => [(0, .vec o0), (3, .i b), (4, .fn 32 []), (18, .i (IntKind.wrap .i64 ((IntKind.wrap .u64 (IntKind.wrap .i64 (a + b))) / 2 ^ min (Int.toNat 1) (IntKind.bits .u64)))), (24, .i (IntKind.wrap .i64 (x647 - s686)))]) (fun v => [(o0, .vec 2 (s746.map api.Field.av))]) ?_ ?_
       ·have h := s746e
        obtain ⟨s750, s750e, h751⟩ := letO_of h
        refine aw_meet (ν := Unit) (fun v => [(0, .vec o0), (1, .i a), (3, .i b), (4, .fn 32 []), (18, .i (IntKind.wrap .i64 ((IntKind.wrap .u64 (IntKind.wrap .i64 (a + b))) / 2 ^ min (Int.toNat 1) (IntKind.bits .u64)))), (20, .i s686), (24, .i (IntKind.wrap .i64 (x647 - s686))), (199, .bool s750)]) (fun v => [(o0, .vec 2 (s729.map api.Field.av))]) ?_ ?_
        ·have h := s750e.symm
         refine aw_region (xm Z Z Z (xm Z Z Z (xa (.bool (decide (a < s686))) Z (pu_int (v := .bool (decide (a < s686))) Z Z (tm Z) (tm Z) Z) (xm Z Z Z ?_))))
         rcases Bool.eq_false_or_eq_true (decide (a < s686)) with hb753 | hb753
         ·replace h := ite_t (dec_t hb753) h
          refine aops_known 195 Z hb753 (xq Z Z Z Z (xq Z Z Z Z (xp (.bool (decide (s686 < (IntKind.wrap .i64 ((IntKind.wrap .u64 (IntKind.wrap .i64 (a + b))) / 2 ^ min (Int.toNat 1) (IntKind.bits .u64)))))) Z Z (pu_int (v := .bool (decide (s686 < (IntKind.wrap .i64 ((IntKind.wrap .u64 (IntKind.wrap .i64 (a + b))) / 2 ^ min (Int.toNat 1) (IntKind.bits .u64)))))) Z Z (tm Z) (tm Z) Z) (xa (.bool (decide (s686 < (IntKind.wrap .i64 ((IntKind.wrap .u64 (IntKind.wrap .i64 (a + b))) / 2 ^ min (Int.toNat 1) (IntKind.bits .u64)))))) Z (pu_pick (b := true) Z (tm Z) (fun _ => (tm Z)) (fun h => nomatch h)) (xe ?_)))))
          subst h
          exact ⟨(), Weak.mkL [0] (by decide) ⟨⟨_, Z, Z⟩, trivial⟩ ⟨tm Z, tm Z, tm Z, tm Z, tm Z, tm Z, tm Z, (AEv.le (tm Z) vr), trivial⟩⟩
         ·replace h := ite_f (dec_f hb753) h
          refine aops_known 195 Z hb753 (xn Z Z Z (xn Z Z Z (xn Z Z Z (xa (.bool false) Z (pu_pick (b := false) Z (tm Z) (fun h => nomatch h) (fun _ => (AEv.bool _))) (xe ?_)))))
          subst h
          exact ⟨(), Weak.mkL [0] (by decide) ⟨⟨_, Z, Z⟩, trivial⟩ ⟨tm Z, tm Z, tm Z, tm Z, tm Z, tm Z, tm Z, tm Z, trivial⟩⟩
        ·intro _
         have h := h751
         refine aw_cond (b := s750) (tm Z) (fun hb755 => ?_) (fun hb755 => ?_)
         ·replace h := ite_t hb755 h
          refine aw_region (xm Z Z Z (xm Z Z Z (xm Z Z Z (xm Z Z Z (xm Z Z Z ?_)))))
          obtain ⟨r754, r754e, h⟩ := bind_some h
          refine xc Z (op_call (vs := [.vec o0, .i a, .i s686, .i (IntKind.wrap .i64 ((IntKind.wrap .u64 (IntKind.wrap .i64 (a + b))) / 2 ^ min (Int.toNat 1) (IntKind.bits .u64))), .fn 32 []]) (H := [(o0, .vec 2 (s729.map api.Field.av))]) Z call76 ⟨(tm Z), (tm Z), (tm Z), (tm Z), (tm Z), trivial⟩ (List.Perm.refl _) (ih r754e o0) ?_)
          rintro _ _ ⟨rfl, rfl⟩
          refine xe ?_
          obtain rfl := some_of h
          exact ⟨(), Weak.mkL [0] (by decide) ⟨⟨_, Z, Z⟩, trivial⟩ ⟨tm Z, tm Z, tm Z, tm Z, tm Z, trivial⟩⟩
         ·replace h := ite_fb hb755 h
          refine aw_skip ?_
          obtain rfl := some_of h
          exact ⟨(), Weak.mkL [0] (by decide) ⟨⟨_, Z, Z⟩, trivial⟩ ⟨tm Z, tm Z, tm Z, tm Z, tm Z, trivial⟩⟩
       ·intro _
        have h := h747
        obtain ⟨s757, s757e, h758⟩ := letO_of h
        refine aw_meet (ν := Unit) (fun v => [(0, .vec o0), (3, .i b), (4, .fn 32 []), (18, .i (IntKind.wrap .i64 ((IntKind.wrap .u64 (IntKind.wrap .i64 (a + b))) / 2 ^ min (Int.toNat 1) (IntKind.bits .u64)))), (24, .i (IntKind.wrap .i64 (x647 - s686))), (213, .bool s757)]) (fun v => [(o0, .vec 2 (s746.map api.Field.av))]) ?_ ?_
        ·have h := s757e.symm
         refine aw_region (xm Z Z Z (xm Z Z Z (xa (.bool (decide ((IntKind.wrap .i64 ((IntKind.wrap .u64 (IntKind.wrap .i64 (a + b))) / 2 ^ min (Int.toNat 1) (IntKind.bits .u64))) < (IntKind.wrap .i64 (x647 - s686))))) Z (pu_int (v := .bool (decide ((IntKind.wrap .i64 ((IntKind.wrap .u64 (IntKind.wrap .i64 (a + b))) / 2 ^ min (Int.toNat 1) (IntKind.bits .u64))) < (IntKind.wrap .i64 (x647 - s686))))) Z Z (tm Z) (tm Z) Z) (xm Z Z Z ?_))))
         rcases Bool.eq_false_or_eq_true (decide ((IntKind.wrap .i64 ((IntKind.wrap .u64 (IntKind.wrap .i64 (a + b))) / 2 ^ min (Int.toNat 1) (IntKind.bits .u64))) < (IntKind.wrap .i64 (x647 - s686)))) with hb760 | hb760
         ·replace h := ite_t (dec_t hb760) h
          refine aops_known 209 Z hb760 (xq Z Z Z Z (xq Z Z Z Z (xp (.bool (decide ((IntKind.wrap .i64 (x647 - s686)) < b))) Z Z (pu_int (v := .bool (decide ((IntKind.wrap .i64 (x647 - s686)) < b))) Z Z (tm Z) (tm Z) Z) (xa (.bool (decide ((IntKind.wrap .i64 (x647 - s686)) < b))) Z (pu_pick (b := true) Z (tm Z) (fun _ => (tm Z)) (fun h => nomatch h)) (xe ?_)))))
          subst h
          exact ⟨(), Weak.mkL [0] (by decide) ⟨⟨_, Z, Z⟩, trivial⟩ ⟨tm Z, tm Z, tm Z, tm Z, tm Z, (AEv.le (tm Z) vr), trivial⟩⟩
         ·replace h := ite_f (dec_f hb760) h
          refine aops_known 209 Z hb760 (xn Z Z Z (xn Z Z Z (xn Z Z Z (xa (.bool false) Z (pu_pick (b := false) Z (tm Z) (fun h => nomatch h) (fun _ => (AEv.bool _))) (xe ?_)))))
          subst h
          exact ⟨(), Weak.mkL [0] (by decide) ⟨⟨_, Z, Z⟩, trivial⟩ ⟨tm Z, tm Z, tm Z, tm Z, tm Z, tm Z, trivial⟩⟩
        ·intro _
         have h := h758
         refine aw_cond (b := s757) (tm Z) (fun hb762 => ?_) (fun hb762 => ?_)
         ·replace h := ite_t hb762 h
          refine aw_region (xm Z Z Z (xm Z Z Z (xm Z Z Z (xm Z Z Z (xm Z Z Z ?_)))))
          obtain ⟨r761, r761e, h⟩ := bind_some h
          refine xc Z (op_call (vs := [.vec o0, .i (IntKind.wrap .i64 ((IntKind.wrap .u64 (IntKind.wrap .i64 (a + b))) / 2 ^ min (Int.toNat 1) (IntKind.bits .u64))), .i (IntKind.wrap .i64 (x647 - s686)), .i b, .fn 32 []]) (H := [(o0, .vec 2 (s746.map api.Field.av))]) Z call76 ⟨(tm Z), (tm Z), (tm Z), (tm Z), (tm Z), trivial⟩ (List.Perm.refl _) (ih r761e o0) ?_)
          rintro _ _ ⟨rfl, rfl⟩
          refine xe (upd_done ?_)
          obtain rfl := some_of h
          exact ⟨[], _, [(o0, .vec 2 (r761.map api.Field.av))], trivial, vr, Weak.mkL [0] (by decide) ⟨⟨_, Z, Z⟩, trivial⟩ trivial, ⟨Z, Z⟩⟩
         ·replace h := ite_fb hb762 h
          refine aw_skip (upd_done ?_)
          obtain rfl := some_of h
          exact ⟨[], _, [(o0, .vec 2 (s746.map api.Field.av))], trivial, vr, Weak.mkL [0] (by decide) ⟨⟨_, Z, Z⟩, trivial⟩ trivial, ⟨Z, Z⟩⟩

theorem slices.symMergeCmpFunc_api_Field_v_charge_Hash_1.ok {data : List api.Field} {a : Int} {m : Int} {b : Int} {r : List api.Field} (h : slices.symMergeCmpFunc_api_Field_v_charge_Hash_1 data a m b = some r) (o0 : Nat) : Go.Lift.Spec prog 76 [.vec o0, .i a, .i m, .i b, .fn 32 []] [(o0, .vec 2 (data.map api.Field.av))] (fun v H => v = .tup [] ∧ H = [(o0, .vec 2 (r.map api.Field.av))]) := by
 obtain ⟨kk, hk⟩ := fixO_some h
 exact slices.symMergeCmpFunc_api_Field_v_charge_Hash_1.rec.ok kk hk o0

end Go.Pu
