/- Printed by lift.py: the functions come to them. -/
import Derived.Test.YtnlnolbgakfofaaLiftW
import Derived.Test.YtnlnolbgakfofaaCVK0
set_option maxRecDepth 100000
set_option maxHeartbeats 0
namespace Go.Pu
open Go.Lift Go.Proofs.Try Go.RowKit Go.Proofs

theorem mewsref19.Text.ok {s_ : List UInt8} {r : api.Value} (h : mewsref19.Text s_ = some r) : Go.Lift.Spec prog 27 [.str s_] [] (fun v H => v = .agg (api.Value.ct .full .full .full ({ Kind := r.Kind, Text := r.Text, List_ := r.List_, Hash := r.Hash, ZSet := r.ZSet } : api.Value)) ∧ H = []) := by
 unfold mewsref19.Text at h
 refine Go.Lift.Spec.of_body (rs := [.cell 2 26]) func27 Z Z (nb Z) Z (xr (xc Z (op_alloc (cs := (api.Value.ct .full .full .full ({ Kind := 0, Text := ([] : List UInt8), List_ := ([] : List (List UInt8)), Hash := ([] : List api.Field), ZSet := ([] : List api.Scored) } : api.Value))) (v := .agg (api.Value.ct .full .full .full ({ Kind := 0, Text := ([] : List UInt8), List_ := ([] : List (List UInt8)), Hash := ([] : List api.Field), ZSet := ([] : List api.Scored) } : api.Value))) Z zeroValue26 Z Z Z ?_)))
 intro p2
 refine xe (xr (xm Z Z Z (xa (.agg (api.Value.ct .full .full .full ({ Kind := 1, Text := s_, List_ := ([] : List (List UInt8)), Hash := ([] : List api.Field), ZSet := ([] : List api.Scored) } : api.Value))) Z (pu_build (zs := [.i 0, .str ([] : List UInt8), .sl .full 1 (([] : List (List UInt8)).map AV.str), .sl .full 2 (([] : List api.Field).map api.Field.av), .sl .full 2 (([] : List api.Scored).map api.Scored.av)]) (szs := [1, 1, 1, 1, 1]) (aparts := [(0, .i 1), (1, .str s_)]) (cs := [.i 1, .str s_, .sl .full 1 (([] : List (List UInt8)).map AV.str), .sl .full 2 (([] : List api.Field).map api.Field.av), .sl .full 2 (([] : List api.Scored).map api.Scored.av)]) Z underlying26 zeroValue26 Z ⟨sizeOf3, sizeOf9, sizeOf22, sizeOf23, sizeOf24, trivial⟩ ⟨Z, (AEv.int _ _), ⟨Z, (tm Z), trivial⟩⟩ Z) (ac0 Z Z (op_store (i := 0) (cs' := (api.Value.ct .full .full .full ({ Kind := 1, Text := s_, List_ := ([] : List (List UInt8)), Hash := ([] : List api.Field), ZSet := ([] : List api.Scored) } : api.Value))) Z sizeOf26 (tm Z) (v := .agg (api.Value.ct .full .full .full ({ Kind := 1, Text := s_, List_ := ([] : List (List UInt8)), Hash := ([] : List api.Field), ZSet := ([] : List api.Scored) } : api.Value))) (tm Z) Z Z Z (nb Z) Z (xe (aw_ret ?_)))))))
 obtain rfl := some_of h
 exact ⟨[.agg (api.Value.ct .full .full .full ({ Kind := 1, Text := s_, List_ := ([] : List (List UInt8)), Hash := ([] : List api.Field), ZSet := ([] : List api.Scored) } : api.Value))], _, [], ⟨(CellOk.agg 0 (tm Z) Z isAgg26 sizeOf26 (nb Z) Z), trivial⟩, vr, Weak.mkL [] (by decide) trivial trivial, ⟨Z, Z⟩⟩

theorem mewsref19.texts.ok {a : List (List UInt8)} {b : List (List UInt8)} {r : Bool} (h : mewsref19.texts a b = some r) : Go.Lift.Spec prog 35 [.sl .no 1 (a.map AV.str), .sl .no 1 (b.map AV.str)] [] (fun v H => v = .bool r ∧ H = []) := by
 unfold mewsref19.texts at h
 refine Go.Lift.Spec.of_body (rs := [.tmp 4]) func35 Z Z (nb Z) Z (xr (xa (.bool false) Z (pu_assign Z (AEv.bool _)) (xe (aw_seq (xr (xm Z Z Z (xa (.i (a.length : Int)) Z (pu_lenM Z underlying22 (tm Z)) ?_)))))))
 refine xm Z Z Z (xa (.i (b.length : Int)) Z (pu_lenM Z underlying22 (tm Z)) (xa (.bool (!decide ((a.length : Int) = (b.length : Int)))) Z (pu_int (v := .bool (!decide ((a.length : Int) = (b.length : Int)))) Z Z (tm Z) (tm Z) Z) (xe (aw_cond (b := (!decide ((a.length : Int) = (b.length : Int)))) (tm Z) (fun hb82 => ?_) (fun hb82 => ?_)))))
 ·replace h := ite_f (ndec_t hb82) h
  refine xr (xa (.bool false) Z (pu_assign Z (AEv.bool _)) (xe (aw_ret ?_)))
  obtain rfl := some_of h
  exact ⟨[.bool false], _, [], ⟨(tm Z), trivial⟩, vr, Weak.mkL [] (by decide) trivial trivial, ⟨Z, Z⟩⟩
 ·replace h := ite_t (ndec_f hb82) h
  refine aw_skip ?_
  obtain ⟨s81, s81e, h61⟩ := bind_some h
  refine aw_join (σ := Unit) (ν := Unit) (fun u v => []) (fun u v => []) (fun u => s81 = .inl u) ?_ ?_
  ·intro s60
   intro _
   rintro rfl
   have h := onSum_inl h61
   refine xr (xa (.bool true) Z (pu_assign Z (AEv.bool _)) (xe (aw_ret ?_)))
   obtain rfl := some_of h
   exact ⟨[.bool true], _, [], ⟨(tm Z), trivial⟩, vr, Weak.mkL [] (by decide) trivial trivial, ⟨Z, Z⟩⟩
  ·have h := s81e
   refine xr (xa (.i 0) Z (pu_assign Z (AEv.int _ _)) (xe (aw_block (aw_while (σ := mewsref19.texts.S0) (ν := Unit) (mewsref19.texts.body0 a b) (fun s73 v => [(0, .sl .no 1 (a.map AV.str)), (1, .sl .no 1 (b.map AV.str)), (5, .i s73.i)]) (fun s73 v => []) ⟨0⟩ () _ h (Weak.mkL [] (by decide) trivial ⟨tm Z, tm Z, tm Z, trivial⟩) ?_))))
   rintro s73 _ x75 h hx74
   unfold mewsref19.texts.body0 at h
   refine aw_seq (xr (xm Z Z Z (xm Z Z Z (xa (.i (a.length : Int)) Z (pu_lenM Z underlying22 (tm Z)) (xa (.bool (decide (s73.i < (a.length : Int)))) Z (pu_int (v := .bool (decide (s73.i < (a.length : Int)))) Z Z (tm Z) (tm Z) Z) (xe (aw_cond (b := decide (s73.i < (a.length : Int))) (tm Z) (fun hb80 => ?_) (fun hb80 => ?_))))))))
   ·replace h := ite_t (dec_t hb80) h
    refine aw_skip (aw_seq (aw_block (aw_seq ?_)))
    obtain ⟨c77, h⟩ := need_of h
    obtain ⟨c78, h⟩ := need_of h
    refine aw_planR (by decide +kernel) [[], [], [], [], [], [], [], [], []] [] [] [.sl .no 1 (a.map AV.str), .i s73.i, .vptr [.str (ix a s73.i)], .str (ix a s73.i), .sl .no 1 (b.map AV.str), .i s73.i, .vptr [.str (ix b s73.i)], .str (ix b s73.i), .bool (!decide ((ix a s73.i) = (ix b s73.i)))] (by decide +kernel) Z Z ?_ ?_
    ·exact ⟨ym Z Z Z, ym Z Z Z, yp Z (pu_indexAddrM Z underlying22 sizeOf9 (tm Z) (tm Z) c77 Z), stepg_plain Z (op_loadV1 Z isAgg9 (tm Z) Z ⟨Z, Z⟩), ym Z Z Z, ym Z Z Z, yp Z (pu_indexAddrM Z underlying22 sizeOf9 (tm Z) (tm Z) c78 Z), stepg_plain Z (op_loadV1 Z isAgg9 (tm Z) Z ⟨Z, Z⟩), yp Z (pu_str (v := .bool (!decide ((ix a s73.i) = (ix b s73.i)))) Z Z (tm Z) (tm Z) Z), trivial⟩
    refine aw_cond (b := (!decide ((ix a s73.i) = (ix b s73.i)))) (tm Z) (fun hb79 => ?_) (fun hb79 => ?_)
    ·replace h := ite_f (ndec_t hb79) h
     refine xr (xa (.bool false) Z (pu_assign Z (AEv.bool _)) (xe (aw_ret ?_)))
     obtain rfl := some_of h
     have h := congrArg some (hx74 _ rfl)
     obtain rfl := some_of h
     have h := onSum_inr h61
     obtain rfl := some_of h
     exact ⟨[.bool false], _, [], ⟨(tm Z), trivial⟩, vr, Weak.mkL [] (by decide) trivial trivial, ⟨Z, Z⟩⟩
    ·replace h := ite_t (ndec_f hb79) h
     refine aw_skip (aw_region (xm Z Z Z (xa (.i (IntKind.wrap .i64 (s73.i + 1))) Z (pu_int (v := .i (IntKind.wrap .i64 (s73.i + 1))) Z Z (tm Z) (AEv.int _ _) Z) (xm Z Z Z (xe ?_)))))
     obtain rfl := some_of h
     exact ⟨_, (), Z, Weak.mkL [] (by decide) trivial ⟨tm Z, tm Z, (AEv.le (tm Z) vr), trivial⟩⟩
   ·replace h := ite_f (dec_f hb80) h
    refine aw_exit ?_
    obtain rfl := some_of h
    have h := congrArg some (hx74 _ rfl)
    exact ⟨(), (), (some_of h).symm, Weak.mkL [] (by decide) trivial trivial⟩

theorem mewsref19.fields.ok {a : List api.Field} {b : List api.Field} {r : Bool} (h : mewsref19.fields a b = some r) : Go.Lift.Spec prog 36 [.sl .no 2 (a.map api.Field.av), .sl .no 2 (b.map api.Field.av)] [] (fun v H => v = .bool r ∧ H = []) := by
 unfold mewsref19.fields at h
 refine Go.Lift.Spec.of_body (rs := [.tmp 4]) func36 Z Z (nb Z) Z (xr (xa (.bool false) Z (pu_assign Z (AEv.bool _)) (xe (aw_seq (xr (xm Z Z Z (xa (.i (a.length : Int)) Z (pu_lenM Z underlying23 (tm Z)) ?_)))))))
 refine xm Z Z Z (xa (.i (b.length : Int)) Z (pu_lenM Z underlying23 (tm Z)) (xa (.bool (!decide ((a.length : Int) = (b.length : Int)))) Z (pu_int (v := .bool (!decide ((a.length : Int) = (b.length : Int)))) Z Z (tm Z) (tm Z) Z) (xe (aw_cond (b := (!decide ((a.length : Int) = (b.length : Int)))) (tm Z) (fun hb82 => ?_) (fun hb82 => ?_)))))
 ·replace h := ite_f (ndec_t hb82) h
  refine xr (xa (.bool false) Z (pu_assign Z (AEv.bool _)) (xe (aw_ret ?_)))
  obtain rfl := some_of h
  exact ⟨[.bool false], _, [], ⟨(tm Z), trivial⟩, vr, Weak.mkL [] (by decide) trivial trivial, ⟨Z, Z⟩⟩
 ·replace h := ite_t (ndec_f hb82) h
  refine aw_skip ?_
  obtain ⟨s81, s81e, h61⟩ := bind_some h
  refine aw_join (σ := Unit) (ν := Unit) (fun u v => []) (fun u v => []) (fun u => s81 = .inl u) ?_ ?_
  ·intro s60
   intro _
   rintro rfl
   have h := onSum_inl h61
   refine xr (xa (.bool true) Z (pu_assign Z (AEv.bool _)) (xe (aw_ret ?_)))
   obtain rfl := some_of h
   exact ⟨[.bool true], _, [], ⟨(tm Z), trivial⟩, vr, Weak.mkL [] (by decide) trivial trivial, ⟨Z, Z⟩⟩
  ·have h := s81e
   refine xr (xa (.i 0) Z (pu_assign Z (AEv.int _ _)) (xe (aw_block (aw_while (σ := mewsref19.fields.S0) (ν := Unit) (mewsref19.fields.body0 a b) (fun s73 v => [(0, .sl .no 2 (a.map api.Field.av)), (1, .sl .no 2 (b.map api.Field.av)), (5, .i s73.i)]) (fun s73 v => []) ⟨0⟩ () _ h (Weak.mkL [] (by decide) trivial ⟨tm Z, tm Z, tm Z, trivial⟩) ?_))))
   rintro s73 _ x75 h hx74
   unfold mewsref19.fields.body0 at h
   refine aw_seq (xr (xm Z Z Z (xm Z Z Z (xa (.i (a.length : Int)) Z (pu_lenM Z underlying23 (tm Z)) (xa (.bool (decide (s73.i < (a.length : Int)))) Z (pu_int (v := .bool (decide (s73.i < (a.length : Int)))) Z Z (tm Z) (tm Z) Z) (xe (aw_cond (b := decide (s73.i < (a.length : Int))) (tm Z) (fun hb80 => ?_) (fun hb80 => ?_))))))))
   ·replace h := ite_t (dec_t hb80) h
    refine aw_skip (aw_seq (aw_block (aw_seq ?_)))
    obtain ⟨c77, h⟩ := need_of h
    obtain ⟨c78, h⟩ := need_of h
    refine aw_planR (by decide +kernel) [[], [], [], [], [], [], [], [], []] [] [] [.sl .no 2 (a.map api.Field.av), .i s73.i, .vptr [.str (ix a s73.i).Key, .str (ix a s73.i).Val], .agg [.str (ix a s73.i).Key, .str (ix a s73.i).Val], .sl .no 2 (b.map api.Field.av), .i s73.i, .vptr [.str (ix b s73.i).Key, .str (ix b s73.i).Val], .agg [.str (ix b s73.i).Key, .str (ix b s73.i).Val], .bool (!decide ((ix a s73.i) = (ix b s73.i)))] (by decide +kernel) Z Z ?_ ?_
    ·exact ⟨ym Z Z Z, ym Z Z Z, yp Z (pu_indexAddrM Z underlying23 sizeOf38 (tm Z) (tm Z) c77 Z), stepg_plain Z (op_loadVN Z isAgg38 sizeOf38 (tm Z) (nb Z) Z ⟨Z, Z⟩), ym Z Z Z, ym Z Z Z, yp Z (pu_indexAddrM Z underlying23 sizeOf38 (tm Z) (tm Z) c78 Z), stepg_plain Z (op_loadVN Z isAgg38 sizeOf38 (tm Z) (nb Z) Z ⟨Z, Z⟩), yp Z (APure.eq (pu_structNe (b := (decide ((ix a s73.i).Key = (ix b s73.i).Key) && (decide ((ix a s73.i).Val = (ix b s73.i).Val) && true))) Z underlying38 (by kernel_rfl) (by kernel_rfl) (tm Z) (tm Z) ⟨_, _, _, _, ⟨by decide, isAgg9, Z, Z, CEq.str underlying9⟩, ⟨_, _, _, _, ⟨by decide, isAgg9, Z, Z, CEq.str underlying9⟩, Z, Z⟩, Z⟩) (congrArg (fun b => AV.bool (!b)) (api.Field.eq_iff (ix a s73.i) (ix b s73.i)).symm)), trivial⟩
    refine aw_cond (b := (!decide ((ix a s73.i) = (ix b s73.i)))) (tm Z) (fun hb79 => ?_) (fun hb79 => ?_)
    ·replace h := ite_f (ndec_t hb79) h
     refine xr (xa (.bool false) Z (pu_assign Z (AEv.bool _)) (xe (aw_ret ?_)))
     obtain rfl := some_of h
     have h := congrArg some (hx74 _ rfl)
     obtain rfl := some_of h
     have h := onSum_inr h61
     obtain rfl := some_of h
     exact ⟨[.bool false], _, [], ⟨(tm Z), trivial⟩, vr, Weak.mkL [] (by decide) trivial trivial, ⟨Z, Z⟩⟩
    ·replace h := ite_t (ndec_f hb79) h
     refine aw_skip (aw_region (xm Z Z Z (xa (.i (IntKind.wrap .i64 (s73.i + 1))) Z (pu_int (v := .i (IntKind.wrap .i64 (s73.i + 1))) Z Z (tm Z) (AEv.int _ _) Z) (xm Z Z Z (xe ?_)))))
     obtain rfl := some_of h
     exact ⟨_, (), Z, Weak.mkL [] (by decide) trivial ⟨tm Z, tm Z, (AEv.le (tm Z) vr), trivial⟩⟩
   ·replace h := ite_f (dec_f hb80) h
    refine aw_exit ?_
    obtain rfl := some_of h
    have h := congrArg some (hx74 _ rfl)
    exact ⟨(), (), (some_of h).symm, Weak.mkL [] (by decide) trivial trivial⟩

theorem mewsref10.Same.ok {a : List api.Scored} {b : List api.Scored} {r : Bool} (h : mewsref10.Same a b = some r) : Go.Lift.Spec prog 37 [.sl .no 2 (a.map api.Scored.av), .sl .no 2 (b.map api.Scored.av)] [] (fun v H => v = .bool r ∧ H = []) := by
 unfold mewsref10.Same at h
 refine Go.Lift.Spec.of_body (rs := [.tmp 4]) func37 Z Z (nb Z) Z (xr (xa (.bool false) Z (pu_assign Z (AEv.bool _)) (xe (aw_seq (xr (xm Z Z Z (xa (.i (a.length : Int)) Z (pu_lenM Z underlying24 (tm Z)) ?_)))))))
 refine xm Z Z Z (xa (.i (b.length : Int)) Z (pu_lenM Z underlying24 (tm Z)) (xa (.bool (!decide ((a.length : Int) = (b.length : Int)))) Z (pu_int (v := .bool (!decide ((a.length : Int) = (b.length : Int)))) Z Z (tm Z) (tm Z) Z) (xe (aw_cond (b := (!decide ((a.length : Int) = (b.length : Int)))) (tm Z) (fun hb82 => ?_) (fun hb82 => ?_)))))
 ·replace h := ite_f (ndec_t hb82) h
  refine xr (xa (.bool false) Z (pu_assign Z (AEv.bool _)) (xe (aw_ret ?_)))
  obtain rfl := some_of h
  exact ⟨[.bool false], _, [], ⟨(tm Z), trivial⟩, vr, Weak.mkL [] (by decide) trivial trivial, ⟨Z, Z⟩⟩
 ·replace h := ite_t (ndec_f hb82) h
  refine aw_skip ?_
  obtain ⟨s81, s81e, h61⟩ := bind_some h
  refine aw_join (σ := Unit) (ν := Unit) (fun u v => []) (fun u v => []) (fun u => s81 = .inl u) ?_ ?_
  ·intro s60
   intro _
   rintro rfl
   have h := onSum_inl h61
   refine xr (xa (.bool true) Z (pu_assign Z (AEv.bool _)) (xe (aw_ret ?_)))
   obtain rfl := some_of h
   exact ⟨[.bool true], _, [], ⟨(tm Z), trivial⟩, vr, Weak.mkL [] (by decide) trivial trivial, ⟨Z, Z⟩⟩
  ·have h := s81e
   refine xr (xa (.i 0) Z (pu_assign Z (AEv.int _ _)) (xe (aw_block (aw_while (σ := mewsref10.Same.S0) (ν := Unit) (mewsref10.Same.body0 a b) (fun s73 v => [(0, .sl .no 2 (a.map api.Scored.av)), (1, .sl .no 2 (b.map api.Scored.av)), (5, .i s73.i)]) (fun s73 v => []) ⟨0⟩ () _ h (Weak.mkL [] (by decide) trivial ⟨tm Z, tm Z, tm Z, trivial⟩) ?_))))
   rintro s73 _ x75 h hx74
   unfold mewsref10.Same.body0 at h
   refine aw_seq (xr (xm Z Z Z (xm Z Z Z (xa (.i (a.length : Int)) Z (pu_lenM Z underlying24 (tm Z)) (xa (.bool (decide (s73.i < (a.length : Int)))) Z (pu_int (v := .bool (decide (s73.i < (a.length : Int)))) Z Z (tm Z) (tm Z) Z) (xe (aw_cond (b := decide (s73.i < (a.length : Int))) (tm Z) (fun hb80 => ?_) (fun hb80 => ?_))))))))
   ·replace h := ite_t (dec_t hb80) h
    refine aw_skip (aw_seq (aw_block (aw_seq ?_)))
    obtain ⟨c77, h⟩ := need_of h
    obtain ⟨c78, h⟩ := need_of h
    refine aw_planR (by decide +kernel) [[], [], [], [], [], [], [], [], []] [] [] [.sl .no 2 (a.map api.Scored.av), .i s73.i, .vptr [.str (ix a s73.i).Member, .i (ix a s73.i).Score], .agg [.str (ix a s73.i).Member, .i (ix a s73.i).Score], .sl .no 2 (b.map api.Scored.av), .i s73.i, .vptr [.str (ix b s73.i).Member, .i (ix b s73.i).Score], .agg [.str (ix b s73.i).Member, .i (ix b s73.i).Score], .bool (!decide ((ix a s73.i) = (ix b s73.i)))] (by decide +kernel) Z Z ?_ ?_
    ·exact ⟨ym Z Z Z, ym Z Z Z, yp Z (pu_indexAddrM Z underlying24 sizeOf40 (tm Z) (tm Z) c77 Z), stepg_plain Z (op_loadVN Z isAgg40 sizeOf40 (tm Z) (nb Z) Z ⟨Z, Z⟩), ym Z Z Z, ym Z Z Z, yp Z (pu_indexAddrM Z underlying24 sizeOf40 (tm Z) (tm Z) c78 Z), stepg_plain Z (op_loadVN Z isAgg40 sizeOf40 (tm Z) (nb Z) Z ⟨Z, Z⟩), yp Z (APure.eq (pu_structNe (b := (decide ((ix a s73.i).Member = (ix b s73.i).Member) && (decide ((ix a s73.i).Score = (ix b s73.i).Score) && true))) Z underlying40 (by kernel_rfl) (by kernel_rfl) (tm Z) (tm Z) ⟨_, _, _, _, ⟨by decide, isAgg9, Z, Z, CEq.str underlying9⟩, ⟨_, _, _, _, ⟨by decide, isAgg2, Z, Z, CEq.int underlying2⟩, Z, Z⟩, Z⟩) (congrArg (fun b => AV.bool (!b)) (api.Scored.eq_iff (ix a s73.i) (ix b s73.i)).symm)), trivial⟩
    refine aw_cond (b := (!decide ((ix a s73.i) = (ix b s73.i)))) (tm Z) (fun hb79 => ?_) (fun hb79 => ?_)
    ·replace h := ite_f (ndec_t hb79) h
     refine xr (xa (.bool false) Z (pu_assign Z (AEv.bool _)) (xe (aw_ret ?_)))
     obtain rfl := some_of h
     have h := congrArg some (hx74 _ rfl)
     obtain rfl := some_of h
     have h := onSum_inr h61
     obtain rfl := some_of h
     exact ⟨[.bool false], _, [], ⟨(tm Z), trivial⟩, vr, Weak.mkL [] (by decide) trivial trivial, ⟨Z, Z⟩⟩
    ·replace h := ite_t (ndec_f hb79) h
     refine aw_skip (aw_region (xm Z Z Z (xa (.i (IntKind.wrap .i64 (s73.i + 1))) Z (pu_int (v := .i (IntKind.wrap .i64 (s73.i + 1))) Z Z (tm Z) (AEv.int _ _) Z) (xm Z Z Z (xe ?_)))))
     obtain rfl := some_of h
     exact ⟨_, (), Z, Weak.mkL [] (by decide) trivial ⟨tm Z, tm Z, (AEv.le (tm Z) vr), trivial⟩⟩
   ·replace h := ite_f (dec_f hb80) h
    refine aw_exit ?_
    obtain rfl := some_of h
    have h := congrArg some (hx74 _ rfl)
    exact ⟨(), (), (some_of h).symm, Weak.mkL [] (by decide) trivial trivial⟩

theorem mewsref19.Same.ok {a : api.Value} {b : api.Value} {r : Bool} (h : mewsref19.Same a b = some r) : Go.Lift.Spec prog 11 [.agg (api.Value.ct .no .no .no a), .agg (api.Value.ct .no .no .no b)] [] (fun v H => v = .bool r ∧ H = []) := by
 unfold mewsref19.Same at h
 refine Go.Lift.Spec.of_body (rs := [.tmp 4]) func11 Z Z (nb Z) Z (xr (xc Z (op_box (cs := (api.Value.ct .no .no .no a)) (v := .agg (api.Value.ct .no .no .no a)) Z (tm Z) Z Z ?_)))
 intro p20
 refine xc Z (op_box (cs := (api.Value.ct .no .no .no b)) (v := .agg (api.Value.ct .no .no .no b)) Z (tm Z) Z Z ?_)
 intro p21
 refine xa (.bool false) Z (pu_assign Z (AEv.bool _)) (xe ?_)
 obtain ⟨s29, s29e, h30⟩ := bind_some h
 refine aw_meet (ν := Unit) (fun v => [(4, .bool s29)]) (fun v => []) ?_ ?_
 ·have h := s29e
  refine aw_region (xa (.ptr p20 0) Z (fa Z underlying26 Z sizeOf3 Z Z Z) (xc Z (op_load1 (i := 1) Z isAgg3 (tm Z) Z Z (xa (.ptr p21 0) Z (fa Z underlying26 Z sizeOf3 Z Z Z) (xc Z (op_load1 (i := 0) Z isAgg3 (tm Z) Z Z (xa (.bool (decide (a.Kind = b.Kind))) Z (pu_int (v := .bool (decide (a.Kind = b.Kind))) Z Z (tm Z) (tm Z) Z) (xm Z Z Z ?_))))))))
  rcases Bool.eq_false_or_eq_true (decide (a.Kind = b.Kind)) with hb32 | hb32
  ·replace h := ite_t (dec_t hb32) h
   refine aops_known 10 Z hb32 (xp (.ptr p20 1) Z Z (fa Z underlying26 Z sizeOf9 Z Z Z) (xg Z Z (op_load1 (i := 1) Z isAgg9 (tm Z) Z Z (xp (.ptr p21 1) Z Z (fa Z underlying26 Z sizeOf9 Z Z Z) (xg Z Z (op_load1 (i := 0) Z isAgg9 (tm Z) Z Z (xp (.bool (decide (a.Text = b.Text))) Z Z (pu_str (v := .bool (decide (a.Text = b.Text))) Z Z (tm Z) (tm Z) Z) (xa (.bool (decide (a.Text = b.Text))) Z (pu_pick (b := true) Z (tm Z) (fun _ => (tm Z)) (fun h => nomatch h)) (xm Z Z Z ?_)))))))))
   rcases Bool.eq_false_or_eq_true (decide (a.Text = b.Text)) with hb33 | hb33
   ·replace h := ite_t (dec_t hb33) h
    refine aops_known 17 Z hb33 (xp (.ptr p20 2) Z Z (fa Z underlying26 Z sizeOf22 Z Z Z) (xg Z Z (op_load1 (i := 1) Z isAgg22 (tm Z) Z Z (xp (.ptr p21 2) Z Z (fa Z underlying26 Z sizeOf22 Z Z Z) (xg Z Z (op_load1 (i := 0) Z isAgg22 (tm Z) Z Z ?_))))))
    obtain ⟨r34, r34e, h⟩ := bind_some h
    refine xg Z Z (op_call (vs := [.sl .no 1 (a.List_.map AV.str), .sl .no 1 (b.List_.map AV.str)]) (H := []) Z call35 ⟨(tm Z), (tm Z), trivial⟩ (List.Perm.refl _) (mewsref19.texts.ok r34e) ?_)
    rintro _ _ ⟨rfl, rfl⟩
    refine xa (.bool r34) Z (pu_pick (b := true) Z (tm Z) (fun _ => (tm Z)) (fun h => nomatch h)) (xm Z Z Z ?_)
    rcases Bool.eq_false_or_eq_true r34 with hb35 | hb35
    ·replace h := ite_t hb35 h
     refine aops_known 24 Z hb35 (xp (.ptr p20 3) Z Z (fa Z underlying26 Z sizeOf23 Z Z Z) (xg Z Z (op_load1 (i := 1) Z isAgg23 (tm Z) Z Z (xp (.ptr p21 3) Z Z (fa Z underlying26 Z sizeOf23 Z Z Z) (xg Z Z (op_load1 (i := 0) Z isAgg23 (tm Z) Z Z ?_))))))
     obtain ⟨r36, r36e, h⟩ := bind_some h
     refine xg Z Z (op_call (vs := [.sl .no 2 (a.Hash.map api.Field.av), .sl .no 2 (b.Hash.map api.Field.av)]) (H := []) Z call36 ⟨(tm Z), (tm Z), trivial⟩ (List.Perm.refl _) (mewsref19.fields.ok r36e) ?_)
     rintro _ _ ⟨rfl, rfl⟩
     refine xa (.bool r36) Z (pu_pick (b := true) Z (tm Z) (fun _ => (tm Z)) (fun h => nomatch h)) (xm Z Z Z ?_)
     rcases Bool.eq_false_or_eq_true r36 with hb37 | hb37
     ·replace h := ite_t hb37 h
      refine aops_known 31 Z hb37 (xp (.ptr p20 4) Z Z (fa Z underlying26 Z sizeOf24 Z Z Z) (xg Z Z (op_load1 (i := 1) Z isAgg24 (tm Z) Z Z (xp (.ptr p21 4) Z Z (fa Z underlying26 Z sizeOf24 Z Z Z) (xg Z Z (op_load1 (i := 0) Z isAgg24 (tm Z) Z Z ?_))))))
      obtain ⟨r38, r38e, h⟩ := bind_some h
      refine xg Z Z (op_call (vs := [.sl .no 2 (a.ZSet.map api.Scored.av), .sl .no 2 (b.ZSet.map api.Scored.av)]) (H := []) Z call37 ⟨(tm Z), (tm Z), trivial⟩ (List.Perm.refl _) (mewsref10.Same.ok r38e) ?_)
      rintro _ _ ⟨rfl, rfl⟩
      refine xa (.bool r38) Z (pu_pick (b := true) Z (tm Z) (fun _ => (tm Z)) (fun h => nomatch h)) (xm Z Z Z (xe ?_))
      obtain rfl := some_of h
      exact ⟨(), Weak.mkL [] (by decide) trivial ⟨tm Z, trivial⟩⟩
     ·replace h := ite_fb hb37 h
      refine aops_known 31 Z hb37 (xn Z Z Z (xn Z Z Z (xn Z Z Z (xn Z Z Z (xn Z Z Z (xa (.bool false) Z (pu_pick (b := false) Z (tm Z) (fun h => nomatch h) (fun _ => (AEv.bool _))) (xm Z Z Z (xe ?_))))))))
      obtain rfl := some_of h
      exact ⟨(), Weak.mkL [] (by decide) trivial ⟨tm Z, trivial⟩⟩
    ·replace h := ite_fb hb35 h
     refine aops_known 24 Z hb35 (xn Z Z Z (xn Z Z Z (xn Z Z Z (xn Z Z Z (xn Z Z Z (xa (.bool false) Z (pu_pick (b := false) Z (tm Z) (fun h => nomatch h) (fun _ => (AEv.bool _))) (xm Z Z Z (xn Z Z Z (xn Z Z Z ?_)))))))))
     refine xn Z Z Z (xn Z Z Z (xn Z Z Z (xa (.bool false) Z (pu_pick (b := false) Z (tm Z) (fun h => nomatch h) (fun _ => (AEv.bool _))) (xm Z Z Z (xe ?_)))))
     obtain rfl := some_of h
     exact ⟨(), Weak.mkL [] (by decide) trivial ⟨tm Z, trivial⟩⟩
   ·replace h := ite_f (dec_f hb33) h
    refine aops_known 17 Z hb33 (xn Z Z Z (xn Z Z Z (xn Z Z Z (xn Z Z Z (xn Z Z Z (xa (.bool false) Z (pu_pick (b := false) Z (tm Z) (fun h => nomatch h) (fun _ => (AEv.bool _))) (xm Z Z Z (xn Z Z Z (xn Z Z Z ?_)))))))))
    refine xn Z Z Z (xn Z Z Z (xn Z Z Z (xa (.bool false) Z (pu_pick (b := false) Z (tm Z) (fun h => nomatch h) (fun _ => (AEv.bool _))) (xm Z Z Z (xn Z Z Z (xn Z Z Z (xn Z Z Z (xn Z Z Z (xn Z Z Z ?_)))))))))
    refine xa (.bool false) Z (pu_pick (b := false) Z (tm Z) (fun h => nomatch h) (fun _ => (AEv.bool _))) (xm Z Z Z (xe ?_))
    obtain rfl := some_of h
    exact ⟨(), Weak.mkL [] (by decide) trivial ⟨tm Z, trivial⟩⟩
  ·replace h := ite_f (dec_f hb32) h
   refine aops_known 10 Z hb32 (xn Z Z Z (xn Z Z Z (xn Z Z Z (xn Z Z Z (xn Z Z Z (xa (.bool false) Z (pu_pick (b := false) Z (tm Z) (fun h => nomatch h) (fun _ => (AEv.bool _))) (xm Z Z Z (xn Z Z Z (xn Z Z Z ?_)))))))))
   refine xn Z Z Z (xn Z Z Z (xn Z Z Z (xa (.bool false) Z (pu_pick (b := false) Z (tm Z) (fun h => nomatch h) (fun _ => (AEv.bool _))) (xm Z Z Z (xn Z Z Z (xn Z Z Z (xn Z Z Z (xn Z Z Z (xn Z Z Z ?_)))))))))
   refine xa (.bool false) Z (pu_pick (b := false) Z (tm Z) (fun h => nomatch h) (fun _ => (AEv.bool _))) (xm Z Z Z (xn Z Z Z (xn Z Z Z (xn Z Z Z (xn Z Z Z (xn Z Z Z (xa (.bool false) Z (pu_pick (b := false) Z (tm Z) (fun h => nomatch h) (fun _ => (AEv.bool _))) (xm Z Z Z (xe ?_)))))))))
   obtain rfl := some_of h
   exact ⟨(), Weak.mkL [] (by decide) trivial ⟨tm Z, trivial⟩⟩
 ·intro _
  have h := h30
  refine aw_ret ?_
  obtain rfl := some_of h
  exact ⟨[.bool s29], _, [], ⟨(tm Z), trivial⟩, vr, Weak.mkL [] (by decide) trivial trivial, ⟨Z, Z⟩⟩

theorem mewsref19.List_.ok {l : List (List UInt8)} {r : api.Value} (h : mewsref19.List_ l = some r) : Go.Lift.Spec prog 28 [.sl .no 1 (l.map AV.str)] [] (fun v H => v = .agg (api.Value.ct .no .full .full ({ Kind := r.Kind, Text := r.Text, List_ := r.List_, Hash := r.Hash, ZSet := r.ZSet } : api.Value)) ∧ H = []) := by
 unfold mewsref19.List_ at h
 refine Go.Lift.Spec.of_body (rs := [.cell 2 26]) func28 Z Z (nb Z) Z (xr (xc Z (op_alloc (cs := (api.Value.ct .full .full .full ({ Kind := 0, Text := ([] : List UInt8), List_ := ([] : List (List UInt8)), Hash := ([] : List api.Field), ZSet := ([] : List api.Scored) } : api.Value))) (v := .agg (api.Value.ct .full .full .full ({ Kind := 0, Text := ([] : List UInt8), List_ := ([] : List (List UInt8)), Hash := ([] : List api.Field), ZSet := ([] : List api.Scored) } : api.Value))) Z zeroValue26 Z Z Z ?_)))
 intro p5
 refine xe (aw_seq (xr (xm Z Z Z (xa (.i (l.length : Int)) Z (pu_lenM Z underlying22 (tm Z)) (xa (.bool (decide ((l.length : Int) = 0))) Z (pu_int (v := .bool (decide ((l.length : Int) = 0))) Z Z (tm Z) (AEv.int _ _) Z) (xe (aw_cond (b := decide ((l.length : Int) = 0)) (tm Z) (fun hb8 => ?_) (fun hb8 => ?_))))))))
 ·replace h := ite_t (dec_t hb8) h
  refine xr (xa (.agg (api.Value.ct .full .full .full ({ Kind := 0, Text := ([] : List UInt8), List_ := ([] : List (List UInt8)), Hash := ([] : List api.Field), ZSet := ([] : List api.Scored) } : api.Value))) Z (pu_build (zs := [.i 0, .str ([] : List UInt8), .sl .full 1 (([] : List (List UInt8)).map AV.str), .sl .full 2 (([] : List api.Field).map api.Field.av), .sl .full 2 (([] : List api.Scored).map api.Scored.av)]) (szs := [1, 1, 1, 1, 1]) (aparts := []) (cs := [.i 0, .str ([] : List UInt8), .sl .full 1 (([] : List (List UInt8)).map AV.str), .sl .full 2 (([] : List api.Field).map api.Field.av), .sl .full 2 (([] : List api.Scored).map api.Scored.av)]) Z underlying26 zeroValue26 Z ⟨sizeOf3, sizeOf9, sizeOf22, sizeOf23, sizeOf24, trivial⟩ trivial Z) (ac0 Z Z (op_store (i := 0) (cs' := (api.Value.ct .full .full .full ({ Kind := 0, Text := ([] : List UInt8), List_ := ([] : List (List UInt8)), Hash := ([] : List api.Field), ZSet := ([] : List api.Scored) } : api.Value))) Z sizeOf26 (tm Z) (v := .agg (api.Value.ct .full .full .full ({ Kind := 0, Text := ([] : List UInt8), List_ := ([] : List (List UInt8)), Hash := ([] : List api.Field), ZSet := ([] : List api.Scored) } : api.Value))) (tm Z) Z Z Z (nb Z) Z (xe (aw_ret ?_)))))
  obtain rfl := some_of h
  exact ⟨[.agg (api.Value.ct .full .full .full ({ Kind := 0, Text := ([] : List UInt8), List_ := ([] : List (List UInt8)), Hash := ([] : List api.Field), ZSet := ([] : List api.Scored) } : api.Value))], .agg (api.Value.ct .no .full .full ({ Kind := 0, Text := ([] : List UInt8), List_ := ([] : List (List UInt8)), Hash := ([] : List api.Field), ZSet := ([] : List api.Scored) } : api.Value)), [], ⟨(CellOk.agg 0 (tm Z) Z isAgg26 sizeOf26 (nb Z) Z), trivial⟩, (AV.Le.agg ⟨vr, vr, (AV.Le.forget _ _ _), vr, vr, trivial⟩), Weak.mkL [] (by decide) trivial trivial, ⟨Z, Z⟩⟩
 ·replace h := ite_f (dec_f hb8) h
  refine aw_skip (xr (xm Z Z Z ?_))
  obtain ⟨c6, h⟩ := need_of h
  refine xc Z (op_appendFM Z underlying22 underlying22 (.inl Z) typeInfo9 Z Z Z (by decide) (AEv.nil 1 (by decide)) (given_sl (tm Z)) c6 ?_)
  intro t7
  refine xa (.agg (api.Value.ct (.own t7) .full .full ({ Kind := 2, Text := ([] : List UInt8), List_ := ([] : List (List UInt8)) ++ l, Hash := ([] : List api.Field), ZSet := ([] : List api.Scored) } : api.Value))) Z (pu_build (zs := [.i 0, .str ([] : List UInt8), .sl .full 1 (([] : List (List UInt8)).map AV.str), .sl .full 2 (([] : List api.Field).map api.Field.av), .sl .full 2 (([] : List api.Scored).map api.Scored.av)]) (szs := [1, 1, 1, 1, 1]) (aparts := [(0, .i 2), (2, .sl (.own t7) 1 ((([] : List (List UInt8)) ++ l).map AV.str))]) (cs := [.i 2, .str ([] : List UInt8), .sl (.own t7) 1 ((([] : List (List UInt8)) ++ l).map AV.str), .sl .full 2 (([] : List api.Field).map api.Field.av), .sl .full 2 (([] : List api.Scored).map api.Scored.av)]) Z underlying26 zeroValue26 Z ⟨sizeOf3, sizeOf9, sizeOf22, sizeOf23, sizeOf24, trivial⟩ ⟨Z, (AEv.int _ _), ⟨Z, (tm Z), trivial⟩⟩ Z) (ac0 Z Z (op_store (i := 1) (cs' := (api.Value.ct (.own t7) .full .full ({ Kind := 2, Text := ([] : List UInt8), List_ := ([] : List (List UInt8)) ++ l, Hash := ([] : List api.Field), ZSet := ([] : List api.Scored) } : api.Value))) Z sizeOf26 (tm Z) (v := .agg (api.Value.ct (.own t7) .full .full ({ Kind := 2, Text := ([] : List UInt8), List_ := ([] : List (List UInt8)) ++ l, Hash := ([] : List api.Field), ZSet := ([] : List api.Scored) } : api.Value))) (tm Z) Z Z Z (nb Z) Z (xe (aw_ret ?_))))
  obtain rfl := some_of h
  exact ⟨[.agg (api.Value.ct (.own t7) .full .full ({ Kind := 2, Text := ([] : List UInt8), List_ := ([] : List (List UInt8)) ++ l, Hash := ([] : List api.Field), ZSet := ([] : List api.Scored) } : api.Value))], .agg (api.Value.ct .no .full .full ({ Kind := 2, Text := ([] : List UInt8), List_ := ([] : List (List UInt8)) ++ l, Hash := ([] : List api.Field), ZSet := ([] : List api.Scored) } : api.Value)), [], ⟨(CellOk.agg 1 (tm Z) Z isAgg26 sizeOf26 (nb Z) Z), trivial⟩, (AV.Le.agg ⟨vr, vr, (AV.Le.forget _ _ _), vr, vr, trivial⟩), Weak.mkL [] (by decide) trivial trivial, ⟨Z, Z⟩⟩

theorem mewsref19.Put.ok {l : List api.Field} {f : api.Field} {r : List api.Field} (h : mewsref19.Put l f = some r) : Go.Lift.Spec prog 57 [.sl .no 2 (l.map api.Field.av), .agg [.str f.Key, .str f.Val]] [] (fun v H => ∃ n0, v = .sl (.own n0) 2 (r.map api.Field.av) ∧ H = [(n0, .spare)]) := by
 unfold mewsref19.Put at h
 refine Go.Lift.Spec.of_body (rs := [.tmp 4]) func57 Z Z (nb Z) Z (xr (xc Z (op_box (cs := [.str f.Key, .str f.Val]) (v := .agg [.str f.Key, .str f.Val]) Z (tm Z) Z Z ?_)))
 intro p92
 refine xa (.sl .full 2 (([] : List api.Field).map api.Field.av)) Z (pu_assign Z (AEv.nil 2 (by decide))) (xe (xr (xa (.i 0) Z (pu_assign Z (AEv.int _ _)) (xe ?_))))
 obtain ⟨s123, s123e, h124⟩ := bind_some h
 refine aw_meet (ν := Unit) (fun v => [(0, .sl .no 2 (l.map api.Field.av)), (3, .ptr p92 0), (5, .i s123)]) (fun v => [(p92, .cells [.str f.Key, .str f.Val])]) ?_ ?_
 ·have h := s123e
  refine aw_block (aw_while (σ := mewsref19.Put.S0) (ν := Unit) (mewsref19.Put.body0 l f) (fun s144 v => [(0, .sl .no 2 (l.map api.Field.av)), (3, .ptr p92 0), (5, .i s144.i)]) (fun s144 v => [(p92, .cells [.str f.Key, .str f.Val])]) ⟨0⟩ () _ h (Weak.mkL [0] (by decide) ⟨⟨_, Z, cr, Z⟩, trivial⟩ ⟨tm Z, tm Z, tm Z, trivial⟩) ?_)
  rintro s144 _ x146 h hx145
  unfold mewsref19.Put.body0 at h
  refine aw_seq ?_
  obtain ⟨s150, s150e, h151⟩ := bind_some h
  refine aw_meet (ν := Unit) (fun v => [(0, .sl .no 2 (l.map api.Field.av)), (3, .ptr p92 0), (5, .i s144.i), (20, .bool s150)]) (fun v => [(p92, .cells [.str f.Key, .str f.Val])]) ?_ ?_
  ·have h := s150e
   rcases Bool.eq_false_or_eq_true (decide (s144.i < (l.length : Int))) with hb153 | hb153
   ·replace h := ite_t (dec_t hb153) h
    obtain ⟨c154, h⟩ := need_of h
    refine aw_planR (by decide +kernel) [[], [], [], [], [], [], [], [], [], [], [], [(0, 0, false)], [], []] [[]] [[[(p92, .cells [.str f.Key, .str f.Val])]]] [.i s144.i, .sl .no 2 (l.map api.Field.av), .i (l.length : Int), .bool (decide (s144.i < (l.length : Int))), .bool true, .sl .no 2 (l.map api.Field.av), .i s144.i, .vptr [.str (ix l s144.i).Key, .str (ix l s144.i).Val], .vptr [.str (ix l s144.i).Key, .str (ix l s144.i).Val], .str (ix l s144.i).Key, .ptr p92 0, .str f.Key, .bool (strLt (ix l s144.i).Key f.Key), .bool (strLt (ix l s144.i).Key f.Key)] (by decide +kernel) Z Z ?_ ?_
    ·exact ⟨ym Z Z Z, ym Z Z Z, yp Z (pu_lenM Z underlying23 (tm Z)), yp Z (pu_int (v := .bool (decide (s144.i < (l.length : Int)))) Z Z (tm Z) (tm Z) Z), AStepG.cast (ym Z Z Z) (congrArg AV.bool hb153), yq Z Z (pu_move Z (tm Z)), yq Z Z (pu_move Z (tm Z)), yq Z Z (pu_indexAddrM Z underlying23 sizeOf38 (tm Z) (tm Z) c154 Z), yq Z Z (fa Z underlying38 Z sizeOf9 Z Z Z), yg Z Z (op_loadV1 Z isAgg9 (tm Z) Z ⟨Z, Z⟩), yq Z Z (fa Z underlying38 Z sizeOf9 Z Z Z), yg Z Z (op_load1 (i := 0) Z isAgg9 (tm Z) Z Z ⟨Z, Z⟩), yq Z Z (pu_str (v := .bool (strLt (ix l s144.i).Key f.Key)) Z Z (tm Z) (tm Z) Z), yp Z (pu_pick (b := true) Z (tm Z) (fun _ => (tm Z)) (fun h => nomatch h)), trivial⟩
    obtain rfl := some_of h
    exact ⟨(), Weak.mkL [0] (by decide) ⟨⟨_, Z, cr, Z⟩, trivial⟩ ⟨tm Z, tm Z, tm Z, (AEv.le (tm Z) vr), trivial⟩⟩
   ·replace h := ite_f (dec_f hb153) h
    refine aw_planR (by decide +kernel) [[], [], [], [], [], [], [], [], [], [], [], [], [], []] [[]] [[[(p92, .cells [.str f.Key, .str f.Val])]]] [.i s144.i, .sl .no 2 (l.map api.Field.av), .i (l.length : Int), .bool (decide (s144.i < (l.length : Int))), .bool false, .lit undef, .lit undef, .lit undef, .lit undef, .lit undef, .lit undef, .lit undef, .lit undef, .bool false] (by decide +kernel) Z Z ?_ ?_
    ·exact ⟨ym Z Z Z, ym Z Z Z, yp Z (pu_lenM Z underlying23 (tm Z)), yp Z (pu_int (v := .bool (decide (s144.i < (l.length : Int)))) Z Z (tm Z) (tm Z) Z), AStepG.cast (ym Z Z Z) (congrArg AV.bool hb153), yx Z Z Z, yx Z Z Z, yx Z Z Z, yx Z Z Z, yx Z Z Z, yx Z Z Z, yx Z Z Z, yx Z Z Z, yp Z (pu_pick (b := false) Z (tm Z) (fun h => nomatch h) (fun _ => (AEv.bool _))), trivial⟩
    obtain rfl := some_of h
    exact ⟨(), Weak.mkL [0] (by decide) ⟨⟨_, Z, cr, Z⟩, trivial⟩ ⟨tm Z, tm Z, tm Z, tm Z, trivial⟩⟩
  ·intro _
   have h := h151
   refine aw_cond (b := s150) (tm Z) (fun hb155 => ?_) (fun hb155 => ?_)
   ·replace h := ite_t hb155 h
    refine aw_skip (aw_block (aw_region (xm Z Z Z (xa (.i (IntKind.wrap .i64 (s144.i + 1))) Z (pu_int (v := .i (IntKind.wrap .i64 (s144.i + 1))) Z Z (tm Z) (AEv.int _ _) Z) (xm Z Z Z (xe ?_))))))
    obtain rfl := some_of h
    exact ⟨_, (), Z, Weak.mkL [0] (by decide) ⟨⟨_, Z, cr, Z⟩, trivial⟩ ⟨tm Z, tm Z, (AEv.le (tm Z) vr), trivial⟩⟩
   ·replace h := ite_fb hb155 h
    refine aw_exit ?_
    obtain rfl := some_of h
    have h := congrArg some (hx145 _ rfl)
    obtain rfl := some_of h
    exact ⟨(), Weak.mkL [0] (by decide) ⟨⟨_, Z, cr, Z⟩, trivial⟩ ⟨tm Z, tm Z, tm Z, trivial⟩⟩
 ·intro _
  have h := h124
  refine xr (xm Z Z Z (xm Z Z Z ?_))
  obtain ⟨c156, h⟩ := need_of h
  refine xa (.sl .no 2 ((sub l 0 s123).map api.Field.av)) Z (pu_sliceM Z underlying23 sizeOf38 (tm Z) Z ⟨_, (tm Z)⟩ c156) ?_
  obtain ⟨c157, h⟩ := need_of h
  refine xc Z (op_appendFM Z underlying23 underlying23 (.inl Z) typeInfo38 Z Z Z (by decide) (AEv.nil 2 (by decide)) (given_sl (tm Z)) c157 ?_)
  intro t158
  refine xm Z Z Z (xe (xr (xm Z Z Z (xc Z (op_loadN (i := 1) Z isAgg38 sizeOf38 (tm Z) Z (nb Z) Z (xc Z (op_buildSlice (xs := ([f] : List api.Field).map api.Field.av) (aparts := [(0, .agg [.str f.Key, .str f.Val])]) Z underlying23 sizeOf38 zeroValue38 (by decide) (by decide) ⟨Z, (tm Z), trivial⟩ Z Z Z ?_)))))))
  obtain ⟨c159, h⟩ := need_of h
  refine xc Z (op_appendOM (q := 0) Z underlying23 underlying23 (.inl Z) typeInfo38 Z Z Z (by decide) (tm Z) Z (given_sl (tm Z)) c159 ?_)
  intro t160
  refine xm Z Z Z (xe ?_)
  obtain ⟨s169, s169e, h170⟩ := bind_some h
  refine aw_meet (ν := Unit) (fun v => [(0, .sl .no 2 (l.map api.Field.av)), (5, .i s169), (6, .sl (.own t160) 2 (((([] : List api.Field) ++ (sub l 0 s123)) ++ [f]).map api.Field.av))]) (fun v => [(t160, .spare)]) ?_ ?_
  ·have h := s169e
   obtain ⟨s174, s174e, h175⟩ := bind_some h
   refine aw_meet (ν := Unit) (fun v => [(0, .sl .no 2 (l.map api.Field.av)), (5, .i s123), (6, .sl (.own t160) 2 (((([] : List api.Field) ++ (sub l 0 s123)) ++ [f]).map api.Field.av)), (44, .bool s174)]) (fun v => [(t160, .spare)]) ?_ ?_
   ·have h := s174e
    rcases Bool.eq_false_or_eq_true (decide (s123 < (l.length : Int))) with hb177 | hb177
    ·replace h := ite_t (dec_t hb177) h
     obtain ⟨c178, h⟩ := need_of h
     refine aw_planR (by decide +kernel) [[], [], [], [], [], [], [], [], [], [], [], [(1, 0, false)], [], []] [[], []] [[[(t160, .spare)]], [[(p92, .cells [.str f.Key, .str f.Val])]]] [.i s123, .sl .no 2 (l.map api.Field.av), .i (l.length : Int), .bool (decide (s123 < (l.length : Int))), .bool true, .sl .no 2 (l.map api.Field.av), .i s123, .vptr [.str (ix l s123).Key, .str (ix l s123).Val], .vptr [.str (ix l s123).Key, .str (ix l s123).Val], .str (ix l s123).Key, .ptr p92 0, .str f.Key, .bool (decide ((ix l s123).Key = f.Key)), .bool (decide ((ix l s123).Key = f.Key))] (by decide +kernel) Z Z ?_ ?_
     ·exact ⟨ym Z Z Z, ym Z Z Z, yp Z (pu_lenM Z underlying23 (tm Z)), yp Z (pu_int (v := .bool (decide (s123 < (l.length : Int)))) Z Z (tm Z) (tm Z) Z), AStepG.cast (ym Z Z Z) (congrArg AV.bool hb177), yq Z Z (pu_move Z (tm Z)), yq Z Z (pu_move Z (tm Z)), yq Z Z (pu_indexAddrM Z underlying23 sizeOf38 (tm Z) (tm Z) c178 Z), yq Z Z (fa Z underlying38 Z sizeOf9 Z Z Z), yg Z Z (op_loadV1 Z isAgg9 (tm Z) Z ⟨Z, Z⟩), yq Z Z (fa Z underlying38 Z sizeOf9 Z Z Z), yg Z Z (op_load1 (i := 0) Z isAgg9 (tm Z) Z Z ⟨Z, Z⟩), yq Z Z (pu_str (v := .bool (decide ((ix l s123).Key = f.Key))) Z Z (tm Z) (tm Z) Z), yp Z (pu_pick (b := true) Z (tm Z) (fun _ => (tm Z)) (fun h => nomatch h)), trivial⟩
     obtain rfl := some_of h
     exact ⟨(), Weak.mkL [0] (by decide) ⟨⟨_, Z, Z⟩, trivial⟩ ⟨tm Z, tm Z, tm Z, (AEv.le (tm Z) vr), trivial⟩⟩
    ·replace h := ite_f (dec_f hb177) h
     refine aw_planR (by decide +kernel) [[], [], [], [], [], [], [], [], [], [], [], [], [], []] [[], []] [[[(t160, .spare)]], [[(p92, .cells [.str f.Key, .str f.Val])]]] [.i s123, .sl .no 2 (l.map api.Field.av), .i (l.length : Int), .bool (decide (s123 < (l.length : Int))), .bool false, .lit undef, .lit undef, .lit undef, .lit undef, .lit undef, .lit undef, .lit undef, .lit undef, .bool false] (by decide +kernel) Z Z ?_ ?_
     ·exact ⟨ym Z Z Z, ym Z Z Z, yp Z (pu_lenM Z underlying23 (tm Z)), yp Z (pu_int (v := .bool (decide (s123 < (l.length : Int)))) Z Z (tm Z) (tm Z) Z), AStepG.cast (ym Z Z Z) (congrArg AV.bool hb177), yx Z Z Z, yx Z Z Z, yx Z Z Z, yx Z Z Z, yx Z Z Z, yx Z Z Z, yx Z Z Z, yx Z Z Z, yp Z (pu_pick (b := false) Z (tm Z) (fun h => nomatch h) (fun _ => (AEv.bool _))), trivial⟩
     obtain rfl := some_of h
     exact ⟨(), Weak.mkL [0] (by decide) ⟨⟨_, Z, Z⟩, trivial⟩ ⟨tm Z, tm Z, tm Z, tm Z, trivial⟩⟩
   ·intro _
    have h := h175
    refine aw_cond (b := s174) (tm Z) (fun hb179 => ?_) (fun hb179 => ?_)
    ·replace h := ite_t hb179 h
     refine aw_region (xm Z Z Z (xa (.i (IntKind.wrap .i64 (s123 + 1))) Z (pu_int (v := .i (IntKind.wrap .i64 (s123 + 1))) Z Z (tm Z) (AEv.int _ _) Z) (xm Z Z Z (xe ?_))))
     obtain rfl := some_of h
     exact ⟨(), Weak.mkL [0] (by decide) ⟨⟨_, Z, Z⟩, trivial⟩ ⟨tm Z, (AEv.le (tm Z) vr), tm Z, trivial⟩⟩
    ·replace h := ite_fb hb179 h
     refine aw_skip ?_
     obtain rfl := some_of h
     exact ⟨(), Weak.mkL [0] (by decide) ⟨⟨_, Z, Z⟩, trivial⟩ ⟨tm Z, tm Z, tm Z, trivial⟩⟩
  ·intro _
   have h := h170
   refine xr (xm Z Z Z (xm Z Z Z (xm Z Z Z ?_)))
   obtain ⟨c180, h⟩ := need_of h
   refine xa (.sl .no 2 ((sub l s169 (l.length : Int)).map api.Field.av)) Z (pu_sliceM Z underlying23 sizeOf38 (tm Z) ⟨_, (tm Z)⟩ Z c180) ?_
   obtain ⟨c181, h⟩ := need_of h
   refine xc Z (op_appendOM (q := 0) Z underlying23 underlying23 (.inl Z) typeInfo38 Z Z Z (by decide) (tm Z) Z (given_sl (tm Z)) c181 ?_)
   intro t182
   refine xm Z Z Z (xe (aw_ret ?_))
   obtain rfl := some_of h
   exact ⟨[.sl (.own t182) 2 ((((([] : List api.Field) ++ (sub l 0 s123)) ++ [f]) ++ (sub l s169 (l.length : Int))).map api.Field.av)], _, [(t182, .spare)], ⟨(tm Z), trivial⟩, vr, Weak.mkL [0] (by decide) ⟨⟨_, Z, Z⟩, trivial⟩ trivial, ⟨t182, Z, Z⟩⟩

theorem mewsref19.Hash.ok {l : List api.Field} {r : api.Value} (h : mewsref19.Hash l = some r) : Go.Lift.Spec prog 29 [.sl .no 2 (l.map api.Field.av)] [] (fun v H => v = .agg (api.Value.ct .full .no .full ({ Kind := r.Kind, Text := r.Text, List_ := r.List_, Hash := r.Hash, ZSet := r.ZSet } : api.Value)) ∧ H = []) := by
 unfold mewsref19.Hash at h
 refine Go.Lift.Spec.of_body (rs := [.cell 2 26]) func29 Z Z (nb Z) Z (xr (xc Z (op_alloc (cs := (api.Value.ct .full .full .full ({ Kind := 0, Text := ([] : List UInt8), List_ := ([] : List (List UInt8)), Hash := ([] : List api.Field), ZSet := ([] : List api.Scored) } : api.Value))) (v := .agg (api.Value.ct .full .full .full ({ Kind := 0, Text := ([] : List UInt8), List_ := ([] : List (List UInt8)), Hash := ([] : List api.Field), ZSet := ([] : List api.Scored) } : api.Value))) Z zeroValue26 Z Z Z ?_)))
 intro p50
 refine xe (aw_seq (xr (xm Z Z Z (xa (.i (l.length : Int)) Z (pu_lenM Z underlying23 (tm Z)) (xa (.bool (decide ((l.length : Int) = 0))) Z (pu_int (v := .bool (decide ((l.length : Int) = 0))) Z Z (tm Z) (AEv.int _ _) Z) (xe (aw_cond (b := decide ((l.length : Int) = 0)) (tm Z) (fun hb98 => ?_) (fun hb98 => ?_))))))))
 ·replace h := ite_t (dec_t hb98) h
  refine xr (xa (.agg (api.Value.ct .full .full .full ({ Kind := 0, Text := ([] : List UInt8), List_ := ([] : List (List UInt8)), Hash := ([] : List api.Field), ZSet := ([] : List api.Scored) } : api.Value))) Z (pu_build (zs := [.i 0, .str ([] : List UInt8), .sl .full 1 (([] : List (List UInt8)).map AV.str), .sl .full 2 (([] : List api.Field).map api.Field.av), .sl .full 2 (([] : List api.Scored).map api.Scored.av)]) (szs := [1, 1, 1, 1, 1]) (aparts := []) (cs := [.i 0, .str ([] : List UInt8), .sl .full 1 (([] : List (List UInt8)).map AV.str), .sl .full 2 (([] : List api.Field).map api.Field.av), .sl .full 2 (([] : List api.Scored).map api.Scored.av)]) Z underlying26 zeroValue26 Z ⟨sizeOf3, sizeOf9, sizeOf22, sizeOf23, sizeOf24, trivial⟩ trivial Z) (ac0 Z Z (op_store (i := 0) (cs' := (api.Value.ct .full .full .full ({ Kind := 0, Text := ([] : List UInt8), List_ := ([] : List (List UInt8)), Hash := ([] : List api.Field), ZSet := ([] : List api.Scored) } : api.Value))) Z sizeOf26 (tm Z) (v := .agg (api.Value.ct .full .full .full ({ Kind := 0, Text := ([] : List UInt8), List_ := ([] : List (List UInt8)), Hash := ([] : List api.Field), ZSet := ([] : List api.Scored) } : api.Value))) (tm Z) Z Z Z (nb Z) Z (xe (aw_ret ?_)))))
  obtain rfl := some_of h
  exact ⟨[.agg (api.Value.ct .full .full .full ({ Kind := 0, Text := ([] : List UInt8), List_ := ([] : List (List UInt8)), Hash := ([] : List api.Field), ZSet := ([] : List api.Scored) } : api.Value))], .agg (api.Value.ct .full .no .full ({ Kind := 0, Text := ([] : List UInt8), List_ := ([] : List (List UInt8)), Hash := ([] : List api.Field), ZSet := ([] : List api.Scored) } : api.Value)), [], ⟨(CellOk.agg 0 (tm Z) Z isAgg26 sizeOf26 (nb Z) Z), trivial⟩, (AV.Le.agg ⟨vr, vr, vr, (AV.Le.forget _ _ _), vr, trivial⟩), Weak.mkL [] (by decide) trivial trivial, ⟨Z, Z⟩⟩
 ·replace h := ite_f (dec_f hb98) h
  refine aw_skip (xr (xa (.agg (api.Value.ct .full .full .full ({ Kind := 3, Text := ([] : List UInt8), List_ := ([] : List (List UInt8)), Hash := ([] : List api.Field), ZSet := ([] : List api.Scored) } : api.Value))) Z (pu_build (zs := [.i 0, .str ([] : List UInt8), .sl .full 1 (([] : List (List UInt8)).map AV.str), .sl .full 2 (([] : List api.Field).map api.Field.av), .sl .full 2 (([] : List api.Scored).map api.Scored.av)]) (szs := [1, 1, 1, 1, 1]) (aparts := [(0, .i 3)]) (cs := [.i 3, .str ([] : List UInt8), .sl .full 1 (([] : List (List UInt8)).map AV.str), .sl .full 2 (([] : List api.Field).map api.Field.av), .sl .full 2 (([] : List api.Scored).map api.Scored.av)]) Z underlying26 zeroValue26 Z ⟨sizeOf3, sizeOf9, sizeOf22, sizeOf23, sizeOf24, trivial⟩ ⟨Z, (AEv.int _ _), trivial⟩ Z) (xc Z (op_alloc (cs := (api.Value.ct .full .full .full ({ Kind := 0, Text := ([] : List UInt8), List_ := ([] : List (List UInt8)), Hash := ([] : List api.Field), ZSet := ([] : List api.Scored) } : api.Value))) (v := .agg (api.Value.ct .full .full .full ({ Kind := 0, Text := ([] : List UInt8), List_ := ([] : List (List UInt8)), Hash := ([] : List api.Field), ZSet := ([] : List api.Scored) } : api.Value))) Z zeroValue26 Z Z Z ?_))))
  intro p51
  refine ac0 Z Z (op_store (i := 0) (cs' := (api.Value.ct .full .full .full ({ Kind := 3, Text := ([] : List UInt8), List_ := ([] : List (List UInt8)), Hash := ([] : List api.Field), ZSet := ([] : List api.Scored) } : api.Value))) Z sizeOf26 (tm Z) (v := .agg (api.Value.ct .full .full .full ({ Kind := 3, Text := ([] : List UInt8), List_ := ([] : List (List UInt8)), Hash := ([] : List api.Field), ZSet := ([] : List api.Scored) } : api.Value))) (tm Z) Z Z Z (nb Z) Z (xe ?_))
  obtain ⟨s73, s73e, h75⟩ := bind_some h
  refine aw_meet (ν := Nat) (fun v => [(2, .ptr p50 0), (3, .ptr p51 0)]) (fun v => [(p50, .cells (api.Value.ct .full .full .full ({ Kind := 0, Text := ([] : List UInt8), List_ := ([] : List (List UInt8)), Hash := ([] : List api.Field), ZSet := ([] : List api.Scored) } : api.Value))), (p51, .cells (api.Value.ct .full (.own v) .full ({ Kind := 3, Text := ([] : List UInt8), List_ := ([] : List (List UInt8)), Hash := s73, ZSet := ([] : List api.Scored) } : api.Value))), (v, .spare)]) ?_ ?_
  ·have h := s73e
   refine xr (xa (.i 0) Z (pu_assign Z (AEv.int _ _)) (xe (aw_block (aw_claimCell 0 3 Z Z fun t97 => (aw_while (σ := mewsref19.Hash.S0) (ν := Nat) (mewsref19.Hash.body0 l) (fun s88 v => [(0, .sl .no 2 (l.map api.Field.av)), (2, .ptr p50 0), (3, .ptr p51 0), (4, .i s88.i)]) (fun s88 v => [(p50, .cells (api.Value.ct .full .full .full ({ Kind := 0, Text := ([] : List UInt8), List_ := ([] : List (List UInt8)), Hash := ([] : List api.Field), ZSet := ([] : List api.Scored) } : api.Value))), (p51, .cells (api.Value.ct .full (.own v) .full ({ Kind := 3, Text := ([] : List UInt8), List_ := ([] : List (List UInt8)), Hash := s88.c, ZSet := ([] : List api.Scored) } : api.Value))), (v, .spare)]) ⟨0, ([] : List api.Field)⟩ t97 _ h (Weak.mkL [2, 1, 0] (by decide) ⟨⟨_, Z, cr, Z⟩, ⟨_, Z, cr, Z⟩, ⟨_, Z, Z⟩, trivial⟩ ⟨tm Z, tm Z, tm Z, tm Z, trivial⟩) ?_)))))
   rintro s88 n89 x91 h hx90
   unfold mewsref19.Hash.body0 at h
   refine aw_seq (xr (xm Z Z Z (xm Z Z Z (xa (.i (l.length : Int)) Z (pu_lenM Z underlying23 (tm Z)) (xa (.bool (decide (s88.i < (l.length : Int)))) Z (pu_int (v := .bool (decide (s88.i < (l.length : Int)))) Z Z (tm Z) (tm Z) Z) (xe (aw_cond (b := decide (s88.i < (l.length : Int))) (tm Z) (fun hb96 => ?_) (fun hb96 => ?_))))))))
   ·replace h := ite_t (dec_t hb96) h
    refine aw_skip (aw_seq (aw_block ?_))
    obtain ⟨c93, h⟩ := need_of h
    obtain ⟨r94, r94e, h⟩ := bind_some h
    refine aw_reserve fun p95 => (aw_planR (by decide +kernel) [[], [(2, 0, false)], [], [], [], [], [(0, 0, true)], [], [(2, 0, true)]] [[6], [], [8], []] [[[(p95, .resv)], [(p95, .spare)]], [[(p50, .cells (api.Value.ct .full .full .full ({ Kind := 0, Text := ([] : List UInt8), List_ := ([] : List (List UInt8)), Hash := ([] : List api.Field), ZSet := ([] : List api.Scored) } : api.Value)))]], [[(p51, .cells (api.Value.ct .full (.own n89) .full ({ Kind := 3, Text := ([] : List UInt8), List_ := ([] : List (List UInt8)), Hash := s88.c, ZSet := ([] : List api.Scored) } : api.Value)))], [(p51, .cells (api.Value.ct .full (.own p95) .full ({ Kind := 3, Text := ([] : List UInt8), List_ := ([] : List (List UInt8)), Hash := r94, ZSet := ([] : List api.Scored) } : api.Value)))]], [[(n89, .spare)]]] [.ptr p51 3, .sl (.own n89) 2 (s88.c.map api.Field.av), .sl .no 2 (l.map api.Field.av), .i s88.i, .vptr [.str (ix l s88.i).Key, .str (ix l s88.i).Val], .agg [.str (ix l s88.i).Key, .str (ix l s88.i).Val], .sl (.own p95) 2 (r94.map api.Field.av), .ptr p51 3, .un] (by decide +kernel) Z Z ?_ ?_)
    ·exact ⟨yp Z (fa Z underlying26 Z sizeOf23 Z Z Z), stepg_plain Z (op_load1 (i := 0) Z isAgg23 (tm Z) Z Z ⟨Z, Z⟩), ym Z Z Z, ym Z Z Z, yp Z (pu_indexAddrM Z underlying23 sizeOf38 (tm Z) (tm Z) c93 Z), stepg_plain Z (op_loadVN Z isAgg38 sizeOf38 (tm Z) (nb Z) Z ⟨Z, Z⟩), stepg_plain Z (aop_settleS (op_call (vs := [.sl .no 2 (s88.c.map api.Field.av), .agg [.str (ix l s88.i).Key, .str (ix l s88.i).Val]]) (H := []) (R := [(p95, .resv)]) Z call57 ⟨(AEv.le (tm Z) (AV.Le.forget _ _ _)), (tm Z), trivial⟩ (List.Perm.refl _) (mewsref19.Put.ok r94e) (by rintro _ _ ⟨t, rfl, rfl⟩; exact ⟨t, Z, Z⟩)) ⟨Z, Z⟩), yp Z (fa Z underlying26 Z sizeOf23 Z Z Z), stepg_plain Z (op_store (i := 0) (cs' := (api.Value.ct .full (.own p95) .full ({ Kind := 3, Text := ([] : List UInt8), List_ := ([] : List (List UInt8)), Hash := r94, ZSet := ([] : List api.Scored) } : api.Value))) Z sizeOf23 (tm Z) (v := .sl (.own p95) 2 (r94.map api.Field.av)) (tm Z) Z Z Z (nb Z) Z ⟨Z, Z⟩), trivial⟩
    refine aw_region (xm Z Z Z (xa (.i (IntKind.wrap .i64 (s88.i + 1))) Z (pu_int (v := .i (IntKind.wrap .i64 (s88.i + 1))) Z Z (tm Z) (AEv.int _ _) Z) (xm Z Z Z (xe ?_))))
    obtain rfl := some_of h
    exact ⟨_, p95, Z, Weak.mkL [1, 2, 0] (by decide) ⟨⟨_, Z, cr, Z⟩, ⟨_, Z, cr, Z⟩, ⟨_, Z, Z⟩, trivial⟩ ⟨tm Z, tm Z, tm Z, (AEv.le (tm Z) vr), trivial⟩⟩
   ·replace h := ite_f (dec_f hb96) h
    refine aw_exit ?_
    obtain rfl := some_of h
    have h := congrArg some (hx90 _ rfl)
    obtain rfl := some_of h
    exact ⟨n89, Weak.mkL [0, 1, 2] (by decide) ⟨⟨_, Z, cr, Z⟩, ⟨_, Z, cr, Z⟩, ⟨_, Z, Z⟩, trivial⟩ ⟨tm Z, tm Z, trivial⟩⟩
  ·intro n74
   have h := h75
   refine xr (xc Z (op_loadN (i := 1) Z isAgg26 sizeOf26 (tm Z) Z (nb Z) Z (ac0 Z Z (op_store (i := 0) (cs' := (api.Value.ct .full (.own n74) .full ({ Kind := 3, Text := ([] : List UInt8), List_ := ([] : List (List UInt8)), Hash := s73, ZSet := ([] : List api.Scored) } : api.Value))) Z sizeOf26 (tm Z) (v := .agg (api.Value.ct .full (.own n74) .full ({ Kind := 3, Text := ([] : List UInt8), List_ := ([] : List (List UInt8)), Hash := s73, ZSet := ([] : List api.Scored) } : api.Value))) (tm Z) Z Z Z (nb Z) Z (xe (aw_ret ?_))))))
   obtain rfl := some_of h
   exact ⟨[.agg (api.Value.ct .full (.own n74) .full ({ Kind := 3, Text := ([] : List UInt8), List_ := ([] : List (List UInt8)), Hash := s73, ZSet := ([] : List api.Scored) } : api.Value))], .agg (api.Value.ct .full .no .full ({ Kind := 3, Text := ([] : List UInt8), List_ := ([] : List (List UInt8)), Hash := s73, ZSet := ([] : List api.Scored) } : api.Value)), [], ⟨(CellOk.agg 0 (tm Z) Z isAgg26 sizeOf26 (nb Z) Z), trivial⟩, (AV.Le.agg ⟨vr, vr, vr, (AV.Le.forget _ _ _), vr, trivial⟩), Weak.mkL [] (by decide) trivial trivial, ⟨Z, Z⟩⟩

theorem mewsref19.With.ok {l : List (List UInt8)} {s_ : List UInt8} {r : List (List UInt8)} (h : mewsref19.With l s_ = some r) : Go.Lift.Spec prog 58 [.sl .no 1 (l.map AV.str), .str s_] [] (fun v H => v = .sl .no 1 (r.map AV.str) ∧ H = []) := by
 unfold mewsref19.With at h
 refine Go.Lift.Spec.of_body (rs := [.tmp 4]) func58 Z Z (nb Z) Z (xr (xa (.sl .full 1 (([] : List (List UInt8)).map AV.str)) Z (pu_assign Z (AEv.nil 1 (by decide))) (xe (xr (xa (.i 0) Z (pu_assign Z (AEv.int _ _)) (xe ?_))))))
 obtain ⟨s110, s110e, h111⟩ := bind_some h
 refine aw_meet (ν := Unit) (fun v => [(0, .sl .no 1 (l.map AV.str)), (1, .str s_), (5, .i s110)]) (fun v => []) ?_ ?_
 ·have h := s110e
  refine aw_block (aw_while (σ := mewsref19.With.S0) (ν := Unit) (mewsref19.With.body0 l s_) (fun s131 v => [(0, .sl .no 1 (l.map AV.str)), (1, .str s_), (5, .i s131.i)]) (fun s131 v => []) ⟨0⟩ () _ h (Weak.mkL [] (by decide) trivial ⟨tm Z, tm Z, tm Z, trivial⟩) ?_)
  rintro s131 _ x133 h hx132
  unfold mewsref19.With.body0 at h
  refine aw_seq ?_
  obtain ⟨s137, s137e, h138⟩ := bind_some h
  refine aw_meet (ν := Unit) (fun v => [(0, .sl .no 1 (l.map AV.str)), (1, .str s_), (5, .i s131.i), (18, .bool s137)]) (fun v => []) ?_ ?_
  ·have h := s137e
   refine aw_region (xm Z Z Z (xm Z Z Z (xa (.i (l.length : Int)) Z (pu_lenM Z underlying22 (tm Z)) (xa (.bool (decide (s131.i < (l.length : Int)))) Z (pu_int (v := .bool (decide (s131.i < (l.length : Int)))) Z Z (tm Z) (tm Z) Z) (xm Z Z Z ?_)))))
   rcases Bool.eq_false_or_eq_true (decide (s131.i < (l.length : Int))) with hb140 | hb140
   ·replace h := ite_t (dec_t hb140) h
    refine aops_known 11 Z hb140 (xq Z Z Z Z (xq Z Z Z Z ?_))
    obtain ⟨c141, h⟩ := need_of h
    refine xp (.vptr [.str (ix l s131.i)]) Z Z (pu_indexAddrM Z underlying22 sizeOf9 (tm Z) (tm Z) c141 Z) (xg Z Z (op_loadV1 Z isAgg9 (tm Z) Z (xq Z Z Z Z (xp (.bool (strLt (ix l s131.i) s_)) Z Z (pu_str (v := .bool (strLt (ix l s131.i) s_)) Z Z (tm Z) (tm Z) Z) (xa (.bool (strLt (ix l s131.i) s_)) Z (pu_pick (b := true) Z (tm Z) (fun _ => (tm Z)) (fun h => nomatch h)) (xe ?_))))))
    obtain rfl := some_of h
    exact ⟨(), Weak.mkL [] (by decide) trivial ⟨tm Z, tm Z, tm Z, (AEv.le (tm Z) vr), trivial⟩⟩
   ·replace h := ite_f (dec_f hb140) h
    refine aops_known 11 Z hb140 (xn Z Z Z (xn Z Z Z (xn Z Z Z (xn Z Z Z (xn Z Z Z (xn Z Z Z (xa (.bool false) Z (pu_pick (b := false) Z (tm Z) (fun h => nomatch h) (fun _ => (AEv.bool _))) (xe ?_))))))))
    obtain rfl := some_of h
    exact ⟨(), Weak.mkL [] (by decide) trivial ⟨tm Z, tm Z, tm Z, tm Z, trivial⟩⟩
  ·intro _
   have h := h138
   refine aw_cond (b := s137) (tm Z) (fun hb142 => ?_) (fun hb142 => ?_)
   ·replace h := ite_t hb142 h
    refine aw_skip (aw_block (aw_region (xm Z Z Z (xa (.i (IntKind.wrap .i64 (s131.i + 1))) Z (pu_int (v := .i (IntKind.wrap .i64 (s131.i + 1))) Z Z (tm Z) (AEv.int _ _) Z) (xm Z Z Z (xe ?_))))))
    obtain rfl := some_of h
    exact ⟨_, (), Z, Weak.mkL [] (by decide) trivial ⟨tm Z, tm Z, (AEv.le (tm Z) vr), trivial⟩⟩
   ·replace h := ite_fb hb142 h
    refine aw_exit ?_
    obtain rfl := some_of h
    have h := congrArg some (hx132 _ rfl)
    obtain rfl := some_of h
    exact ⟨(), Weak.mkL [] (by decide) trivial ⟨tm Z, tm Z, tm Z, trivial⟩⟩
 ·intro _
  have h := h111
  refine aw_seq ?_
  obtain ⟨s145, s145e, h146⟩ := bind_some h
  refine aw_meet (ν := Unit) (fun v => [(0, .sl .no 1 (l.map AV.str)), (1, .str s_), (5, .i s110), (32, .bool s145)]) (fun v => []) ?_ ?_
  ·have h := s145e
   refine aw_region (xm Z Z Z (xm Z Z Z (xa (.i (l.length : Int)) Z (pu_lenM Z underlying22 (tm Z)) (xa (.bool (decide (s110 < (l.length : Int)))) Z (pu_int (v := .bool (decide (s110 < (l.length : Int)))) Z Z (tm Z) (tm Z) Z) (xm Z Z Z ?_)))))
   rcases Bool.eq_false_or_eq_true (decide (s110 < (l.length : Int))) with hb148 | hb148
   ·replace h := ite_t (dec_t hb148) h
    refine aops_known 25 Z hb148 (xq Z Z Z Z (xq Z Z Z Z ?_))
    obtain ⟨c149, h⟩ := need_of h
    refine xp (.vptr [.str (ix l s110)]) Z Z (pu_indexAddrM Z underlying22 sizeOf9 (tm Z) (tm Z) c149 Z) (xg Z Z (op_loadV1 Z isAgg9 (tm Z) Z (xq Z Z Z Z (xp (.bool (decide ((ix l s110) = s_))) Z Z (pu_str (v := .bool (decide ((ix l s110) = s_))) Z Z (tm Z) (tm Z) Z) (xa (.bool (decide ((ix l s110) = s_))) Z (pu_pick (b := true) Z (tm Z) (fun _ => (tm Z)) (fun h => nomatch h)) (xe ?_))))))
    obtain rfl := some_of h
    exact ⟨(), Weak.mkL [] (by decide) trivial ⟨tm Z, tm Z, tm Z, (AEv.le (tm Z) vr), trivial⟩⟩
   ·replace h := ite_f (dec_f hb148) h
    refine aops_known 25 Z hb148 (xn Z Z Z (xn Z Z Z (xn Z Z Z (xn Z Z Z (xn Z Z Z (xn Z Z Z (xa (.bool false) Z (pu_pick (b := false) Z (tm Z) (fun h => nomatch h) (fun _ => (AEv.bool _))) (xe ?_))))))))
    obtain rfl := some_of h
    exact ⟨(), Weak.mkL [] (by decide) trivial ⟨tm Z, tm Z, tm Z, tm Z, trivial⟩⟩
  ·intro _
   have h := h146
   refine aw_cond (b := s145) (tm Z) (fun hb158 => ?_) (fun hb158 => ?_)
   ·replace h := ite_t hb158 h
    refine xr (xm Z Z Z (xm Z Z Z (xe (aw_ret ?_))))
    obtain rfl := some_of h
    exact ⟨[.sl .no 1 (l.map AV.str)], _, [], ⟨(tm Z), trivial⟩, vr, Weak.mkL [] (by decide) trivial trivial, ⟨Z, Z⟩⟩
   ·replace h := ite_fb hb158 h
    refine aw_skip (xr (xm Z Z Z (xm Z Z Z ?_)))
    obtain ⟨c150, h⟩ := need_of h
    refine xa (.sl .no 1 ((sub l 0 s110).map AV.str)) Z (pu_sliceM Z underlying22 sizeOf9 (tm Z) Z ⟨_, (tm Z)⟩ c150) ?_
    obtain ⟨c151, h⟩ := need_of h
    refine xc Z (op_appendFM Z underlying22 underlying22 (.inl Z) typeInfo9 Z Z Z (by decide) (AEv.nil 1 (by decide)) (given_sl (tm Z)) c151 ?_)
    intro t152
    refine xm Z Z Z (xe (xr (xm Z Z Z (xm Z Z Z (xc Z (op_buildSlice (xs := ([s_] : List (List UInt8)).map AV.str) (aparts := [(0, .str s_)]) Z underlying22 sizeOf9 zeroValue9 (by decide) (by decide) ⟨Z, (tm Z), trivial⟩ Z Z Z ?_))))))
    obtain ⟨c153, h⟩ := need_of h
    refine xc Z (op_appendOM (q := 0) Z underlying22 underlying22 (.inl Z) typeInfo9 Z Z Z (by decide) (tm Z) Z (given_sl (tm Z)) c153 ?_)
    intro t154
    refine xm Z Z Z (xe (xr (xm Z Z Z (xm Z Z Z (xm Z Z Z ?_)))))
    obtain ⟨c155, h⟩ := need_of h
    refine xa (.sl .no 1 ((sub l s110 (l.length : Int)).map AV.str)) Z (pu_sliceM Z underlying22 sizeOf9 (tm Z) ⟨_, (tm Z)⟩ Z c155) ?_
    obtain ⟨c156, h⟩ := need_of h
    refine xc Z (op_appendOM (q := 0) Z underlying22 underlying22 (.inl Z) typeInfo9 Z Z Z (by decide) (tm Z) Z (given_sl (tm Z)) c156 ?_)
    intro t157
    refine xm Z Z Z (xe (aw_ret ?_))
    obtain rfl := some_of h
    exact ⟨[.sl .no 1 ((((([] : List (List UInt8)) ++ (sub l 0 s110)) ++ [s_]) ++ (sub l s110 (l.length : Int))).map AV.str)], _, [], ⟨(AEv.le (tm Z) (AV.Le.forget _ _ _)), trivial⟩, vr, Weak.mkL [] (by decide) trivial trivial, ⟨Z, Z⟩⟩

theorem mewsref19.Set.ok {l : List (List UInt8)} {r : api.Value} (h : mewsref19.Set l = some r) : Go.Lift.Spec prog 30 [.sl .no 1 (l.map AV.str)] [] (fun v H => v = .agg (api.Value.ct .no .full .full ({ Kind := r.Kind, Text := r.Text, List_ := r.List_, Hash := r.Hash, ZSet := r.ZSet } : api.Value)) ∧ H = []) := by
 unfold mewsref19.Set at h
 refine Go.Lift.Spec.of_body (rs := [.cell 2 26]) func30 Z Z (nb Z) Z (xr (xc Z (op_alloc (cs := (api.Value.ct .full .full .full ({ Kind := 0, Text := ([] : List UInt8), List_ := ([] : List (List UInt8)), Hash := ([] : List api.Field), ZSet := ([] : List api.Scored) } : api.Value))) (v := .agg (api.Value.ct .full .full .full ({ Kind := 0, Text := ([] : List UInt8), List_ := ([] : List (List UInt8)), Hash := ([] : List api.Field), ZSet := ([] : List api.Scored) } : api.Value))) Z zeroValue26 Z Z Z ?_)))
 intro p37
 refine xe (aw_seq (xr (xm Z Z Z (xa (.i (l.length : Int)) Z (pu_lenM Z underlying22 (tm Z)) (xa (.bool (decide ((l.length : Int) = 0))) Z (pu_int (v := .bool (decide ((l.length : Int) = 0))) Z Z (tm Z) (AEv.int _ _) Z) (xe (aw_cond (b := decide ((l.length : Int) = 0)) (tm Z) (fun hb72 => ?_) (fun hb72 => ?_))))))))
 ·replace h := ite_t (dec_t hb72) h
  refine xr (xa (.agg (api.Value.ct .full .full .full ({ Kind := 0, Text := ([] : List UInt8), List_ := ([] : List (List UInt8)), Hash := ([] : List api.Field), ZSet := ([] : List api.Scored) } : api.Value))) Z (pu_build (zs := [.i 0, .str ([] : List UInt8), .sl .full 1 (([] : List (List UInt8)).map AV.str), .sl .full 2 (([] : List api.Field).map api.Field.av), .sl .full 2 (([] : List api.Scored).map api.Scored.av)]) (szs := [1, 1, 1, 1, 1]) (aparts := []) (cs := [.i 0, .str ([] : List UInt8), .sl .full 1 (([] : List (List UInt8)).map AV.str), .sl .full 2 (([] : List api.Field).map api.Field.av), .sl .full 2 (([] : List api.Scored).map api.Scored.av)]) Z underlying26 zeroValue26 Z ⟨sizeOf3, sizeOf9, sizeOf22, sizeOf23, sizeOf24, trivial⟩ trivial Z) (ac0 Z Z (op_store (i := 0) (cs' := (api.Value.ct .full .full .full ({ Kind := 0, Text := ([] : List UInt8), List_ := ([] : List (List UInt8)), Hash := ([] : List api.Field), ZSet := ([] : List api.Scored) } : api.Value))) Z sizeOf26 (tm Z) (v := .agg (api.Value.ct .full .full .full ({ Kind := 0, Text := ([] : List UInt8), List_ := ([] : List (List UInt8)), Hash := ([] : List api.Field), ZSet := ([] : List api.Scored) } : api.Value))) (tm Z) Z Z Z (nb Z) Z (xe (aw_ret ?_)))))
  obtain rfl := some_of h
  exact ⟨[.agg (api.Value.ct .full .full .full ({ Kind := 0, Text := ([] : List UInt8), List_ := ([] : List (List UInt8)), Hash := ([] : List api.Field), ZSet := ([] : List api.Scored) } : api.Value))], .agg (api.Value.ct .no .full .full ({ Kind := 0, Text := ([] : List UInt8), List_ := ([] : List (List UInt8)), Hash := ([] : List api.Field), ZSet := ([] : List api.Scored) } : api.Value)), [], ⟨(CellOk.agg 0 (tm Z) Z isAgg26 sizeOf26 (nb Z) Z), trivial⟩, (AV.Le.agg ⟨vr, vr, (AV.Le.forget _ _ _), vr, vr, trivial⟩), Weak.mkL [] (by decide) trivial trivial, ⟨Z, Z⟩⟩
 ·replace h := ite_f (dec_f hb72) h
  refine aw_skip (xr (xa (.agg (api.Value.ct .full .full .full ({ Kind := 4, Text := ([] : List UInt8), List_ := ([] : List (List UInt8)), Hash := ([] : List api.Field), ZSet := ([] : List api.Scored) } : api.Value))) Z (pu_build (zs := [.i 0, .str ([] : List UInt8), .sl .full 1 (([] : List (List UInt8)).map AV.str), .sl .full 2 (([] : List api.Field).map api.Field.av), .sl .full 2 (([] : List api.Scored).map api.Scored.av)]) (szs := [1, 1, 1, 1, 1]) (aparts := [(0, .i 4)]) (cs := [.i 4, .str ([] : List UInt8), .sl .full 1 (([] : List (List UInt8)).map AV.str), .sl .full 2 (([] : List api.Field).map api.Field.av), .sl .full 2 (([] : List api.Scored).map api.Scored.av)]) Z underlying26 zeroValue26 Z ⟨sizeOf3, sizeOf9, sizeOf22, sizeOf23, sizeOf24, trivial⟩ ⟨Z, (AEv.int _ _), trivial⟩ Z) (xc Z (op_alloc (cs := (api.Value.ct .full .full .full ({ Kind := 0, Text := ([] : List UInt8), List_ := ([] : List (List UInt8)), Hash := ([] : List api.Field), ZSet := ([] : List api.Scored) } : api.Value))) (v := .agg (api.Value.ct .full .full .full ({ Kind := 0, Text := ([] : List UInt8), List_ := ([] : List (List UInt8)), Hash := ([] : List api.Field), ZSet := ([] : List api.Scored) } : api.Value))) Z zeroValue26 Z Z Z ?_))))
  intro p38
  refine ac0 Z Z (op_store (i := 0) (cs' := (api.Value.ct .full .full .full ({ Kind := 4, Text := ([] : List UInt8), List_ := ([] : List (List UInt8)), Hash := ([] : List api.Field), ZSet := ([] : List api.Scored) } : api.Value))) Z sizeOf26 (tm Z) (v := .agg (api.Value.ct .full .full .full ({ Kind := 4, Text := ([] : List UInt8), List_ := ([] : List (List UInt8)), Hash := ([] : List api.Field), ZSet := ([] : List api.Scored) } : api.Value))) (tm Z) Z Z Z (nb Z) Z (xe ?_))
  obtain ⟨s54, s54e, h55⟩ := bind_some h
  refine aw_meet (ν := Unit) (fun v => [(2, .ptr p37 0), (3, .ptr p38 0)]) (fun v => [(p37, .cells (api.Value.ct .full .full .full ({ Kind := 0, Text := ([] : List UInt8), List_ := ([] : List (List UInt8)), Hash := ([] : List api.Field), ZSet := ([] : List api.Scored) } : api.Value))), (p38, .cells (api.Value.ct .no .full .full ({ Kind := 4, Text := ([] : List UInt8), List_ := s54, Hash := ([] : List api.Field), ZSet := ([] : List api.Scored) } : api.Value)))]) ?_ ?_
  ·have h := s54e
   refine xr (xa (.i 0) Z (pu_assign Z (AEv.int _ _)) (xe (aw_block (aw_while (σ := mewsref19.Set.S0) (ν := Unit) (mewsref19.Set.body0 l) (fun s65 v => [(0, .sl .no 1 (l.map AV.str)), (2, .ptr p37 0), (3, .ptr p38 0), (4, .i s65.i)]) (fun s65 v => [(p37, .cells (api.Value.ct .full .full .full ({ Kind := 0, Text := ([] : List UInt8), List_ := ([] : List (List UInt8)), Hash := ([] : List api.Field), ZSet := ([] : List api.Scored) } : api.Value))), (p38, .cells (api.Value.ct .no .full .full ({ Kind := 4, Text := ([] : List UInt8), List_ := s65.c, Hash := ([] : List api.Field), ZSet := ([] : List api.Scored) } : api.Value)))]) ⟨0, ([] : List (List UInt8))⟩ () _ h (Weak.mkL [1, 0] (by decide) ⟨⟨_, Z, cr, Z⟩, ⟨_, Z, ⟨vr, vr, (AV.Le.forget _ _ _), vr, vr, trivial⟩, Z⟩, trivial⟩ ⟨tm Z, tm Z, tm Z, tm Z, trivial⟩) ?_))))
   rintro s65 _ x67 h hx66
   unfold mewsref19.Set.body0 at h
   refine aw_seq (xr (xm Z Z Z (xm Z Z Z (xa (.i (l.length : Int)) Z (pu_lenM Z underlying22 (tm Z)) (xa (.bool (decide (s65.i < (l.length : Int)))) Z (pu_int (v := .bool (decide (s65.i < (l.length : Int)))) Z Z (tm Z) (tm Z) Z) (xe (aw_cond (b := decide (s65.i < (l.length : Int))) (tm Z) (fun hb71 => ?_) (fun hb71 => ?_))))))))
   ·replace h := ite_t (dec_t hb71) h
    refine aw_skip (aw_seq (aw_block ?_))
    obtain ⟨c69, h⟩ := need_of h
    obtain ⟨r70, r70e, h⟩ := bind_some h
    refine aw_planR (by decide +kernel) [[], [(1, 0, false)], [], [], [], [], [], [], [(1, 0, true)]] [[], [8]] [[[(p37, .cells (api.Value.ct .full .full .full ({ Kind := 0, Text := ([] : List UInt8), List_ := ([] : List (List UInt8)), Hash := ([] : List api.Field), ZSet := ([] : List api.Scored) } : api.Value)))]], [[(p38, .cells (api.Value.ct .no .full .full ({ Kind := 4, Text := ([] : List UInt8), List_ := s65.c, Hash := ([] : List api.Field), ZSet := ([] : List api.Scored) } : api.Value)))], [(p38, .cells (api.Value.ct .no .full .full ({ Kind := 4, Text := ([] : List UInt8), List_ := r70, Hash := ([] : List api.Field), ZSet := ([] : List api.Scored) } : api.Value)))]]] [.ptr p38 2, .sl .no 1 (s65.c.map AV.str), .sl .no 1 (l.map AV.str), .i s65.i, .vptr [.str (ix l s65.i)], .str (ix l s65.i), .sl .no 1 (r70.map AV.str), .ptr p38 2, .un] (by decide +kernel) Z Z ?_ ?_
    ·exact ⟨yp Z (fa Z underlying26 Z sizeOf22 Z Z Z), stepg_plain Z (op_load1 (i := 0) Z isAgg22 (tm Z) Z Z ⟨Z, Z⟩), ym Z Z Z, ym Z Z Z, yp Z (pu_indexAddrM Z underlying22 sizeOf9 (tm Z) (tm Z) c69 Z), stepg_plain Z (op_loadV1 Z isAgg9 (tm Z) Z ⟨Z, Z⟩), stepg_plain Z (op_call (vs := [.sl .no 1 (s65.c.map AV.str), .str (ix l s65.i)]) (H := []) Z call58 ⟨(tm Z), (tm Z), trivial⟩ (R := []) (List.Perm.refl _) (mewsref19.With.ok r70e) (by rintro _ _ ⟨rfl, rfl⟩; exact ⟨Z, Z⟩)), yp Z (fa Z underlying26 Z sizeOf22 Z Z Z), stepg_plain Z (op_store (i := 0) (cs' := (api.Value.ct .no .full .full ({ Kind := 4, Text := ([] : List UInt8), List_ := r70, Hash := ([] : List api.Field), ZSet := ([] : List api.Scored) } : api.Value))) Z sizeOf22 (tm Z) (v := .sl .no 1 (r70.map AV.str)) (tm Z) Z Z Z (nb Z) Z ⟨Z, Z⟩), trivial⟩
    refine aw_region (xm Z Z Z (xa (.i (IntKind.wrap .i64 (s65.i + 1))) Z (pu_int (v := .i (IntKind.wrap .i64 (s65.i + 1))) Z Z (tm Z) (AEv.int _ _) Z) (xm Z Z Z (xe ?_))))
    obtain rfl := some_of h
    exact ⟨_, (), Z, Weak.mkL [0, 1] (by decide) ⟨⟨_, Z, cr, Z⟩, ⟨_, Z, cr, Z⟩, trivial⟩ ⟨tm Z, tm Z, tm Z, (AEv.le (tm Z) vr), trivial⟩⟩
   ·replace h := ite_f (dec_f hb71) h
    refine aw_exit ?_
    obtain rfl := some_of h
    have h := congrArg some (hx66 _ rfl)
    obtain rfl := some_of h
    exact ⟨(), Weak.mkL [0, 1] (by decide) ⟨⟨_, Z, cr, Z⟩, ⟨_, Z, cr, Z⟩, trivial⟩ ⟨tm Z, tm Z, trivial⟩⟩
  ·intro _
   have h := h55
   refine xr (xc Z (op_loadN (i := 1) Z isAgg26 sizeOf26 (tm Z) Z (nb Z) Z (ac0 Z Z (op_store (i := 0) (cs' := (api.Value.ct .no .full .full ({ Kind := 4, Text := ([] : List UInt8), List_ := s54, Hash := ([] : List api.Field), ZSet := ([] : List api.Scored) } : api.Value))) Z sizeOf26 (tm Z) (v := .agg (api.Value.ct .no .full .full ({ Kind := 4, Text := ([] : List UInt8), List_ := s54, Hash := ([] : List api.Field), ZSet := ([] : List api.Scored) } : api.Value))) (tm Z) Z Z Z (nb Z) Z (xe (aw_ret ?_))))))
   obtain rfl := some_of h
   exact ⟨[.agg (api.Value.ct .no .full .full ({ Kind := 4, Text := ([] : List UInt8), List_ := s54, Hash := ([] : List api.Field), ZSet := ([] : List api.Scored) } : api.Value))], _, [], ⟨(CellOk.agg 0 (tm Z) Z isAgg26 sizeOf26 (nb Z) Z), trivial⟩, vr, Weak.mkL [] (by decide) trivial trivial, ⟨Z, Z⟩⟩

theorem mewsref19.Out.ok {l : List api.Scored} {member : List UInt8} {r : List api.Scored} (h : mewsref19.Out l member = some r) : Go.Lift.Spec prog 67 [.sl .no 2 (l.map api.Scored.av), .str member] [] (fun v H => ∃ n0, v = .sl (.own n0) 2 (r.map api.Scored.av) ∧ H = [(n0, .spare)]) := by
 unfold mewsref19.Out at h
 refine Go.Lift.Spec.of_body (rs := [.tmp 4]) func67 Z Z (nb Z) Z (xr (xa (.sl .full 2 (([] : List api.Scored).map api.Scored.av)) Z (pu_assign Z (AEv.nil 2 (by decide))) (xe (xr (xa (.sl .full 2 (([] : List api.Scored).map api.Scored.av)) Z (pu_assign Z (AEv.nil 2 (by decide))) (xe ?_))))))
 obtain ⟨s170, s170e, h172⟩ := bind_some h
 refine aw_meet (ν := Nat) (fun v => [(5, .sl (.own v) 2 (s170.map api.Scored.av))]) (fun v => [(v, .spare)]) ?_ ?_
 ·have h := s170e
  refine xr (xa (.i 0) Z (pu_assign Z (AEv.int _ _)) (xe (aw_block (aw_claim 5 (tm Z) fun t228 => (aw_while (σ := mewsref19.Out.S0) (ν := Nat) (mewsref19.Out.body0 l member) (fun s208 v => [(0, .sl .no 2 (l.map api.Scored.av)), (1, .str member), (5, .sl (.own v) 2 (s208.out.map api.Scored.av)), (6, .i s208.i)]) (fun s208 v => [(v, .spare)]) ⟨([] : List api.Scored), 0⟩ t228 _ h (Weak.mkL [0] (by decide) ⟨⟨_, Z, Z⟩, trivial⟩ ⟨tm Z, tm Z, tm Z, tm Z, trivial⟩) ?_)))))
  rintro s208 n209 x211 h hx210
  unfold mewsref19.Out.body0 at h
  refine aw_seq (xr (xm Z Z Z (xm Z Z Z (xa (.i (l.length : Int)) Z (pu_lenM Z underlying24 (tm Z)) (xa (.bool (decide (s208.i < (l.length : Int)))) Z (pu_int (v := .bool (decide (s208.i < (l.length : Int)))) Z Z (tm Z) (tm Z) Z) (xe (aw_cond (b := decide (s208.i < (l.length : Int))) (tm Z) (fun hb227 => ?_) (fun hb227 => ?_))))))))
  ·replace h := ite_t (dec_t hb227) h
   refine aw_skip ?_
   obtain ⟨s218, s218e, h220⟩ := bind_some h
   refine aw_meet (ν := Nat) (fun v => [(0, .sl .no 2 (l.map api.Scored.av)), (1, .str member), (5, .sl (.own v) 2 (s218.map api.Scored.av)), (6, .i s208.i)]) (fun v => [(v, .spare)]) ?_ ?_
   ·have h := s218e
    refine aw_block (xr (xm Z Z Z (xm Z Z Z ?_)))
    obtain ⟨c222, h⟩ := need_of h
    refine xa (.vptr [.str (ix l s208.i).Member, .i (ix l s208.i).Score]) Z (pu_indexAddrM Z underlying24 sizeOf40 (tm Z) (tm Z) c222 Z) (xa (.vptr [.str (ix l s208.i).Member, .i (ix l s208.i).Score]) Z (fa Z underlying40 Z sizeOf9 Z Z Z) (xc Z (op_loadV1 Z isAgg9 (tm Z) Z (xm Z Z Z (xa (.bool (!decide ((ix l s208.i).Member = member))) Z (pu_str (v := .bool (!decide ((ix l s208.i).Member = member))) Z Z (tm Z) (tm Z) Z) (xe (aw_cond (b := (!decide ((ix l s208.i).Member = member))) (tm Z) (fun hb226 => ?_) (fun hb226 => ?_))))))))
    ·replace h := ite_f (ndec_t hb226) h
     refine aw_region (xm Z Z Z (xm Z Z Z (xm Z Z Z ?_)))
     obtain ⟨c223, h⟩ := need_of h
     refine xa (.vptr [.str (ix l s208.i).Member, .i (ix l s208.i).Score]) Z (pu_indexAddrM Z underlying24 sizeOf40 (tm Z) (tm Z) c223 Z) (xc Z (op_loadVN Z isAgg40 sizeOf40 (tm Z) (nb Z) Z (xc Z (op_buildSlice (xs := ([(ix l s208.i)] : List api.Scored).map api.Scored.av) (aparts := [(0, .agg [.str (ix l s208.i).Member, .i (ix l s208.i).Score])]) Z underlying24 sizeOf40 zeroValue40 (by decide) (by decide) ⟨Z, (tm Z), trivial⟩ Z Z Z ?_))))
     obtain ⟨c224, h⟩ := need_of h
     refine xc Z (op_appendOM (q := 0) Z underlying24 underlying24 (.inl Z) typeInfo40 Z Z Z (by decide) (tm Z) Z (given_sl (tm Z)) c224 ?_)
     intro t225
     refine xm Z Z Z (xe ?_)
     obtain rfl := some_of h
     exact ⟨t225, Weak.mkL [0] (by decide) ⟨⟨_, Z, Z⟩, trivial⟩ ⟨tm Z, tm Z, (AEv.le (tm Z) vr), tm Z, trivial⟩⟩
    ·replace h := ite_t (ndec_f hb226) h
     refine aw_skip ?_
     obtain rfl := some_of h
     exact ⟨n209, Weak.mkL [0] (by decide) ⟨⟨_, Z, Z⟩, trivial⟩ ⟨tm Z, tm Z, tm Z, tm Z, trivial⟩⟩
   ·intro n219
    have h := h220
    refine aw_region (xm Z Z Z (xa (.i (IntKind.wrap .i64 (s208.i + 1))) Z (pu_int (v := .i (IntKind.wrap .i64 (s208.i + 1))) Z Z (tm Z) (AEv.int _ _) Z) (xm Z Z Z (xe ?_))))
    obtain rfl := some_of h
    exact ⟨_, n219, Z, Weak.mkL [0] (by decide) ⟨⟨_, Z, Z⟩, trivial⟩ ⟨tm Z, tm Z, tm Z, (AEv.le (tm Z) vr), trivial⟩⟩
  ·replace h := ite_f (dec_f hb227) h
   refine aw_exit ?_
   obtain rfl := some_of h
   have h := congrArg some (hx210 _ rfl)
   obtain rfl := some_of h
   exact ⟨n209, Weak.mkL [0] (by decide) ⟨⟨_, Z, Z⟩, trivial⟩ ⟨tm Z, trivial⟩⟩
 ·intro n171
  have h := h172
  refine xr (xm Z Z Z (xm Z Z Z (xe (aw_ret ?_))))
  obtain rfl := some_of h
  exact ⟨[.sl (.own n171) 2 (s170.map api.Scored.av)], _, [(n171, .spare)], ⟨(tm Z), trivial⟩, vr, Weak.mkL [0] (by decide) ⟨⟨_, Z, Z⟩, trivial⟩ trivial, ⟨n171, Z, Z⟩⟩

theorem mewsref10.Rank.ok {l : List api.Scored} {x_ : api.Scored} {r : Int} (h : mewsref10.Rank l x_ = some r) : Go.Lift.Spec prog 91 [.sl .no 2 (l.map api.Scored.av), .agg [.str x_.Member, .i x_.Score]] [] (fun v H => v = .i r ∧ H = []) := by
 unfold mewsref10.Rank at h
 refine Go.Lift.Spec.of_body (rs := [.tmp 4]) func91 Z Z (nb Z) Z (xr (xc Z (op_box (cs := [.str x_.Member, .i x_.Score]) (v := .agg [.str x_.Member, .i x_.Score]) Z (tm Z) Z Z ?_)))
 intro p36
 refine xa (.i 0) Z (pu_assign Z (AEv.int _ _)) (xe ?_)
 obtain ⟨s70, s70e, h53⟩ := bind_some h
 refine aw_join (σ := Unit) (ν := Unit) (fun u v => []) (fun u v => []) (fun u => s70 = .inl u) ?_ ?_
 ·intro s52
  intro _
  rintro rfl
  have h := onSum_inl h53
  refine xr (xa (.i (-1)) Z (pu_assign Z (AEv.int _ _)) (xe (aw_ret ?_)))
  obtain rfl := some_of h
  exact ⟨[.i (-1)], _, [], ⟨(tm Z), trivial⟩, vr, Weak.mkL [] (by decide) trivial trivial, ⟨Z, Z⟩⟩
 ·have h := s70e
  refine xr (xa (.i 0) Z (pu_assign Z (AEv.int _ _)) (xe (aw_block (aw_while (σ := mewsref10.Rank.S0) (ν := Unit) (mewsref10.Rank.body0 l x_) (fun s63 v => [(0, .sl .no 2 (l.map api.Scored.av)), (3, .ptr p36 0), (5, .i s63.i)]) (fun s63 v => [(p36, .cells [.str x_.Member, .i x_.Score])]) ⟨0⟩ () _ h (Weak.mkL [0] (by decide) ⟨⟨_, Z, cr, Z⟩, trivial⟩ ⟨tm Z, tm Z, tm Z, trivial⟩) ?_))))
  rintro s63 _ x65 h hx64
  unfold mewsref10.Rank.body0 at h
  refine aw_seq (xr (xm Z Z Z (xm Z Z Z (xa (.i (l.length : Int)) Z (pu_lenM Z underlying24 (tm Z)) (xa (.bool (decide (s63.i < (l.length : Int)))) Z (pu_int (v := .bool (decide (s63.i < (l.length : Int)))) Z Z (tm Z) (tm Z) Z) (xe (aw_cond (b := decide (s63.i < (l.length : Int))) (tm Z) (fun hb69 => ?_) (fun hb69 => ?_))))))))
  ·replace h := ite_t (dec_t hb69) h
   refine aw_skip (aw_seq (aw_block (aw_seq ?_)))
   obtain ⟨c67, h⟩ := need_of h
   refine aw_planR (by decide +kernel) [[], [], [], [], [(0, 0, false)], []] [[]] [[[(p36, .cells [.str x_.Member, .i x_.Score])]]] [.sl .no 2 (l.map api.Scored.av), .i s63.i, .vptr [.str (ix l s63.i).Member, .i (ix l s63.i).Score], .agg [.str (ix l s63.i).Member, .i (ix l s63.i).Score], .agg [.str x_.Member, .i x_.Score], .bool (decide ((ix l s63.i) = x_))] (by decide +kernel) Z Z ?_ ?_
   ·exact ⟨ym Z Z Z, ym Z Z Z, yp Z (pu_indexAddrM Z underlying24 sizeOf40 (tm Z) (tm Z) c67 Z), stepg_plain Z (op_loadVN Z isAgg40 sizeOf40 (tm Z) (nb Z) Z ⟨Z, Z⟩), stepg_plain Z (op_loadN (i := 0) Z isAgg40 sizeOf40 (tm Z) Z (nb Z) Z ⟨Z, Z⟩), yp Z (APure.eq (pu_structEq (b := (decide ((ix l s63.i).Member = x_.Member) && (decide ((ix l s63.i).Score = x_.Score) && true))) Z underlying40 (by kernel_rfl) (by kernel_rfl) (tm Z) (tm Z) ⟨_, _, _, _, ⟨by decide, isAgg9, Z, Z, CEq.str underlying9⟩, ⟨_, _, _, _, ⟨by decide, isAgg2, Z, Z, CEq.int underlying2⟩, Z, Z⟩, Z⟩) (congrArg AV.bool (api.Scored.eq_iff (ix l s63.i) x_).symm)), trivial⟩
   refine aw_cond (b := decide ((ix l s63.i) = x_)) (tm Z) (fun hb68 => ?_) (fun hb68 => ?_)
   ·replace h := ite_t (dec_t hb68) h
    refine xr (xm Z Z Z (xm Z Z Z (xe (aw_ret ?_))))
    obtain rfl := some_of h
    have h := congrArg some (hx64 _ rfl)
    obtain rfl := some_of h
    have h := onSum_inr h53
    obtain rfl := some_of h
    exact ⟨[.i s63.i], _, [], ⟨(tm Z), trivial⟩, vr, Weak.mkL [] (by decide) trivial trivial, ⟨Z, Z⟩⟩
   ·replace h := ite_f (dec_f hb68) h
    refine aw_skip (aw_region (xm Z Z Z (xa (.i (IntKind.wrap .i64 (s63.i + 1))) Z (pu_int (v := .i (IntKind.wrap .i64 (s63.i + 1))) Z Z (tm Z) (AEv.int _ _) Z) (xm Z Z Z (xe ?_)))))
    obtain rfl := some_of h
    exact ⟨_, (), Z, Weak.mkL [0] (by decide) ⟨⟨_, Z, cr, Z⟩, trivial⟩ ⟨tm Z, tm Z, (AEv.le (tm Z) vr), trivial⟩⟩
  ·replace h := ite_f (dec_f hb69) h
   refine aw_exit ?_
   obtain rfl := some_of h
   have h := congrArg some (hx64 _ rfl)
   exact ⟨(), (), (some_of h).symm, Weak.mkL [] (by decide) trivial trivial⟩

theorem mewsref10.Less.ok {a : api.Scored} {b : api.Scored} {r : Bool} (h : mewsref10.Less a b = some r) : Go.Lift.Spec prog 104 [.agg [.str a.Member, .i a.Score], .agg [.str b.Member, .i b.Score]] [] (fun v H => v = .bool r ∧ H = []) := by
 unfold mewsref10.Less at h
 refine Go.Lift.Spec.of_body (rs := [.tmp 4]) func104 Z Z (nb Z) Z (xr (xc Z (op_box (cs := [.str a.Member, .i a.Score]) (v := .agg [.str a.Member, .i a.Score]) Z (tm Z) Z Z ?_)))
 intro p4
 refine xc Z (op_box (cs := [.str b.Member, .i b.Score]) (v := .agg [.str b.Member, .i b.Score]) Z (tm Z) Z Z ?_)
 intro p5
 refine xa (.bool false) Z (pu_assign Z (AEv.bool _)) (xe (aw_seq (xr (xa (.ptr p4 1) Z (fa Z underlying40 Z sizeOf2 Z Z Z) (xc Z (op_load1 (i := 1) Z isAgg2 (tm Z) Z Z (xa (.ptr p5 1) Z (fa Z underlying40 Z sizeOf2 Z Z Z) (xc Z (op_load1 (i := 0) Z isAgg2 (tm Z) Z Z (xa (.bool (!decide (a.Score = b.Score))) Z (pu_int (v := .bool (!decide (a.Score = b.Score))) Z Z (tm Z) (tm Z) Z) ?_))))))))))
 refine xe (aw_cond (b := (!decide (a.Score = b.Score))) (tm Z) (fun hb6 => ?_) (fun hb6 => ?_))
 ·replace h := ite_f (ndec_t hb6) h
  refine xr (xa (.ptr p4 1) Z (fa Z underlying40 Z sizeOf2 Z Z Z) (xc Z (op_load1 (i := 1) Z isAgg2 (tm Z) Z Z (xa (.ptr p5 1) Z (fa Z underlying40 Z sizeOf2 Z Z Z) (xc Z (op_load1 (i := 0) Z isAgg2 (tm Z) Z Z (xa (.bool (decide (a.Score < b.Score))) Z (pu_int (v := .bool (decide (a.Score < b.Score))) Z Z (tm Z) (tm Z) Z) (xm Z Z Z (xe (aw_ret ?_))))))))))
  obtain rfl := some_of h
  exact ⟨[.bool (decide (a.Score < b.Score))], _, [], ⟨(tm Z), trivial⟩, vr, Weak.mkL [] (by decide) trivial trivial, ⟨Z, Z⟩⟩
 ·replace h := ite_t (ndec_f hb6) h
  refine aw_skip (xr (xa (.ptr p4 0) Z (fa Z underlying40 Z sizeOf9 Z Z Z) (xc Z (op_load1 (i := 1) Z isAgg9 (tm Z) Z Z (xa (.ptr p5 0) Z (fa Z underlying40 Z sizeOf9 Z Z Z) (xc Z (op_load1 (i := 0) Z isAgg9 (tm Z) Z Z (xa (.bool (strLt a.Member b.Member)) Z (pu_str (v := .bool (strLt a.Member b.Member)) Z Z (tm Z) (tm Z) Z) (xm Z Z Z (xe ?_))))))))))
  refine aw_ret ?_
  obtain rfl := some_of h
  exact ⟨[.bool (strLt a.Member b.Member)], _, [], ⟨(tm Z), trivial⟩, vr, Weak.mkL [] (by decide) trivial trivial, ⟨Z, Z⟩⟩

theorem mewsref10.Ahead.ok {l : List api.Scored} {x_ : api.Scored} {r : Int} (h : mewsref10.Ahead l x_ = some r) : Go.Lift.Spec prog 92 [.sl .no 2 (l.map api.Scored.av), .agg [.str x_.Member, .i x_.Score]] [] (fun v H => v = .i r ∧ H = []) := by
 unfold mewsref10.Ahead at h
 refine Go.Lift.Spec.of_body (rs := [.tmp 4]) func92 Z Z (nb Z) Z (xr (xc Z (op_box (cs := [.str x_.Member, .i x_.Score]) (v := .agg [.str x_.Member, .i x_.Score]) Z (tm Z) Z Z ?_)))
 intro p77
 refine xa (.i 0) Z (pu_assign Z (AEv.int _ _)) (xe (xr (xa (.i 0) Z (pu_assign Z (AEv.int _ _)) (xe ?_))))
 obtain ⟨s114, s114e, h115⟩ := bind_some h
 refine aw_meet (ν := Unit) (fun v => [(5, .i s114)]) (fun v => []) ?_ ?_
 ·have h := s114e
  refine xr (xa (.i 0) Z (pu_assign Z (AEv.int _ _)) (xe (aw_block (aw_while (σ := mewsref10.Ahead.S0) (ν := Unit) (mewsref10.Ahead.body0 l x_) (fun s139 v => [(0, .sl .no 2 (l.map api.Scored.av)), (3, .ptr p77 0), (5, .i s139.n), (6, .i s139.i)]) (fun s139 v => [(p77, .cells [.str x_.Member, .i x_.Score])]) ⟨0, 0⟩ () _ h (Weak.mkL [0] (by decide) ⟨⟨_, Z, cr, Z⟩, trivial⟩ ⟨tm Z, tm Z, tm Z, tm Z, trivial⟩) ?_))))
  rintro s139 _ x141 h hx140
  unfold mewsref10.Ahead.body0 at h
  refine aw_seq (xr (xm Z Z Z (xm Z Z Z (xa (.i (l.length : Int)) Z (pu_lenM Z underlying24 (tm Z)) (xa (.bool (decide (s139.i < (l.length : Int)))) Z (pu_int (v := .bool (decide (s139.i < (l.length : Int)))) Z Z (tm Z) (tm Z) Z) (xe (aw_cond (b := decide (s139.i < (l.length : Int))) (tm Z) (fun hb152 => ?_) (fun hb152 => ?_))))))))
  ·replace h := ite_t (dec_t hb152) h
   refine aw_skip ?_
   obtain ⟨s146, s146e, h147⟩ := bind_some h
   refine aw_meet (ν := Unit) (fun v => [(0, .sl .no 2 (l.map api.Scored.av)), (3, .ptr p77 0), (5, .i s146), (6, .i s139.i)]) (fun v => [(p77, .cells [.str x_.Member, .i x_.Score])]) ?_ ?_
   ·have h := s146e
    refine aw_block (aw_seq ?_)
    obtain ⟨c149, h⟩ := need_of h
    obtain ⟨r150, r150e, h⟩ := bind_some h
    refine aw_planR (by decide +kernel) [[], [], [], [], [(0, 0, false)], []] [[]] [[[(p77, .cells [.str x_.Member, .i x_.Score])]]] [.sl .no 2 (l.map api.Scored.av), .i s139.i, .vptr [.str (ix l s139.i).Member, .i (ix l s139.i).Score], .agg [.str (ix l s139.i).Member, .i (ix l s139.i).Score], .agg [.str x_.Member, .i x_.Score], .bool r150] (by decide +kernel) Z Z ?_ ?_
    ·exact ⟨ym Z Z Z, ym Z Z Z, yp Z (pu_indexAddrM Z underlying24 sizeOf40 (tm Z) (tm Z) c149 Z), stepg_plain Z (op_loadVN Z isAgg40 sizeOf40 (tm Z) (nb Z) Z ⟨Z, Z⟩), stepg_plain Z (op_loadN (i := 0) Z isAgg40 sizeOf40 (tm Z) Z (nb Z) Z ⟨Z, Z⟩), stepg_plain Z (op_call (vs := [.agg [.str (ix l s139.i).Member, .i (ix l s139.i).Score], .agg [.str x_.Member, .i x_.Score]]) (H := []) Z call104 ⟨(tm Z), (tm Z), trivial⟩ (R := []) (List.Perm.refl _) (mewsref10.Less.ok r150e) (by rintro _ _ ⟨rfl, rfl⟩; exact ⟨Z, Z⟩)), trivial⟩
    refine aw_cond (b := r150) (tm Z) (fun hb151 => ?_) (fun hb151 => ?_)
    ·replace h := ite_t hb151 h
     refine aw_region (xm Z Z Z (xa (.i (IntKind.wrap .i64 (s139.n + 1))) Z (pu_int (v := .i (IntKind.wrap .i64 (s139.n + 1))) Z Z (tm Z) (AEv.int _ _) Z) (xm Z Z Z (xe ?_))))
     obtain rfl := some_of h
     exact ⟨(), Weak.mkL [0] (by decide) ⟨⟨_, Z, cr, Z⟩, trivial⟩ ⟨tm Z, tm Z, (AEv.le (tm Z) vr), tm Z, trivial⟩⟩
    ·replace h := ite_fb hb151 h
     refine aw_skip ?_
     obtain rfl := some_of h
     exact ⟨(), Weak.mkL [0] (by decide) ⟨⟨_, Z, cr, Z⟩, trivial⟩ ⟨tm Z, tm Z, tm Z, tm Z, trivial⟩⟩
   ·intro _
    have h := h147
    refine aw_region (xm Z Z Z (xa (.i (IntKind.wrap .i64 (s139.i + 1))) Z (pu_int (v := .i (IntKind.wrap .i64 (s139.i + 1))) Z Z (tm Z) (AEv.int _ _) Z) (xm Z Z Z (xe ?_))))
    obtain rfl := some_of h
    exact ⟨_, (), Z, Weak.mkL [0] (by decide) ⟨⟨_, Z, cr, Z⟩, trivial⟩ ⟨tm Z, tm Z, tm Z, (AEv.le (tm Z) vr), trivial⟩⟩
  ·replace h := ite_f (dec_f hb152) h
   refine aw_exit ?_
   obtain rfl := some_of h
   have h := congrArg some (hx140 _ rfl)
   obtain rfl := some_of h
   exact ⟨(), Weak.mkL [] (by decide) trivial ⟨tm Z, trivial⟩⟩
 ·intro _
  have h := h115
  refine xr (xm Z Z Z (xm Z Z Z (xe (aw_ret ?_))))
  obtain rfl := some_of h
  exact ⟨[.i s114], _, [], ⟨(tm Z), trivial⟩, vr, Weak.mkL [] (by decide) trivial trivial, ⟨Z, Z⟩⟩

theorem mewsref10.Put.ok {l : List api.Scored} {x_ : api.Scored} {r : (List api.Scored) × Bool} (h : mewsref10.Put l x_ = some r) : Go.Lift.Spec prog 66 [.sl .no 2 (l.map api.Scored.av), .agg [.str x_.Member, .i x_.Score]] [] (fun v H => v = .tup [.sl .no 2 (r.1.map api.Scored.av), .bool r.2] ∧ H = []) := by
 unfold mewsref10.Put at h
 refine Go.Lift.Spec.of_body (rs := [.tmp 4, .tmp 5]) func66 Z Z (nb Z) Z (xr (xc Z (op_box (cs := [.str x_.Member, .i x_.Score]) (v := .agg [.str x_.Member, .i x_.Score]) Z (tm Z) Z Z ?_)))
 intro p13
 refine xa (.sl .full 2 (([] : List api.Scored).map api.Scored.av)) Z (pu_assign Z (AEv.nil 2 (by decide))) (xa (.bool false) Z (pu_assign Z (AEv.bool _)) (xe (aw_seq (xr (xm Z Z Z (xc Z (op_loadN (i := 0) Z isAgg40 sizeOf40 (tm Z) Z (nb Z) Z ?_)))))))
 obtain ⟨r14, r14e, h⟩ := bind_some h
 refine xc Z (op_call (vs := [.sl .no 2 (l.map api.Scored.av), .agg [.str x_.Member, .i x_.Score]]) (H := []) Z call91 ⟨(tm Z), (tm Z), trivial⟩ (List.Perm.refl _) (mewsref10.Rank.ok r14e) ?_)
 rintro _ _ ⟨rfl, rfl⟩
 refine xa (.bool (decide (0 ≤ r14))) Z (pu_int (v := .bool (decide (0 ≤ r14))) Z Z (tm Z) (AEv.int _ _) Z) (xe (aw_cond (b := decide (0 ≤ r14)) (tm Z) (fun hb24 => ?_) (fun hb24 => ?_)))
 ·replace h := ite_t (dec_t hb24) h
  refine xr (xm Z Z Z (xm Z Z Z (xa (.bool false) Z (pu_assign Z (AEv.bool _)) (xe (aw_ret ?_)))))
  obtain rfl := some_of h
  exact ⟨[.sl .no 2 (l.map api.Scored.av), .bool false], _, [], ⟨(tm Z), (tm Z), trivial⟩, vr, Weak.mkL [] (by decide) trivial trivial, ⟨Z, Z⟩⟩
 ·replace h := ite_f (dec_f hb24) h
  refine aw_skip (xr (xm Z Z Z (xc Z (op_loadN (i := 0) Z isAgg40 sizeOf40 (tm Z) Z (nb Z) Z ?_))))
  obtain ⟨r15, r15e, h⟩ := bind_some h
  refine xc Z (op_call (vs := [.sl .no 2 (l.map api.Scored.av), .agg [.str x_.Member, .i x_.Score]]) (H := []) Z call92 ⟨(tm Z), (tm Z), trivial⟩ (List.Perm.refl _) (mewsref10.Ahead.ok r15e) ?_)
  rintro _ _ ⟨rfl, rfl⟩
  refine xm Z Z Z (xe (xr (xm Z Z Z (xm Z Z Z ?_))))
  obtain ⟨c16, h⟩ := need_of h
  refine xa (.sl .no 2 ((sub l 0 r15).map api.Scored.av)) Z (pu_sliceM Z underlying24 sizeOf40 (tm Z) Z ⟨_, (tm Z)⟩ c16) ?_
  obtain ⟨c17, h⟩ := need_of h
  refine xc Z (op_appendFM Z underlying24 underlying24 (.inl Z) typeInfo40 Z Z Z (by decide) (AEv.nil 2 (by decide)) (given_sl (tm Z)) c17 ?_)
  intro t18
  refine xm Z Z Z (xe (xr (xm Z Z Z (xc Z (op_loadN (i := 1) Z isAgg40 sizeOf40 (tm Z) Z (nb Z) Z (xc Z (op_buildSlice (xs := ([x_] : List api.Scored).map api.Scored.av) (aparts := [(0, .agg [.str x_.Member, .i x_.Score])]) Z underlying24 sizeOf40 zeroValue40 (by decide) (by decide) ⟨Z, (tm Z), trivial⟩ Z Z Z ?_)))))))
  obtain ⟨c19, h⟩ := need_of h
  refine xc Z (op_appendOM (q := 0) Z underlying24 underlying24 (.inl Z) typeInfo40 Z Z Z (by decide) (tm Z) Z (given_sl (tm Z)) c19 ?_)
  intro t20
  refine xm Z Z Z (xe (xr (xm Z Z Z (xm Z Z Z (xm Z Z Z ?_)))))
  obtain ⟨c21, h⟩ := need_of h
  refine xa (.sl .no 2 ((sub l r15 (l.length : Int)).map api.Scored.av)) Z (pu_sliceM Z underlying24 sizeOf40 (tm Z) ⟨_, (tm Z)⟩ Z c21) ?_
  obtain ⟨c22, h⟩ := need_of h
  refine xc Z (op_appendOM (q := 0) Z underlying24 underlying24 (.inl Z) typeInfo40 Z Z Z (by decide) (tm Z) Z (given_sl (tm Z)) c22 ?_)
  intro t23
  refine xm Z Z Z (xa (.bool true) Z (pu_assign Z (AEv.bool _)) (xe (aw_ret ?_)))
  obtain rfl := some_of h
  exact ⟨[.sl .no 2 ((((([] : List api.Scored) ++ (sub l 0 r15)) ++ [x_]) ++ (sub l r15 (l.length : Int))).map api.Scored.av), .bool true], _, [], ⟨(AEv.le (tm Z) (AV.Le.forget _ _ _)), (tm Z), trivial⟩, vr, Weak.mkL [] (by decide) trivial trivial, ⟨Z, Z⟩⟩

theorem mewsref19.Score.ok {l : List api.Scored} {x_ : api.Scored} {r : List api.Scored} (h : mewsref19.Score l x_ = some r) : Go.Lift.Spec prog 59 [.sl .no 2 (l.map api.Scored.av), .agg [.str x_.Member, .i x_.Score]] [] (fun v H => v = .sl .no 2 (r.map api.Scored.av) ∧ H = []) := by
 unfold mewsref19.Score at h
 refine Go.Lift.Spec.of_body (rs := [.tmp 4]) func59 Z Z (nb Z) Z (xr (xc Z (op_box (cs := [.str x_.Member, .i x_.Score]) (v := .agg [.str x_.Member, .i x_.Score]) Z (tm Z) Z Z ?_)))
 intro p5
 refine xa (.sl .full 2 (([] : List api.Scored).map api.Scored.av)) Z (pu_assign Z (AEv.nil 2 (by decide))) (xe (aw_seq ?_))
 obtain ⟨r6, r6e, h⟩ := bind_some h
 obtain ⟨r8, r8e, h⟩ := bind_some h
 refine aw_reserve fun p7 => (aw_planR (by decide +kernel) [[], [], [(1, 0, false)], [(0, 0, true)], [(1, 0, false)], [], [], [], [], [], []] [[3], []] [[[(p7, .resv)], [(p7, .spare)]], [[(p5, .cells [.str x_.Member, .i x_.Score])]]] [.sl .no 2 (l.map api.Scored.av), .ptr p5 0, .str x_.Member, .sl (.own p7) 2 (r6.map api.Scored.av), .agg [.str x_.Member, .i x_.Score], .tup [.sl .no 2 (r8.1.map api.Scored.av), .bool r8.2], .tup [.sl .no 2 (r8.1.map api.Scored.av), .bool r8.2], .sl .no 2 (r8.1.map api.Scored.av), .bool r8.2, .sl .no 2 (r8.1.map api.Scored.av), .bool r8.2] (by decide +kernel) Z Z ?_ ?_)
 ·exact ⟨ym Z Z Z, yp Z (fa Z underlying40 Z sizeOf9 Z Z Z), stepg_plain Z (op_load1 (i := 0) Z isAgg9 (tm Z) Z Z ⟨Z, Z⟩), stepg_plain Z (aop_settleS (op_call (vs := [.sl .no 2 (l.map api.Scored.av), .str x_.Member]) (H := []) (R := [(p7, .resv)]) Z call67 ⟨(tm Z), (tm Z), trivial⟩ (List.Perm.refl _) (mewsref19.Out.ok r6e) (by rintro _ _ ⟨t, rfl, rfl⟩; exact ⟨t, Z, Z⟩)) ⟨Z, Z⟩), stepg_plain Z (op_loadN (i := 0) Z isAgg40 sizeOf40 (tm Z) Z (nb Z) Z ⟨Z, Z⟩), stepg_plain Z (op_call (vs := [.sl .no 2 (r6.map api.Scored.av), .agg [.str x_.Member, .i x_.Score]]) (H := []) Z call66 ⟨(AEv.le (tm Z) (AV.Le.forget _ _ _)), (tm Z), trivial⟩ (R := []) (List.Perm.refl _) (mewsref10.Put.ok r8e) (by rintro _ _ ⟨rfl, rfl⟩; exact ⟨Z, Z⟩)), ym Z Z Z, yp Z (pu_extract Z (tm Z) (nb Z) Z), yp Z (pu_extract Z (tm Z) (nb Z) Z), ym Z Z Z, ym Z Z Z, trivial⟩
 refine xr (xm Z Z Z (xm Z Z Z (xe (aw_ret ?_))))
 obtain rfl := some_of h
 exact ⟨[.sl .no 2 (r8.1.map api.Scored.av)], _, [], ⟨(tm Z), trivial⟩, vr, Weak.mkL [] (by decide) trivial trivial, ⟨Z, Z⟩⟩

theorem mewsref19.ZSet.ok {l : List api.Scored} {r : api.Value} (h : mewsref19.ZSet l = some r) : Go.Lift.Spec prog 31 [.sl .no 2 (l.map api.Scored.av)] [] (fun v H => v = .agg (api.Value.ct .full .full .no ({ Kind := r.Kind, Text := r.Text, List_ := r.List_, Hash := r.Hash, ZSet := r.ZSet } : api.Value)) ∧ H = []) := by
 unfold mewsref19.ZSet at h
 refine Go.Lift.Spec.of_body (rs := [.cell 2 26]) func31 Z Z (nb Z) Z (xr (xc Z (op_alloc (cs := (api.Value.ct .full .full .full ({ Kind := 0, Text := ([] : List UInt8), List_ := ([] : List (List UInt8)), Hash := ([] : List api.Field), ZSet := ([] : List api.Scored) } : api.Value))) (v := .agg (api.Value.ct .full .full .full ({ Kind := 0, Text := ([] : List UInt8), List_ := ([] : List (List UInt8)), Hash := ([] : List api.Field), ZSet := ([] : List api.Scored) } : api.Value))) Z zeroValue26 Z Z Z ?_)))
 intro p37
 refine xe (aw_seq (xr (xm Z Z Z (xa (.i (l.length : Int)) Z (pu_lenM Z underlying24 (tm Z)) (xa (.bool (decide ((l.length : Int) = 0))) Z (pu_int (v := .bool (decide ((l.length : Int) = 0))) Z Z (tm Z) (AEv.int _ _) Z) (xe (aw_cond (b := decide ((l.length : Int) = 0)) (tm Z) (fun hb72 => ?_) (fun hb72 => ?_))))))))
 ·replace h := ite_t (dec_t hb72) h
  refine xr (xa (.agg (api.Value.ct .full .full .full ({ Kind := 0, Text := ([] : List UInt8), List_ := ([] : List (List UInt8)), Hash := ([] : List api.Field), ZSet := ([] : List api.Scored) } : api.Value))) Z (pu_build (zs := [.i 0, .str ([] : List UInt8), .sl .full 1 (([] : List (List UInt8)).map AV.str), .sl .full 2 (([] : List api.Field).map api.Field.av), .sl .full 2 (([] : List api.Scored).map api.Scored.av)]) (szs := [1, 1, 1, 1, 1]) (aparts := []) (cs := [.i 0, .str ([] : List UInt8), .sl .full 1 (([] : List (List UInt8)).map AV.str), .sl .full 2 (([] : List api.Field).map api.Field.av), .sl .full 2 (([] : List api.Scored).map api.Scored.av)]) Z underlying26 zeroValue26 Z ⟨sizeOf3, sizeOf9, sizeOf22, sizeOf23, sizeOf24, trivial⟩ trivial Z) (ac0 Z Z (op_store (i := 0) (cs' := (api.Value.ct .full .full .full ({ Kind := 0, Text := ([] : List UInt8), List_ := ([] : List (List UInt8)), Hash := ([] : List api.Field), ZSet := ([] : List api.Scored) } : api.Value))) Z sizeOf26 (tm Z) (v := .agg (api.Value.ct .full .full .full ({ Kind := 0, Text := ([] : List UInt8), List_ := ([] : List (List UInt8)), Hash := ([] : List api.Field), ZSet := ([] : List api.Scored) } : api.Value))) (tm Z) Z Z Z (nb Z) Z (xe (aw_ret ?_)))))
  obtain rfl := some_of h
  exact ⟨[.agg (api.Value.ct .full .full .full ({ Kind := 0, Text := ([] : List UInt8), List_ := ([] : List (List UInt8)), Hash := ([] : List api.Field), ZSet := ([] : List api.Scored) } : api.Value))], .agg (api.Value.ct .full .full .no ({ Kind := 0, Text := ([] : List UInt8), List_ := ([] : List (List UInt8)), Hash := ([] : List api.Field), ZSet := ([] : List api.Scored) } : api.Value)), [], ⟨(CellOk.agg 0 (tm Z) Z isAgg26 sizeOf26 (nb Z) Z), trivial⟩, (AV.Le.agg ⟨vr, vr, vr, vr, (AV.Le.forget _ _ _), trivial⟩), Weak.mkL [] (by decide) trivial trivial, ⟨Z, Z⟩⟩
 ·replace h := ite_f (dec_f hb72) h
  refine aw_skip (xr (xa (.agg (api.Value.ct .full .full .full ({ Kind := 5, Text := ([] : List UInt8), List_ := ([] : List (List UInt8)), Hash := ([] : List api.Field), ZSet := ([] : List api.Scored) } : api.Value))) Z (pu_build (zs := [.i 0, .str ([] : List UInt8), .sl .full 1 (([] : List (List UInt8)).map AV.str), .sl .full 2 (([] : List api.Field).map api.Field.av), .sl .full 2 (([] : List api.Scored).map api.Scored.av)]) (szs := [1, 1, 1, 1, 1]) (aparts := [(0, .i 5)]) (cs := [.i 5, .str ([] : List UInt8), .sl .full 1 (([] : List (List UInt8)).map AV.str), .sl .full 2 (([] : List api.Field).map api.Field.av), .sl .full 2 (([] : List api.Scored).map api.Scored.av)]) Z underlying26 zeroValue26 Z ⟨sizeOf3, sizeOf9, sizeOf22, sizeOf23, sizeOf24, trivial⟩ ⟨Z, (AEv.int _ _), trivial⟩ Z) (xc Z (op_alloc (cs := (api.Value.ct .full .full .full ({ Kind := 0, Text := ([] : List UInt8), List_ := ([] : List (List UInt8)), Hash := ([] : List api.Field), ZSet := ([] : List api.Scored) } : api.Value))) (v := .agg (api.Value.ct .full .full .full ({ Kind := 0, Text := ([] : List UInt8), List_ := ([] : List (List UInt8)), Hash := ([] : List api.Field), ZSet := ([] : List api.Scored) } : api.Value))) Z zeroValue26 Z Z Z ?_))))
  intro p38
  refine ac0 Z Z (op_store (i := 0) (cs' := (api.Value.ct .full .full .full ({ Kind := 5, Text := ([] : List UInt8), List_ := ([] : List (List UInt8)), Hash := ([] : List api.Field), ZSet := ([] : List api.Scored) } : api.Value))) Z sizeOf26 (tm Z) (v := .agg (api.Value.ct .full .full .full ({ Kind := 5, Text := ([] : List UInt8), List_ := ([] : List (List UInt8)), Hash := ([] : List api.Field), ZSet := ([] : List api.Scored) } : api.Value))) (tm Z) Z Z Z (nb Z) Z (xe ?_))
  obtain ⟨s54, s54e, h55⟩ := bind_some h
  refine aw_meet (ν := Unit) (fun v => [(2, .ptr p37 0), (3, .ptr p38 0)]) (fun v => [(p37, .cells (api.Value.ct .full .full .full ({ Kind := 0, Text := ([] : List UInt8), List_ := ([] : List (List UInt8)), Hash := ([] : List api.Field), ZSet := ([] : List api.Scored) } : api.Value))), (p38, .cells (api.Value.ct .full .full .no ({ Kind := 5, Text := ([] : List UInt8), List_ := ([] : List (List UInt8)), Hash := ([] : List api.Field), ZSet := s54 } : api.Value)))]) ?_ ?_
  ·have h := s54e
   refine xr (xa (.i 0) Z (pu_assign Z (AEv.int _ _)) (xe (aw_block (aw_while (σ := mewsref19.ZSet.S0) (ν := Unit) (mewsref19.ZSet.body0 l) (fun s65 v => [(0, .sl .no 2 (l.map api.Scored.av)), (2, .ptr p37 0), (3, .ptr p38 0), (4, .i s65.i)]) (fun s65 v => [(p37, .cells (api.Value.ct .full .full .full ({ Kind := 0, Text := ([] : List UInt8), List_ := ([] : List (List UInt8)), Hash := ([] : List api.Field), ZSet := ([] : List api.Scored) } : api.Value))), (p38, .cells (api.Value.ct .full .full .no ({ Kind := 5, Text := ([] : List UInt8), List_ := ([] : List (List UInt8)), Hash := ([] : List api.Field), ZSet := s65.c } : api.Value)))]) ⟨0, ([] : List api.Scored)⟩ () _ h (Weak.mkL [1, 0] (by decide) ⟨⟨_, Z, cr, Z⟩, ⟨_, Z, ⟨vr, vr, vr, vr, (AV.Le.forget _ _ _), trivial⟩, Z⟩, trivial⟩ ⟨tm Z, tm Z, tm Z, tm Z, trivial⟩) ?_))))
   rintro s65 _ x67 h hx66
   unfold mewsref19.ZSet.body0 at h
   refine aw_seq (xr (xm Z Z Z (xm Z Z Z (xa (.i (l.length : Int)) Z (pu_lenM Z underlying24 (tm Z)) (xa (.bool (decide (s65.i < (l.length : Int)))) Z (pu_int (v := .bool (decide (s65.i < (l.length : Int)))) Z Z (tm Z) (tm Z) Z) (xe (aw_cond (b := decide (s65.i < (l.length : Int))) (tm Z) (fun hb71 => ?_) (fun hb71 => ?_))))))))
   ·replace h := ite_t (dec_t hb71) h
    refine aw_skip (aw_seq (aw_block ?_))
    obtain ⟨c69, h⟩ := need_of h
    obtain ⟨r70, r70e, h⟩ := bind_some h
    refine aw_planR (by decide +kernel) [[], [(1, 0, false)], [], [], [], [], [], [], [(1, 0, true)]] [[], [8]] [[[(p37, .cells (api.Value.ct .full .full .full ({ Kind := 0, Text := ([] : List UInt8), List_ := ([] : List (List UInt8)), Hash := ([] : List api.Field), ZSet := ([] : List api.Scored) } : api.Value)))]], [[(p38, .cells (api.Value.ct .full .full .no ({ Kind := 5, Text := ([] : List UInt8), List_ := ([] : List (List UInt8)), Hash := ([] : List api.Field), ZSet := s65.c } : api.Value)))], [(p38, .cells (api.Value.ct .full .full .no ({ Kind := 5, Text := ([] : List UInt8), List_ := ([] : List (List UInt8)), Hash := ([] : List api.Field), ZSet := r70 } : api.Value)))]]] [.ptr p38 4, .sl .no 2 (s65.c.map api.Scored.av), .sl .no 2 (l.map api.Scored.av), .i s65.i, .vptr [.str (ix l s65.i).Member, .i (ix l s65.i).Score], .agg [.str (ix l s65.i).Member, .i (ix l s65.i).Score], .sl .no 2 (r70.map api.Scored.av), .ptr p38 4, .un] (by decide +kernel) Z Z ?_ ?_
    ·exact ⟨yp Z (fa Z underlying26 Z sizeOf24 Z Z Z), stepg_plain Z (op_load1 (i := 0) Z isAgg24 (tm Z) Z Z ⟨Z, Z⟩), ym Z Z Z, ym Z Z Z, yp Z (pu_indexAddrM Z underlying24 sizeOf40 (tm Z) (tm Z) c69 Z), stepg_plain Z (op_loadVN Z isAgg40 sizeOf40 (tm Z) (nb Z) Z ⟨Z, Z⟩), stepg_plain Z (op_call (vs := [.sl .no 2 (s65.c.map api.Scored.av), .agg [.str (ix l s65.i).Member, .i (ix l s65.i).Score]]) (H := []) Z call59 ⟨(tm Z), (tm Z), trivial⟩ (R := []) (List.Perm.refl _) (mewsref19.Score.ok r70e) (by rintro _ _ ⟨rfl, rfl⟩; exact ⟨Z, Z⟩)), yp Z (fa Z underlying26 Z sizeOf24 Z Z Z), stepg_plain Z (op_store (i := 0) (cs' := (api.Value.ct .full .full .no ({ Kind := 5, Text := ([] : List UInt8), List_ := ([] : List (List UInt8)), Hash := ([] : List api.Field), ZSet := r70 } : api.Value))) Z sizeOf24 (tm Z) (v := .sl .no 2 (r70.map api.Scored.av)) (tm Z) Z Z Z (nb Z) Z ⟨Z, Z⟩), trivial⟩
    refine aw_region (xm Z Z Z (xa (.i (IntKind.wrap .i64 (s65.i + 1))) Z (pu_int (v := .i (IntKind.wrap .i64 (s65.i + 1))) Z Z (tm Z) (AEv.int _ _) Z) (xm Z Z Z (xe ?_))))
    obtain rfl := some_of h
    exact ⟨_, (), Z, Weak.mkL [0, 1] (by decide) ⟨⟨_, Z, cr, Z⟩, ⟨_, Z, cr, Z⟩, trivial⟩ ⟨tm Z, tm Z, tm Z, (AEv.le (tm Z) vr), trivial⟩⟩
   ·replace h := ite_f (dec_f hb71) h
    refine aw_exit ?_
    obtain rfl := some_of h
    have h := congrArg some (hx66 _ rfl)
    obtain rfl := some_of h
    exact ⟨(), Weak.mkL [0, 1] (by decide) ⟨⟨_, Z, cr, Z⟩, ⟨_, Z, cr, Z⟩, trivial⟩ ⟨tm Z, tm Z, trivial⟩⟩
  ·intro _
   have h := h55
   refine xr (xc Z (op_loadN (i := 1) Z isAgg26 sizeOf26 (tm Z) Z (nb Z) Z (ac0 Z Z (op_store (i := 0) (cs' := (api.Value.ct .full .full .no ({ Kind := 5, Text := ([] : List UInt8), List_ := ([] : List (List UInt8)), Hash := ([] : List api.Field), ZSet := s54 } : api.Value))) Z sizeOf26 (tm Z) (v := .agg (api.Value.ct .full .full .no ({ Kind := 5, Text := ([] : List UInt8), List_ := ([] : List (List UInt8)), Hash := ([] : List api.Field), ZSet := s54 } : api.Value))) (tm Z) Z Z Z (nb Z) Z (xe (aw_ret ?_))))))
   obtain rfl := some_of h
   exact ⟨[.agg (api.Value.ct .full .full .no ({ Kind := 5, Text := ([] : List UInt8), List_ := ([] : List (List UInt8)), Hash := ([] : List api.Field), ZSet := s54 } : api.Value))], _, [], ⟨(CellOk.agg 0 (tm Z) Z isAgg26 sizeOf26 (nb Z) Z), trivial⟩, vr, Weak.mkL [] (by decide) trivial trivial, ⟨Z, Z⟩⟩

theorem mewsref19.May.ok {v_ : api.Value} {r : Bool} (h : mewsref19.May v_ = some r) : Go.Lift.Spec prog 9 [.agg (api.Value.ct .no .no .no v_)] [] (fun v H => v = .bool r ∧ H = []) := by
 unfold mewsref19.May at h
 refine Go.Lift.Spec.of_body (rs := [.tmp 2]) func9 Z Z (nb Z) Z (xr (xc Z (op_box (cs := (api.Value.ct .no .no .no v_)) (v := .agg (api.Value.ct .no .no .no v_)) Z (tm Z) Z Z ?_)))
 intro p17
 refine xa (.bool false) Z (pu_assign Z (AEv.bool _)) (xe (aw_seq (xr (xa (.ptr p17 0) Z (fa Z underlying26 Z sizeOf3 Z Z Z) (xc Z (op_load1 (i := 0) Z isAgg3 (tm Z) Z Z (xe (aw_block (aw_seq ?_)))))))))
 refine aw_region (xa (.bool (decide (v_.Kind = 1))) Z (pu_int (v := .bool (decide (v_.Kind = 1))) Z Z (tm Z) (AEv.int _ _) Z) (xm Z Z Z (xe (aw_cond (b := decide (v_.Kind = 1)) (tm Z) (fun hb32 => ?_) (fun hb32 => ?_)))))
 ·replace h := ite_t (dec_t hb32) h
  refine aw_seq ?_
  obtain ⟨r18, r18e, h⟩ := bind_some h
  obtain ⟨r19, r19e, h⟩ := bind_some h
  refine aw_planR (by decide +kernel) [[(0, 0, false)], [], [(0, 0, false)], [], [], []] [[]] [[[(p17, .cells (api.Value.ct .no .no .no v_))]]] [.agg (api.Value.ct .no .no .no v_), .ptr p17 1, .str v_.Text, .agg (api.Value.ct .full .full .full r18), .bool r19, .bool r19] (by decide +kernel) Z Z ?_ ?_
  ·exact ⟨stepg_plain Z (op_loadN (i := 0) Z isAgg26 sizeOf26 (tm Z) Z (nb Z) Z ⟨Z, Z⟩), yp Z (fa Z underlying26 Z sizeOf9 Z Z Z), stepg_plain Z (op_load1 (i := 0) Z isAgg9 (tm Z) Z Z ⟨Z, Z⟩), stepg_plain Z (op_call (vs := [.str v_.Text]) (H := []) Z call27 ⟨(tm Z), trivial⟩ (R := []) (List.Perm.refl _) (mewsref19.Text.ok r18e) (by rintro _ _ ⟨rfl, rfl⟩; exact ⟨Z, Z⟩)), stepg_plain Z (op_call (vs := [.agg (api.Value.ct .no .no .no v_), .agg (api.Value.ct .no .no .no r18)]) (H := []) Z call11 ⟨(tm Z), (AEv.le (tm Z) (AV.Le.agg ⟨vr, vr, (AV.Le.forget _ _ _), (AV.Le.forget _ _ _), (AV.Le.forget _ _ _), trivial⟩)), trivial⟩ (R := []) (List.Perm.refl _) (mewsref19.Same.ok r19e) (by rintro _ _ ⟨rfl, rfl⟩; exact ⟨Z, Z⟩)), ym Z Z Z, trivial⟩
  refine aw_ret ?_
  obtain rfl := some_of h
  exact ⟨[.bool r19], _, [], ⟨(tm Z), trivial⟩, vr, Weak.mkL [] (by decide) trivial trivial, ⟨Z, Z⟩⟩
 ·replace h := ite_f (dec_f hb32) h
  refine xr (xa (.bool (decide (v_.Kind = 2))) Z (pu_int (v := .bool (decide (v_.Kind = 2))) Z Z (tm Z) (AEv.int _ _) Z) (xm Z Z Z (xe (aw_cond (b := decide (v_.Kind = 2)) (tm Z) (fun hb31 => ?_) (fun hb31 => ?_)))))
  ·replace h := ite_t (dec_t hb31) h
   refine aw_seq ?_
   obtain ⟨r20, r20e, h⟩ := bind_some h
   obtain ⟨r21, r21e, h⟩ := bind_some h
   refine aw_planR (by decide +kernel) [[(0, 0, false)], [], [(0, 0, false)], [], [], []] [[]] [[[(p17, .cells (api.Value.ct .no .no .no v_))]]] [.agg (api.Value.ct .no .no .no v_), .ptr p17 2, .sl .no 1 (v_.List_.map AV.str), .agg (api.Value.ct .no .full .full r20), .bool r21, .bool r21] (by decide +kernel) Z Z ?_ ?_
   ·exact ⟨stepg_plain Z (op_loadN (i := 0) Z isAgg26 sizeOf26 (tm Z) Z (nb Z) Z ⟨Z, Z⟩), yp Z (fa Z underlying26 Z sizeOf22 Z Z Z), stepg_plain Z (op_load1 (i := 0) Z isAgg22 (tm Z) Z Z ⟨Z, Z⟩), stepg_plain Z (op_call (vs := [.sl .no 1 (v_.List_.map AV.str)]) (H := []) Z call28 ⟨(tm Z), trivial⟩ (R := []) (List.Perm.refl _) (mewsref19.List_.ok r20e) (by rintro _ _ ⟨rfl, rfl⟩; exact ⟨Z, Z⟩)), stepg_plain Z (op_call (vs := [.agg (api.Value.ct .no .no .no v_), .agg (api.Value.ct .no .no .no r20)]) (H := []) Z call11 ⟨(tm Z), (AEv.le (tm Z) (AV.Le.agg ⟨vr, vr, vr, (AV.Le.forget _ _ _), (AV.Le.forget _ _ _), trivial⟩)), trivial⟩ (R := []) (List.Perm.refl _) (mewsref19.Same.ok r21e) (by rintro _ _ ⟨rfl, rfl⟩; exact ⟨Z, Z⟩)), ym Z Z Z, trivial⟩
   refine aw_ret ?_
   obtain rfl := some_of h
   exact ⟨[.bool r21], _, [], ⟨(tm Z), trivial⟩, vr, Weak.mkL [] (by decide) trivial trivial, ⟨Z, Z⟩⟩
  ·replace h := ite_f (dec_f hb31) h
   refine xr (xa (.bool (decide (v_.Kind = 3))) Z (pu_int (v := .bool (decide (v_.Kind = 3))) Z Z (tm Z) (AEv.int _ _) Z) (xm Z Z Z (xe (aw_cond (b := decide (v_.Kind = 3)) (tm Z) (fun hb30 => ?_) (fun hb30 => ?_)))))
   ·replace h := ite_t (dec_t hb30) h
    refine aw_seq ?_
    obtain ⟨r22, r22e, h⟩ := bind_some h
    obtain ⟨r23, r23e, h⟩ := bind_some h
    refine aw_planR (by decide +kernel) [[(0, 0, false)], [], [(0, 0, false)], [], [], []] [[]] [[[(p17, .cells (api.Value.ct .no .no .no v_))]]] [.agg (api.Value.ct .no .no .no v_), .ptr p17 3, .sl .no 2 (v_.Hash.map api.Field.av), .agg (api.Value.ct .full .no .full r22), .bool r23, .bool r23] (by decide +kernel) Z Z ?_ ?_
    ·exact ⟨stepg_plain Z (op_loadN (i := 0) Z isAgg26 sizeOf26 (tm Z) Z (nb Z) Z ⟨Z, Z⟩), yp Z (fa Z underlying26 Z sizeOf23 Z Z Z), stepg_plain Z (op_load1 (i := 0) Z isAgg23 (tm Z) Z Z ⟨Z, Z⟩), stepg_plain Z (op_call (vs := [.sl .no 2 (v_.Hash.map api.Field.av)]) (H := []) Z call29 ⟨(tm Z), trivial⟩ (R := []) (List.Perm.refl _) (mewsref19.Hash.ok r22e) (by rintro _ _ ⟨rfl, rfl⟩; exact ⟨Z, Z⟩)), stepg_plain Z (op_call (vs := [.agg (api.Value.ct .no .no .no v_), .agg (api.Value.ct .no .no .no r22)]) (H := []) Z call11 ⟨(tm Z), (AEv.le (tm Z) (AV.Le.agg ⟨vr, vr, (AV.Le.forget _ _ _), vr, (AV.Le.forget _ _ _), trivial⟩)), trivial⟩ (R := []) (List.Perm.refl _) (mewsref19.Same.ok r23e) (by rintro _ _ ⟨rfl, rfl⟩; exact ⟨Z, Z⟩)), ym Z Z Z, trivial⟩
    refine aw_ret ?_
    obtain rfl := some_of h
    exact ⟨[.bool r23], _, [], ⟨(tm Z), trivial⟩, vr, Weak.mkL [] (by decide) trivial trivial, ⟨Z, Z⟩⟩
   ·replace h := ite_f (dec_f hb30) h
    refine xr (xa (.bool (decide (v_.Kind = 4))) Z (pu_int (v := .bool (decide (v_.Kind = 4))) Z Z (tm Z) (AEv.int _ _) Z) (xm Z Z Z (xe (aw_cond (b := decide (v_.Kind = 4)) (tm Z) (fun hb29 => ?_) (fun hb29 => ?_)))))
    ·replace h := ite_t (dec_t hb29) h
     refine aw_seq ?_
     obtain ⟨r24, r24e, h⟩ := bind_some h
     obtain ⟨r25, r25e, h⟩ := bind_some h
     refine aw_planR (by decide +kernel) [[(0, 0, false)], [], [(0, 0, false)], [], [], []] [[]] [[[(p17, .cells (api.Value.ct .no .no .no v_))]]] [.agg (api.Value.ct .no .no .no v_), .ptr p17 2, .sl .no 1 (v_.List_.map AV.str), .agg (api.Value.ct .no .full .full r24), .bool r25, .bool r25] (by decide +kernel) Z Z ?_ ?_
     ·exact ⟨stepg_plain Z (op_loadN (i := 0) Z isAgg26 sizeOf26 (tm Z) Z (nb Z) Z ⟨Z, Z⟩), yp Z (fa Z underlying26 Z sizeOf22 Z Z Z), stepg_plain Z (op_load1 (i := 0) Z isAgg22 (tm Z) Z Z ⟨Z, Z⟩), stepg_plain Z (op_call (vs := [.sl .no 1 (v_.List_.map AV.str)]) (H := []) Z call30 ⟨(tm Z), trivial⟩ (R := []) (List.Perm.refl _) (mewsref19.Set.ok r24e) (by rintro _ _ ⟨rfl, rfl⟩; exact ⟨Z, Z⟩)), stepg_plain Z (op_call (vs := [.agg (api.Value.ct .no .no .no v_), .agg (api.Value.ct .no .no .no r24)]) (H := []) Z call11 ⟨(tm Z), (AEv.le (tm Z) (AV.Le.agg ⟨vr, vr, vr, (AV.Le.forget _ _ _), (AV.Le.forget _ _ _), trivial⟩)), trivial⟩ (R := []) (List.Perm.refl _) (mewsref19.Same.ok r25e) (by rintro _ _ ⟨rfl, rfl⟩; exact ⟨Z, Z⟩)), ym Z Z Z, trivial⟩
     refine aw_ret ?_
     obtain rfl := some_of h
     exact ⟨[.bool r25], _, [], ⟨(tm Z), trivial⟩, vr, Weak.mkL [] (by decide) trivial trivial, ⟨Z, Z⟩⟩
    ·replace h := ite_f (dec_f hb29) h
     refine xr (xa (.bool (decide (v_.Kind = 5))) Z (pu_int (v := .bool (decide (v_.Kind = 5))) Z Z (tm Z) (AEv.int _ _) Z) (xm Z Z Z (xe (aw_cond (b := decide (v_.Kind = 5)) (tm Z) (fun hb28 => ?_) (fun hb28 => ?_)))))
     ·replace h := ite_t (dec_t hb28) h
      refine aw_seq ?_
      obtain ⟨r26, r26e, h⟩ := bind_some h
      obtain ⟨r27, r27e, h⟩ := bind_some h
      refine aw_planR (by decide +kernel) [[(0, 0, false)], [], [(0, 0, false)], [], [], []] [[]] [[[(p17, .cells (api.Value.ct .no .no .no v_))]]] [.agg (api.Value.ct .no .no .no v_), .ptr p17 4, .sl .no 2 (v_.ZSet.map api.Scored.av), .agg (api.Value.ct .full .full .no r26), .bool r27, .bool r27] (by decide +kernel) Z Z ?_ ?_
      ·exact ⟨stepg_plain Z (op_loadN (i := 0) Z isAgg26 sizeOf26 (tm Z) Z (nb Z) Z ⟨Z, Z⟩), yp Z (fa Z underlying26 Z sizeOf24 Z Z Z), stepg_plain Z (op_load1 (i := 0) Z isAgg24 (tm Z) Z Z ⟨Z, Z⟩), stepg_plain Z (op_call (vs := [.sl .no 2 (v_.ZSet.map api.Scored.av)]) (H := []) Z call31 ⟨(tm Z), trivial⟩ (R := []) (List.Perm.refl _) (mewsref19.ZSet.ok r26e) (by rintro _ _ ⟨rfl, rfl⟩; exact ⟨Z, Z⟩)), stepg_plain Z (op_call (vs := [.agg (api.Value.ct .no .no .no v_), .agg (api.Value.ct .no .no .no r26)]) (H := []) Z call11 ⟨(tm Z), (AEv.le (tm Z) (AV.Le.agg ⟨vr, vr, (AV.Le.forget _ _ _), (AV.Le.forget _ _ _), vr, trivial⟩)), trivial⟩ (R := []) (List.Perm.refl _) (mewsref19.Same.ok r27e) (by rintro _ _ ⟨rfl, rfl⟩; exact ⟨Z, Z⟩)), ym Z Z Z, trivial⟩
      refine aw_ret ?_
      obtain rfl := some_of h
      exact ⟨[.bool r27], _, [], ⟨(tm Z), trivial⟩, vr, Weak.mkL [] (by decide) trivial trivial, ⟨Z, Z⟩⟩
     ·replace h := ite_f (dec_f hb28) h
      refine aw_skip (xr (xa (.bool false) Z (pu_assign Z (AEv.bool _)) (xe (aw_ret ?_))))
      obtain rfl := some_of h
      exact ⟨[.bool false], _, [], ⟨(tm Z), trivial⟩, vr, Weak.mkL [] (by decide) trivial trivial, ⟨Z, Z⟩⟩

theorem mewsref19.Of.ok {e : api.Entry} {r : Int} (h : mewsref19.Of e = some r) : Go.Lift.Spec prog 13 [.agg (api.Entry.ct .no .no .no e)] [] (fun v H => v = .i r ∧ H = []) := by
 unfold mewsref19.Of at h
 refine Go.Lift.Spec.of_body (rs := [.tmp 2]) func13 Z Z (nb Z) Z (xr (xc Z (op_box (cs := (api.Entry.ct .no .no .no e)) (v := .agg (api.Entry.ct .no .no .no e)) Z (tm Z) Z Z ?_)))
 intro p208
 refine xa (.i 0) Z (pu_assign Z (AEv.int _ _)) (xe (xr (xa (.ptr p208 0) Z (fa Z underlying28 Z sizeOf9 Z Z Z) (xc Z (op_load1 (i := 0) Z isAgg9 (tm Z) Z Z (xa (.i (e.Key.length : Int)) Z (pu_strLen Z underlying9 (tm Z)) (xa (.i (IntKind.wrap .i64 (56 + (e.Key.length : Int)))) Z (pu_int (v := .i (IntKind.wrap .i64 (56 + (e.Key.length : Int)))) Z Z (AEv.int _ _) (tm Z) Z) (xm Z Z Z (xe ?_)))))))))
 obtain ⟨s210, s210e, h211⟩ := letO_of h
 refine aw_meet (ν := Unit) (fun v => [(1, .ptr p208 0), (3, .i s210)]) (fun v => [(p208, .cells (api.Entry.ct .no .no .no e))]) ?_ ?_
 ·have h := s210e.symm
  refine xr (xa (.ptr p208 6) Z (fa Z underlying28 Z sizeOf2 Z Z Z) (xc Z (op_load1 (i := 0) Z isAgg2 (tm Z) Z Z (xa (.bool (!decide (e.At = 0))) Z (pu_int (v := .bool (!decide (e.At = 0))) Z Z (tm Z) (AEv.int _ _) Z) (xe (aw_cond (b := (!decide (e.At = 0))) (tm Z) (fun hb213 => ?_) (fun hb213 => ?_)))))))
  ·replace h := ite_f (ndec_t hb213) h
   refine aw_region (xm Z Z Z (xa (.i (IntKind.wrap .i64 ((IntKind.wrap .i64 (56 + (e.Key.length : Int))) + 16))) Z (pu_int (v := .i (IntKind.wrap .i64 ((IntKind.wrap .i64 (56 + (e.Key.length : Int))) + 16))) Z Z (tm Z) (AEv.int _ _) Z) (xm Z Z Z (xe ?_))))
   subst h
   exact ⟨(), Weak.mkL [0] (by decide) ⟨⟨_, Z, cr, Z⟩, trivial⟩ ⟨tm Z, (AEv.le (tm Z) vr), trivial⟩⟩
  ·replace h := ite_t (ndec_f hb213) h
   refine aw_skip ?_
   subst h
   exact ⟨(), Weak.mkL [0] (by decide) ⟨⟨_, Z, cr, Z⟩, trivial⟩ ⟨tm Z, (AEv.le (tm Z) vr), trivial⟩⟩
 ·intro _
  have h := h211
  refine xr (xa (.ptr p208 1) Z (fa Z underlying28 Z sizeOf26 Z Z Z) (xc Z (op_loadN (i := 0) Z isAgg26 sizeOf26 (tm Z) Z (nb Z) Z (xc Z (op_alloc (cs := (api.Value.ct .full .full .full ({ Kind := 0, Text := ([] : List UInt8), List_ := ([] : List (List UInt8)), Hash := ([] : List api.Field), ZSet := ([] : List api.Scored) } : api.Value))) (v := .agg (api.Value.ct .full .full .full ({ Kind := 0, Text := ([] : List UInt8), List_ := ([] : List (List UInt8)), Hash := ([] : List api.Field), ZSet := ([] : List api.Scored) } : api.Value))) Z zeroValue26 Z Z Z ?_)))))
  intro p214
  refine ac0 Z Z (op_store (i := 0) (cs' := (api.Value.ct .no .no .no e.Val)) Z sizeOf26 (tm Z) (v := .agg (api.Value.ct .no .no .no e.Val)) (tm Z) Z Z Z (nb Z) Z (xe ?_))
  obtain ⟨s251, s251e, h252⟩ := bind_some h
  refine aw_meet (ν := Unit) (fun v => [(3, .i s251), (4, .ptr p214 0)]) (fun v => [(p214, .cells (api.Value.ct .no .no .no e.Val))]) ?_ ?_
  ·have h := s251e
   refine xr (xa (.i 0) Z (pu_assign Z (AEv.int _ _)) (xe (aw_block (aw_while (σ := mewsref19.Of.S0) (ν := Unit) (mewsref19.Of.body0 e) (fun s276 v => [(3, .i s276.n), (4, .ptr p214 0), (5, .i s276.i)]) (fun s276 v => [(p214, .cells (api.Value.ct .no .no .no e.Val))]) ⟨s210, 0⟩ () _ h (Weak.mkL [0] (by decide) ⟨⟨_, Z, cr, Z⟩, trivial⟩ ⟨tm Z, tm Z, tm Z, trivial⟩) ?_))))
   rintro s276 _ x278 h hx277
   unfold mewsref19.Of.body0 at h
   refine aw_seq ?_
   obtain ⟨s282, s282e, h283⟩ := letO_of h
   refine aw_meet (ν := Unit) (fun v => [(3, .i s276.n), (4, .ptr p214 0), (5, .i s276.i), (33, .bool s282)]) (fun v => [(p214, .cells (api.Value.ct .no .no .no e.Val))]) ?_ ?_
   ·have h := s282e.symm
    refine aw_region (xm Z Z Z (xa (.ptr p214 2) Z (fa Z underlying26 Z sizeOf22 Z Z Z) (xc Z (op_load1 (i := 0) Z isAgg22 (tm Z) Z Z (xa (.i (e.Val.List_.length : Int)) Z (pu_lenM Z underlying22 (tm Z)) (xa (.bool (decide (s276.i < (e.Val.List_.length : Int)))) Z (pu_int (v := .bool (decide (s276.i < (e.Val.List_.length : Int)))) Z Z (tm Z) (tm Z) Z) (xm Z Z Z ?_)))))))
    rcases Bool.eq_false_or_eq_true (decide (s276.i < (e.Val.List_.length : Int))) with hb285 | hb285
    ·replace h := ite_t (dec_t hb285) h
     refine aops_known 24 Z hb285 (xp (.ptr p214 0) Z Z (fa Z underlying26 Z sizeOf3 Z Z Z) (xg Z Z (op_load1 (i := 0) Z isAgg3 (tm Z) Z Z (xp (.bool (decide (e.Val.Kind = 2))) Z Z (pu_int (v := .bool (decide (e.Val.Kind = 2))) Z Z (tm Z) (AEv.int _ _) Z) (xq Z Z Z Z ?_)))))
     rcases Bool.eq_false_or_eq_true (decide (e.Val.Kind = 2)) with hb286 | hb286
     ·replace h := ite_t (dec_t hb286) h
      refine aops_known 28 Z hb286 (xn Z Z Z (xn Z Z Z (xn Z Z Z (xp (.bool true) Z Z (pu_pick (b := true) Z (tm Z) (fun _ => (AEv.bool _)) (fun h => nomatch h)) (xa (.bool true) Z (pu_pick (b := true) Z (tm Z) (fun _ => (tm Z)) (fun h => nomatch h)) (xe ?_))))))
      subst h
      exact ⟨(), Weak.mkL [0] (by decide) ⟨⟨_, Z, cr, Z⟩, trivial⟩ ⟨tm Z, tm Z, tm Z, tm Z, trivial⟩⟩
     ·replace h := ite_f (dec_f hb286) h
      refine aops_known 28 Z hb286 (xp (.ptr p214 0) Z Z (fa Z underlying26 Z sizeOf3 Z Z Z) (xg Z Z (op_load1 (i := 0) Z isAgg3 (tm Z) Z Z (xp (.bool (decide (e.Val.Kind = 4))) Z Z (pu_int (v := .bool (decide (e.Val.Kind = 4))) Z Z (tm Z) (AEv.int _ _) Z) (xp (.bool (decide (e.Val.Kind = 4))) Z Z (pu_pick (b := false) Z (tm Z) (fun h => nomatch h) (fun _ => (tm Z))) (xa (.bool (decide (e.Val.Kind = 4))) Z (pu_pick (b := true) Z (tm Z) (fun _ => (tm Z)) (fun h => nomatch h)) (xe ?_)))))))
      subst h
      exact ⟨(), Weak.mkL [0] (by decide) ⟨⟨_, Z, cr, Z⟩, trivial⟩ ⟨tm Z, tm Z, tm Z, (AEv.le (tm Z) vr), trivial⟩⟩
    ·replace h := ite_f (dec_f hb285) h
     refine aops_known 24 Z hb285 (xn Z Z Z (xn Z Z Z (xn Z Z Z (xn Z Z Z (xv Z Z (xv Z Z (xv Z Z (xn Z Z Z (xa (.bool false) Z (pu_pick (b := false) Z (tm Z) (fun h => nomatch h) (fun _ => (AEv.bool _))) ?_)))))))))
     refine xe ?_
     subst h
     exact ⟨(), Weak.mkL [0] (by decide) ⟨⟨_, Z, cr, Z⟩, trivial⟩ ⟨tm Z, tm Z, tm Z, tm Z, trivial⟩⟩
   ·intro _
    have h := h283
    refine aw_cond (b := s282) (tm Z) (fun hb289 => ?_) (fun hb289 => ?_)
    ·replace h := ite_t hb289 h
     refine aw_skip (aw_seq (aw_block ?_))
     obtain ⟨c287, h⟩ := need_of h
     obtain ⟨x288, x288e, h⟩ := letO_of h
     refine aw_planR (by decide +kernel) [[], [], [(0, 0, false)], [], [], [], [(0, 0, false)], [], [], [], [], [], [], []] [[]] [[[(p214, .cells (api.Value.ct .no .no .no e.Val))]]] [.i s276.n, .ptr p214 0, .i e.Val.Kind, .i (IntKind.wrap .i64 (4 * e.Val.Kind)), .i (IntKind.wrap .i64 (8 + (IntKind.wrap .i64 (4 * e.Val.Kind)))), .ptr p214 2, .sl .no 1 (e.Val.List_.map AV.str), .i s276.i, .vptr [.str (ix e.Val.List_ s276.i)], .str (ix e.Val.List_ s276.i), .i ((ix e.Val.List_ s276.i).length : Int), .i (IntKind.wrap .i64 ((IntKind.wrap .i64 (8 + (IntKind.wrap .i64 (4 * e.Val.Kind)))) + ((ix e.Val.List_ s276.i).length : Int))), .i x288, .i x288] (by decide +kernel) Z Z ?_ ?_
     ·exact ⟨ym Z Z Z, yp Z (fa Z underlying26 Z sizeOf3 Z Z Z), stepg_plain Z (op_load1 (i := 0) Z isAgg3 (tm Z) Z Z ⟨Z, Z⟩), yp Z (pu_int (v := .i (IntKind.wrap .i64 (4 * e.Val.Kind))) Z Z (AEv.int _ _) (tm Z) Z), yp Z (pu_int (v := .i (IntKind.wrap .i64 (8 + (IntKind.wrap .i64 (4 * e.Val.Kind))))) Z Z (AEv.int _ _) (tm Z) Z), yp Z (fa Z underlying26 Z sizeOf22 Z Z Z), stepg_plain Z (op_load1 (i := 0) Z isAgg22 (tm Z) Z Z ⟨Z, Z⟩), ym Z Z Z, yp Z (pu_indexAddrM Z underlying22 sizeOf9 (tm Z) (tm Z) c287 Z), stepg_plain Z (op_loadV1 Z isAgg9 (tm Z) Z ⟨Z, Z⟩), yp Z (pu_strLen Z underlying9 (tm Z)), yp Z (pu_int (v := .i (IntKind.wrap .i64 ((IntKind.wrap .i64 (8 + (IntKind.wrap .i64 (4 * e.Val.Kind)))) + ((ix e.Val.List_ s276.i).length : Int)))) Z Z (tm Z) (tm Z) Z), yp Z (APure.eq (pu_int (v := .i (IntKind.wrap .i64 (s276.n + (IntKind.wrap .i64 ((IntKind.wrap .i64 (8 + (IntKind.wrap .i64 (4 * e.Val.Kind)))) + ((ix e.Val.List_ s276.i).length : Int)))))) Z Z (tm Z) (tm Z) Z) (congrArg (AV.int .i64) x288e.symm)), ym Z Z Z, trivial⟩
     refine aw_region (xm Z Z Z (xa (.i (IntKind.wrap .i64 (s276.i + 1))) Z (pu_int (v := .i (IntKind.wrap .i64 (s276.i + 1))) Z Z (tm Z) (AEv.int _ _) Z) (xm Z Z Z (xe ?_))))
     obtain rfl := some_of h
     exact ⟨_, (), Z, Weak.mkL [0] (by decide) ⟨⟨_, Z, cr, Z⟩, trivial⟩ ⟨tm Z, tm Z, (AEv.le (tm Z) vr), trivial⟩⟩
    ·replace h := ite_fb hb289 h
     refine aw_exit ?_
     obtain rfl := some_of h
     have h := congrArg some (hx277 _ rfl)
     obtain rfl := some_of h
     exact ⟨(), Weak.mkL [0] (by decide) ⟨⟨_, Z, cr, Z⟩, trivial⟩ ⟨tm Z, tm Z, trivial⟩⟩
  ·intro _
   have h := h252
   obtain ⟨s320, s320e, h321⟩ := bind_some h
   refine aw_meet (ν := Unit) (fun v => [(3, .i s320), (4, .ptr p214 0)]) (fun v => [(p214, .cells (api.Value.ct .no .no .no e.Val))]) ?_ ?_
   ·have h := s320e
    refine xr (xa (.i 0) Z (pu_assign Z (AEv.int _ _)) (xe (aw_block (aw_while (σ := mewsref19.Of.S2) (ν := Unit) (mewsref19.Of.body2 e) (fun s341 v => [(3, .i s341.n), (4, .ptr p214 0), (6, .i s341.i)]) (fun s341 v => [(p214, .cells (api.Value.ct .no .no .no e.Val))]) ⟨s251, 0⟩ () _ h (Weak.mkL [0] (by decide) ⟨⟨_, Z, cr, Z⟩, trivial⟩ ⟨tm Z, tm Z, tm Z, trivial⟩) ?_))))
    rintro s341 _ x343 h hx342
    unfold mewsref19.Of.body2 at h
    refine aw_seq ?_
    obtain ⟨s346, s346e, h347⟩ := letO_of h
    refine aw_meet (ν := Unit) (fun v => [(3, .i s341.n), (4, .ptr p214 0), (6, .i s341.i), (58, .bool s346)]) (fun v => [(p214, .cells (api.Value.ct .no .no .no e.Val))]) ?_ ?_
    ·have h := s346e.symm
     refine aw_region (xm Z Z Z (xa (.ptr p214 3) Z (fa Z underlying26 Z sizeOf23 Z Z Z) (xc Z (op_load1 (i := 0) Z isAgg23 (tm Z) Z Z (xa (.i (e.Val.Hash.length : Int)) Z (pu_lenM Z underlying23 (tm Z)) (xa (.bool (decide (s341.i < (e.Val.Hash.length : Int)))) Z (pu_int (v := .bool (decide (s341.i < (e.Val.Hash.length : Int)))) Z Z (tm Z) (tm Z) Z) (xm Z Z Z ?_)))))))
     rcases Bool.eq_false_or_eq_true (decide (s341.i < (e.Val.Hash.length : Int))) with hb349 | hb349
     ·replace h := ite_t (dec_t hb349) h
      refine aops_known 54 Z hb349 (xp (.ptr p214 0) Z Z (fa Z underlying26 Z sizeOf3 Z Z Z) (xg Z Z (op_load1 (i := 0) Z isAgg3 (tm Z) Z Z (xp (.bool (decide (e.Val.Kind = 3))) Z Z (pu_int (v := .bool (decide (e.Val.Kind = 3))) Z Z (tm Z) (AEv.int _ _) Z) (xa (.bool (decide (e.Val.Kind = 3))) Z (pu_pick (b := true) Z (tm Z) (fun _ => (tm Z)) (fun h => nomatch h)) (xe ?_))))))
      subst h
      exact ⟨(), Weak.mkL [0] (by decide) ⟨⟨_, Z, cr, Z⟩, trivial⟩ ⟨tm Z, tm Z, tm Z, (AEv.le (tm Z) vr), trivial⟩⟩
     ·replace h := ite_f (dec_f hb349) h
      refine aops_known 54 Z hb349 (xn Z Z Z (xn Z Z Z (xn Z Z Z (xa (.bool false) Z (pu_pick (b := false) Z (tm Z) (fun h => nomatch h) (fun _ => (AEv.bool _))) (xe ?_)))))
      subst h
      exact ⟨(), Weak.mkL [0] (by decide) ⟨⟨_, Z, cr, Z⟩, trivial⟩ ⟨tm Z, tm Z, tm Z, tm Z, trivial⟩⟩
    ·intro _
     have h := h347
     refine aw_cond (b := s346) (tm Z) (fun hb352 => ?_) (fun hb352 => ?_)
     ·replace h := ite_t hb352 h
      refine aw_skip (aw_seq (aw_block ?_))
      obtain ⟨c350, h⟩ := need_of h
      obtain ⟨c351, h⟩ := need_of h
      refine aw_planR (by decide +kernel) [[], [], [(0, 0, false)], [], [], [], [], [], [], [], [(0, 0, false)], [], [], [], [], [], [], [], []] [[]] [[[(p214, .cells (api.Value.ct .no .no .no e.Val))]]] [.i s341.n, .ptr p214 3, .sl .no 2 (e.Val.Hash.map api.Field.av), .i s341.i, .vptr [.str (ix e.Val.Hash s341.i).Key, .str (ix e.Val.Hash s341.i).Val], .vptr [.str (ix e.Val.Hash s341.i).Key, .str (ix e.Val.Hash s341.i).Val], .str (ix e.Val.Hash s341.i).Key, .i ((ix e.Val.Hash s341.i).Key.length : Int), .i (IntKind.wrap .i64 (32 + ((ix e.Val.Hash s341.i).Key.length : Int))), .ptr p214 3, .sl .no 2 (e.Val.Hash.map api.Field.av), .i s341.i, .vptr [.str (ix e.Val.Hash s341.i).Key, .str (ix e.Val.Hash s341.i).Val], .vptr [.str (ix e.Val.Hash s341.i).Val], .str (ix e.Val.Hash s341.i).Val, .i ((ix e.Val.Hash s341.i).Val.length : Int), .i (IntKind.wrap .i64 ((IntKind.wrap .i64 (32 + ((ix e.Val.Hash s341.i).Key.length : Int))) + ((ix e.Val.Hash s341.i).Val.length : Int))), .i (IntKind.wrap .i64 (s341.n + (IntKind.wrap .i64 ((IntKind.wrap .i64 (32 + ((ix e.Val.Hash s341.i).Key.length : Int))) + ((ix e.Val.Hash s341.i).Val.length : Int))))), .i (IntKind.wrap .i64 (s341.n + (IntKind.wrap .i64 ((IntKind.wrap .i64 (32 + ((ix e.Val.Hash s341.i).Key.length : Int))) + ((ix e.Val.Hash s341.i).Val.length : Int)))))] (by decide +kernel) Z Z ?_ ?_
      ·exact ⟨ym Z Z Z, yp Z (fa Z underlying26 Z sizeOf23 Z Z Z), stepg_plain Z (op_load1 (i := 0) Z isAgg23 (tm Z) Z Z ⟨Z, Z⟩), ym Z Z Z, yp Z (pu_indexAddrM Z underlying23 sizeOf38 (tm Z) (tm Z) c350 Z), yp Z (fa Z underlying38 Z sizeOf9 Z Z Z), stepg_plain Z (op_loadV1 Z isAgg9 (tm Z) Z ⟨Z, Z⟩), yp Z (pu_strLen Z underlying9 (tm Z)), yp Z (pu_int (v := .i (IntKind.wrap .i64 (32 + ((ix e.Val.Hash s341.i).Key.length : Int)))) Z Z (AEv.int _ _) (tm Z) Z), yp Z (fa Z underlying26 Z sizeOf23 Z Z Z), stepg_plain Z (op_load1 (i := 0) Z isAgg23 (tm Z) Z Z ⟨Z, Z⟩), ym Z Z Z, yp Z (pu_indexAddrM Z underlying23 sizeOf38 (tm Z) (tm Z) c351 Z), yp Z (fa Z underlying38 Z sizeOf9 Z Z Z), stepg_plain Z (op_loadV1 Z isAgg9 (tm Z) Z ⟨Z, Z⟩), yp Z (pu_strLen Z underlying9 (tm Z)), yp Z (pu_int (v := .i (IntKind.wrap .i64 ((IntKind.wrap .i64 (32 + ((ix e.Val.Hash s341.i).Key.length : Int))) + ((ix e.Val.Hash s341.i).Val.length : Int)))) Z Z (tm Z) (tm Z) Z), yp Z (pu_int (v := .i (IntKind.wrap .i64 (s341.n + (IntKind.wrap .i64 ((IntKind.wrap .i64 (32 + ((ix e.Val.Hash s341.i).Key.length : Int))) + ((ix e.Val.Hash s341.i).Val.length : Int)))))) Z Z (tm Z) (tm Z) Z), ym Z Z Z, trivial⟩
      refine aw_region (xm Z Z Z (xa (.i (IntKind.wrap .i64 (s341.i + 1))) Z (pu_int (v := .i (IntKind.wrap .i64 (s341.i + 1))) Z Z (tm Z) (AEv.int _ _) Z) (xm Z Z Z (xe ?_))))
      obtain rfl := some_of h
      exact ⟨_, (), Z, Weak.mkL [0] (by decide) ⟨⟨_, Z, cr, Z⟩, trivial⟩ ⟨(AEv.le (tm Z) vr), tm Z, (AEv.le (tm Z) vr), trivial⟩⟩
     ·replace h := ite_fb hb352 h
      refine aw_exit ?_
      obtain rfl := some_of h
      have h := congrArg some (hx342 _ rfl)
      obtain rfl := some_of h
      exact ⟨(), Weak.mkL [0] (by decide) ⟨⟨_, Z, cr, Z⟩, trivial⟩ ⟨tm Z, tm Z, trivial⟩⟩
   ·intro _
    have h := h321
    obtain ⟨s380, s380e, h381⟩ := bind_some h
    refine aw_meet (ν := Unit) (fun v => [(3, .i s380), (4, .ptr p214 0)]) (fun v => [(p214, .cells (api.Value.ct .no .no .no e.Val))]) ?_ ?_
    ·have h := s380e
     refine xr (xa (.i 0) Z (pu_assign Z (AEv.int _ _)) (xe (aw_block (aw_while (σ := mewsref19.Of.S4) (ν := Unit) (mewsref19.Of.body4 e) (fun s399 v => [(3, .i s399.n), (4, .ptr p214 0), (7, .i s399.i)]) (fun s399 v => [(p214, .cells (api.Value.ct .no .no .no e.Val))]) ⟨s320, 0⟩ () _ h (Weak.mkL [0] (by decide) ⟨⟨_, Z, cr, Z⟩, trivial⟩ ⟨tm Z, tm Z, tm Z, trivial⟩) ?_))))
     rintro s399 _ x401 h hx400
     unfold mewsref19.Of.body4 at h
     refine aw_seq ?_
     obtain ⟨s404, s404e, h405⟩ := letO_of h
     refine aw_meet (ν := Unit) (fun v => [(3, .i s399.n), (4, .ptr p214 0), (7, .i s399.i), (88, .bool s404)]) (fun v => [(p214, .cells (api.Value.ct .no .no .no e.Val))]) ?_ ?_
     ·have h := s404e.symm
      refine aw_region (xm Z Z Z (xa (.ptr p214 4) Z (fa Z underlying26 Z sizeOf24 Z Z Z) (xc Z (op_load1 (i := 0) Z isAgg24 (tm Z) Z Z (xa (.i (e.Val.ZSet.length : Int)) Z (pu_lenM Z underlying24 (tm Z)) (xa (.bool (decide (s399.i < (e.Val.ZSet.length : Int)))) Z (pu_int (v := .bool (decide (s399.i < (e.Val.ZSet.length : Int)))) Z Z (tm Z) (tm Z) Z) (xm Z Z Z ?_)))))))
      rcases Bool.eq_false_or_eq_true (decide (s399.i < (e.Val.ZSet.length : Int))) with hb407 | hb407
      ·replace h := ite_t (dec_t hb407) h
       refine aops_known 84 Z hb407 (xp (.ptr p214 0) Z Z (fa Z underlying26 Z sizeOf3 Z Z Z) (xg Z Z (op_load1 (i := 0) Z isAgg3 (tm Z) Z Z (xp (.bool (decide (e.Val.Kind = 5))) Z Z (pu_int (v := .bool (decide (e.Val.Kind = 5))) Z Z (tm Z) (AEv.int _ _) Z) (xa (.bool (decide (e.Val.Kind = 5))) Z (pu_pick (b := true) Z (tm Z) (fun _ => (tm Z)) (fun h => nomatch h)) (xe ?_))))))
       subst h
       exact ⟨(), Weak.mkL [0] (by decide) ⟨⟨_, Z, cr, Z⟩, trivial⟩ ⟨tm Z, tm Z, tm Z, (AEv.le (tm Z) vr), trivial⟩⟩
      ·replace h := ite_f (dec_f hb407) h
       refine aops_known 84 Z hb407 (xn Z Z Z (xn Z Z Z (xn Z Z Z (xa (.bool false) Z (pu_pick (b := false) Z (tm Z) (fun h => nomatch h) (fun _ => (AEv.bool _))) (xe ?_)))))
       subst h
       exact ⟨(), Weak.mkL [0] (by decide) ⟨⟨_, Z, cr, Z⟩, trivial⟩ ⟨tm Z, tm Z, tm Z, tm Z, trivial⟩⟩
     ·intro _
      have h := h405
      refine aw_cond (b := s404) (tm Z) (fun hb409 => ?_) (fun hb409 => ?_)
      ·replace h := ite_t hb409 h
       refine aw_skip (aw_seq (aw_block (aw_region (xm Z Z Z (xa (.ptr p214 4) Z (fa Z underlying26 Z sizeOf24 Z Z Z) (xc Z (op_load1 (i := 0) Z isAgg24 (tm Z) Z Z (xm Z Z Z ?_))))))))
       obtain ⟨c408, h⟩ := need_of h
       refine xa (.vptr [.str (ix e.Val.ZSet s399.i).Member, .i (ix e.Val.ZSet s399.i).Score]) Z (pu_indexAddrM Z underlying24 sizeOf40 (tm Z) (tm Z) c408 Z) (xa (.vptr [.str (ix e.Val.ZSet s399.i).Member, .i (ix e.Val.ZSet s399.i).Score]) Z (fa Z underlying40 Z sizeOf9 Z Z Z) (xc Z (op_loadV1 Z isAgg9 (tm Z) Z (xa (.i ((ix e.Val.ZSet s399.i).Member.length : Int)) Z (pu_strLen Z underlying9 (tm Z)) (xa (.i (IntKind.wrap .i64 (40 + ((ix e.Val.ZSet s399.i).Member.length : Int)))) Z (pu_int (v := .i (IntKind.wrap .i64 (40 + ((ix e.Val.ZSet s399.i).Member.length : Int)))) Z Z (AEv.int _ _) (tm Z) Z) (xa (.i (IntKind.wrap .i64 (s399.n + (IntKind.wrap .i64 (40 + ((ix e.Val.ZSet s399.i).Member.length : Int)))))) Z (pu_int (v := .i (IntKind.wrap .i64 (s399.n + (IntKind.wrap .i64 (40 + ((ix e.Val.ZSet s399.i).Member.length : Int)))))) Z Z (tm Z) (tm Z) Z) (xm Z Z Z (xe (aw_region (xm Z Z Z ?_))))))))))
       refine xa (.i (IntKind.wrap .i64 (s399.i + 1))) Z (pu_int (v := .i (IntKind.wrap .i64 (s399.i + 1))) Z Z (tm Z) (AEv.int _ _) Z) (xm Z Z Z (xe ?_))
       obtain rfl := some_of h
       exact ⟨_, (), Z, Weak.mkL [0] (by decide) ⟨⟨_, Z, cr, Z⟩, trivial⟩ ⟨(AEv.le (tm Z) vr), tm Z, (AEv.le (tm Z) vr), trivial⟩⟩
      ·replace h := ite_fb hb409 h
       refine aw_exit ?_
       obtain rfl := some_of h
       have h := congrArg some (hx400 _ rfl)
       obtain rfl := some_of h
       exact ⟨(), Weak.mkL [0] (by decide) ⟨⟨_, Z, cr, Z⟩, trivial⟩ ⟨tm Z, tm Z, trivial⟩⟩
    ·intro _
     have h := h381
     obtain ⟨s411, s411e, h412⟩ := letO_of h
     refine aw_meet (ν := Unit) (fun v => [(3, .i s411)]) (fun v => []) ?_ ?_
     ·have h := s411e.symm
      refine xr (xa (.ptr p214 0) Z (fa Z underlying26 Z sizeOf3 Z Z Z) (xc Z (op_load1 (i := 0) Z isAgg3 (tm Z) Z Z (xa (.bool (decide (e.Val.Kind = 1))) Z (pu_int (v := .bool (decide (e.Val.Kind = 1))) Z Z (tm Z) (AEv.int _ _) Z) (xe (aw_cond (b := decide (e.Val.Kind = 1)) (tm Z) (fun hb414 => ?_) (fun hb414 => ?_)))))))
      ·replace h := ite_t (dec_t hb414) h
       refine aw_region (xm Z Z Z (xa (.ptr p214 1) Z (fa Z underlying26 Z sizeOf9 Z Z Z) (xc Z (op_load1 (i := 0) Z isAgg9 (tm Z) Z Z (xa (.i (e.Val.Text.length : Int)) Z (pu_strLen Z underlying9 (tm Z)) (xa (.i (IntKind.wrap .i64 (s380 + (e.Val.Text.length : Int)))) Z (pu_int (v := .i (IntKind.wrap .i64 (s380 + (e.Val.Text.length : Int)))) Z Z (tm Z) (tm Z) Z) (xm Z Z Z (xe ?_))))))))
       subst h
       exact ⟨(), Weak.mkL [] (by decide) trivial ⟨(AEv.le (tm Z) vr), trivial⟩⟩
      ·replace h := ite_f (dec_f hb414) h
       refine aw_skip ?_
       subst h
       exact ⟨(), Weak.mkL [] (by decide) trivial ⟨tm Z, trivial⟩⟩
     ·intro _
      have h := h412
      refine xr (xm Z Z Z (xm Z Z Z (xe (aw_ret ?_))))
      obtain rfl := some_of h
      exact ⟨[.i s411], _, [], ⟨(tm Z), trivial⟩, vr, Weak.mkL [] (by decide) trivial trivial, ⟨Z, Z⟩⟩

end Go.Pu
