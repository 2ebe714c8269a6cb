/- Printed by lift.py: the functions come to them. -/
import Derived.Test.YtlidepjlhmaldaaLiftW
import Derived.Test.YtlidepjlhmaldaaDPP
import Derived.Test.YtlidepjlhmaldaaProg
import Derived.Test.YtlidepjlhmaldaaLiftZS
import Derived.Test.YtlidepjlhmaldaaShelf
import Derived.Test.YtlidepjlhmaldaaLiftZT
import Derived.Test.YtlidepjlhmaldaaLiftZU
import Derived.WalkKit
set_option maxRecDepth 100000
set_option maxHeartbeats 0
namespace Go.Pu
open Go.Lift Go.Proofs.Try Go.RowKit Go.Proofs

theorem mewslaw16.Far.ok {d : api.Disk} {l : List mewslaw16.Op} {r : Bool} (h : mewslaw16.Far d l = some r) : Go.Lift.Spec prog 6 [.agg [.sl .no 3 (d.Files.map api.File.av), .sl .no 3 (d.Faults.map api.Fault.av)], .sl .no 4 (l.map mewslaw16.Op.av)] [] (fun v H => v = .bool r ∧ H = []) := by
 unfold mewslaw16.Far at h
 refine Go.Lift.Spec.of_body (rs := [.tmp 4]) func6 Z Z (nb Z) Z (xr (xc Z (op_box (cs := [.sl .no 3 (d.Files.map api.File.av), .sl .no 3 (d.Faults.map api.Fault.av)]) (v := .agg [.sl .no 3 (d.Files.map api.File.av), .sl .no 3 (d.Faults.map api.Fault.av)]) Z (tm Z) Z Z ?_)))
 intro p101
 refine xa (.bool false) Z (pu_assign Z (AEv.bool _)) (xe (xr (xa (.i 0) Z (pu_assign Z (AEv.int _ _)) (xe ?_))))
 obtain ⟨s200, s200e, h124⟩ := bind_some h
 refine aw_join (σ := Int) (ν := Unit) (fun u v => [(1, .sl .no 4 (l.map mewslaw16.Op.av)), (2, .ptr p101 0), (5, .i u)]) (fun u v => [(p101, .cells [.sl .no 3 (d.Files.map api.File.av), .sl .no 3 (d.Faults.map api.Fault.av)])]) (fun u => s200 = .inl u) ?_ ?_
 ·intro s123
  intro _
  rintro rfl
  have h := onSum_inl h124
  obtain ⟨s199, s199e, h169⟩ := bind_some h
  refine aw_join (σ := Unit) (ν := Unit) (fun u v => [(1, .sl .no 4 (l.map mewslaw16.Op.av)), (2, .ptr p101 0)]) (fun u v => [(p101, .cells [.sl .no 3 (d.Files.map api.File.av), .sl .no 3 (d.Faults.map api.Fault.av)])]) (fun u => s199 = .inl u) ?_ ?_
  ·intro s168
   intro _
   rintro rfl
   have h := onSum_inl h169
   obtain ⟨s194, s194e, h195⟩ := letO_of h
   refine aw_meet (ν := Unit) (fun v => [(4, .bool s194)]) (fun v => []) ?_ ?_
   ·have h := s194e.symm
    refine aw_region (xa (.ptr p101 0) Z (fa Z underlying25 Z sizeOf22 Z Z Z) (xc Z (op_load1 (i := 0) Z isAgg22 (tm Z) Z Z (xa (.i (d.Files.length : Int)) Z (pu_lenM Z underlying22 (tm Z)) (xa (.bool (decide (40 < (d.Files.length : Int)))) Z (pu_int (v := .bool (decide (40 < (d.Files.length : Int)))) Z Z (tm Z) (AEv.int _ _) Z) (xm Z Z Z ?_))))))
    rcases Bool.eq_false_or_eq_true (decide (40 < (d.Files.length : Int))) with hb197 | hb197
    ·replace h := ite_t (dec_t hb197) h
     refine aops_known 55 Z hb197 (xn Z Z Z (xn Z Z Z (xn Z Z Z (xn Z Z Z (xa (.bool true) Z (pu_pick (b := true) Z (tm Z) (fun _ => (AEv.bool _)) (fun h => nomatch h)) (xm Z Z Z (xn Z Z Z (xn Z Z Z (xn Z Z Z ?_)))))))))
     refine xa (.bool true) Z (pu_pick (b := true) Z (tm Z) (fun _ => (AEv.bool _)) (fun h => nomatch h)) (xm Z Z Z (xe ?_))
     subst h
     exact ⟨(), Weak.mkL [] (by decide) trivial ⟨tm Z, trivial⟩⟩
    ·replace h := ite_f (dec_f hb197) h
     refine aops_known 55 Z hb197 (xp (.ptr p101 1) Z Z (fa Z underlying25 Z sizeOf23 Z Z Z) (xg Z Z (op_load1 (i := 0) Z isAgg23 (tm Z) Z Z (xp (.i (d.Faults.length : Int)) Z Z (pu_lenM Z underlying23 (tm Z)) (xp (.bool (decide (100 < (d.Faults.length : Int)))) Z Z (pu_int (v := .bool (decide (100 < (d.Faults.length : Int)))) Z Z (tm Z) (AEv.int _ _) Z) (xa (.bool (decide (100 < (d.Faults.length : Int)))) Z (pu_pick (b := false) Z (tm Z) (fun h => nomatch h) (fun _ => (tm Z))) (xm Z Z Z ?_)))))))
     rcases Bool.eq_false_or_eq_true (decide (100 < (d.Faults.length : Int))) with hb198 | hb198
     ·replace h := ite_t (dec_t hb198) h
      refine aops_known 61 Z hb198 (xn Z Z Z (xn Z Z Z (xn Z Z Z (xa (.bool true) Z (pu_pick (b := true) Z (tm Z) (fun _ => (AEv.bool _)) (fun h => nomatch h)) (xm Z Z Z (xe ?_))))))
      subst h
      exact ⟨(), Weak.mkL [] (by decide) trivial ⟨tm Z, trivial⟩⟩
     ·replace h := ite_f (dec_f hb198) h
      refine aops_known 61 Z hb198 (xq Z Z Z Z (xp (.i (l.length : Int)) Z Z (pu_lenM Z underlying29 (tm Z)) (xp (.bool (decide (100 < (l.length : Int)))) Z Z (pu_int (v := .bool (decide (100 < (l.length : Int)))) Z Z (tm Z) (AEv.int _ _) Z) (xa (.bool (decide (100 < (l.length : Int)))) Z (pu_pick (b := false) Z (tm Z) (fun h => nomatch h) (fun _ => (tm Z))) (xm Z Z Z (xe ?_))))))
      subst h
      exact ⟨(), Weak.mkL [] (by decide) trivial ⟨(AEv.le (tm Z) vr), trivial⟩⟩
   ·intro _
    have h := h195
    refine aw_ret ?_
    obtain rfl := some_of h
    exact ⟨[.bool s194], _, [], ⟨(tm Z), trivial⟩, vr, Weak.mkL [] (by decide) trivial trivial, ⟨Z, Z⟩⟩
  ·have h := s199e
   refine xr (xm Z Z Z (xa (.i (l.length : Int)) Z (pu_lenM Z underlying29 (tm Z)) (xa (.i 0) Z (pu_move Z (AEv.int _ _)) (xe (aw_block (aw_while (σ := mewslaw16.Far.S2) (ν := Unit) (mewslaw16.Far.body2 l) (fun s183 v => [(1, .sl .no 4 (l.map mewslaw16.Op.av)), (2, .ptr p101 0), (5, .i s183.n), (31, .sl .no 4 (l.map mewslaw16.Op.av)), (32, .i (l.length : Int)), (33, .i s183.t33)]) (fun s183 v => [(p101, .cells [.sl .no 3 (d.Files.map api.File.av), .sl .no 3 (d.Faults.map api.Fault.av)])]) ⟨s123, 0⟩ () _ h (Weak.mkL [0] (by decide) ⟨⟨_, Z, cr, Z⟩, trivial⟩ ⟨tm Z, tm Z, tm Z, tm Z, tm Z, tm Z, trivial⟩) ?_))))))
   rintro s183 _ x185 h hx184
   unfold mewslaw16.Far.body2 at h
   refine xr (xa (.bool (decide (s183.t33 < (l.length : Int)))) Z (pu_int (v := .bool (decide (s183.t33 < (l.length : Int)))) Z Z (tm Z) (tm Z) Z) (xe (aw_seq (aw_cond (b := decide (s183.t33 < (l.length : Int))) (tm Z) (fun hb191 => ?_) (fun hb191 => ?_)))))
   ·replace h := ite_t (dec_t hb191) h
    refine aw_skip (aw_seq (aw_block (aw_seq (aw_region ?_))))
    obtain ⟨c187, h⟩ := need_of h
    refine xa (.vptr [.i (ix l s183.t33).Kind, .str (ix l s183.t33).Name, .str (ix l s183.t33).S, .i (ix l s183.t33).N]) Z (pu_indexAddrM Z underlying29 sizeOf27 (tm Z) (tm Z) c187 Z) (xc Z (op_loadVN Z isAgg27 sizeOf27 (tm Z) (nb Z) Z (xc Z (op_alloc (cs := [.i 0, .str ([] : List UInt8), .str ([] : List UInt8), .i 0]) (v := .agg [.i 0, .str ([] : List UInt8), .str ([] : List UInt8), .i 0]) Z zeroValue27 Z Z Z ?_))))
    intro p188
    refine ac0 Z Z (op_store (i := 0) (cs' := (mewslaw16.Op.ct (ix l s183.t33))) Z sizeOf27 (tm Z) (v := .agg (mewslaw16.Op.ct (ix l s183.t33))) (tm Z) Z Z Z (nb Z) Z (xe (xr (xm Z Z Z (xa (.ptr p188 2) Z (fa Z underlying27 Z sizeOf9 Z Z Z) (xc Z (op_load1 (i := 0) Z isAgg9 (tm Z) Z Z (xa (.i ((ix l s183.t33).S.length : Int)) Z (pu_strLen Z underlying9 (tm Z)) (xa (.i (if 10000 < ((ix l s183.t33).S.length : Int) then 10000 else ((ix l s183.t33).S.length : Int))) Z (pu_min2 Z (tm Z) (AEv.int _ _)) (xa (.ptr p188 1) Z (fa Z underlying27 Z sizeOf9 Z Z Z) ?_))))))))))
    refine xc Z (op_load1 (i := 0) Z isAgg9 (tm Z) Z Z (xa (.i ((ix l s183.t33).Name.length : Int)) Z (pu_strLen Z underlying9 (tm Z)) (xa (.i (if 10000 < ((ix l s183.t33).Name.length : Int) then 10000 else ((ix l s183.t33).Name.length : Int))) Z (pu_min2 Z (tm Z) (AEv.int _ _)) (xa (.i (IntKind.wrap .i64 ((if 10000 < ((ix l s183.t33).S.length : Int) then 10000 else ((ix l s183.t33).S.length : Int)) + (if 10000 < ((ix l s183.t33).Name.length : Int) then 10000 else ((ix l s183.t33).Name.length : Int))))) Z (pu_int (v := .i (IntKind.wrap .i64 ((if 10000 < ((ix l s183.t33).S.length : Int) then 10000 else ((ix l s183.t33).S.length : Int)) + (if 10000 < ((ix l s183.t33).Name.length : Int) then 10000 else ((ix l s183.t33).Name.length : Int))))) Z Z (tm Z) (tm Z) Z) ?_))))
    obtain ⟨x189, x189e, h⟩ := letO_of h
    refine xa (.i x189) Z (APure.eq (pu_int (v := .i (IntKind.wrap .i64 (s183.n + (IntKind.wrap .i64 ((if 10000 < ((ix l s183.t33).S.length : Int) then 10000 else ((ix l s183.t33).S.length : Int)) + (if 10000 < ((ix l s183.t33).Name.length : Int) then 10000 else ((ix l s183.t33).Name.length : Int))))))) Z Z (tm Z) (tm Z) Z) (congrArg (AV.int .i64) x189e.symm)) (xm Z Z Z (xe (xr (xm Z Z Z (xa (.bool (decide (5000 < x189))) Z (pu_int (v := .bool (decide (5000 < x189))) Z Z (tm Z) (AEv.int _ _) Z) (xe (aw_cond (b := decide (5000 < x189)) (tm Z) (fun hb190 => ?_) (fun hb190 => ?_))))))))
    ·replace h := ite_t (dec_t hb190) h
     refine xr (xa (.bool true) Z (pu_assign Z (AEv.bool _)) (xe (aw_ret ?_)))
     obtain rfl := some_of h
     have h := congrArg some (hx184 _ rfl)
     obtain rfl := some_of h
     have h := onSum_inr h169
     obtain rfl := some_of h
     exact ⟨[.bool true], _, [], ⟨(tm Z), trivial⟩, vr, Weak.mkL [] (by decide) trivial trivial, ⟨Z, Z⟩⟩
    ·replace h := ite_f (dec_f hb190) h
     refine aw_skip (aw_region (xa (.i (IntKind.wrap .i64 (s183.t33 + 1))) Z (pu_int (v := .i (IntKind.wrap .i64 (s183.t33 + 1))) Z Z (tm Z) (AEv.int _ _) Z) (xm Z Z Z (xe ?_))))
     obtain rfl := some_of h
     exact ⟨_, (), Z, Weak.mkL [1] (by decide) ⟨⟨_, Z, cr, Z⟩, trivial⟩ ⟨tm Z, tm Z, tm Z, tm Z, tm Z, (AEv.le (tm Z) vr), trivial⟩⟩
   ·replace h := ite_f (dec_f hb191) h
    refine aw_exit ?_
    obtain rfl := some_of h
    have h := congrArg some (hx184 _ rfl)
    exact ⟨(), (), (some_of h).symm, Weak.mkL [0] (by decide) ⟨⟨_, Z, cr, Z⟩, trivial⟩ ⟨tm Z, tm Z, trivial⟩⟩
 ·have h := s200e
  refine xr (xa (.ptr p101 0) Z (fa Z underlying25 Z sizeOf22 Z Z Z) (xc Z (op_load1 (i := 0) Z isAgg22 (tm Z) Z Z (xa (.i (d.Files.length : Int)) Z (pu_lenM Z underlying22 (tm Z)) (xa (.i 0) Z (pu_move Z (AEv.int _ _)) (xe (aw_block (aw_while (σ := mewslaw16.Far.S0) (ν := Unit) (mewslaw16.Far.body0 d) (fun s138 v => [(1, .sl .no 4 (l.map mewslaw16.Op.av)), (2, .ptr p101 0), (5, .i s138.n), (11, .sl .no 3 (d.Files.map api.File.av)), (12, .i (d.Files.length : Int)), (13, .i s138.t13)]) (fun s138 v => [(p101, .cells [.sl .no 3 (d.Files.map api.File.av), .sl .no 3 (d.Faults.map api.Fault.av)])]) ⟨0, 0⟩ () _ h (Weak.mkL [0] (by decide) ⟨⟨_, Z, cr, Z⟩, trivial⟩ ⟨tm Z, tm Z, tm Z, tm Z, tm Z, tm Z, trivial⟩) ?_))))))))
  rintro s138 _ x140 h hx139
  unfold mewslaw16.Far.body0 at h
  refine xr (xa (.bool (decide (s138.t13 < (d.Files.length : Int)))) Z (pu_int (v := .bool (decide (s138.t13 < (d.Files.length : Int)))) Z Z (tm Z) (tm Z) Z) (xe (aw_seq (aw_cond (b := decide (s138.t13 < (d.Files.length : Int))) (tm Z) (fun hb146 => ?_) (fun hb146 => ?_)))))
  ·replace h := ite_t (dec_t hb146) h
   refine aw_skip (aw_seq (aw_block (aw_seq (aw_region ?_))))
   obtain ⟨c142, h⟩ := need_of h
   refine xa (.vptr [.str (ix d.Files s138.t13).Name, .str (ix d.Files s138.t13).Data, .i (ix d.Files s138.t13).Synced]) Z (pu_indexAddrM Z underlying22 sizeOf48 (tm Z) (tm Z) c142 Z) (xc Z (op_loadVN Z isAgg48 sizeOf48 (tm Z) (nb Z) Z (xc Z (op_alloc (cs := [.str ([] : List UInt8), .str ([] : List UInt8), .i 0]) (v := .agg [.str ([] : List UInt8), .str ([] : List UInt8), .i 0]) Z zeroValue48 Z Z Z ?_))))
   intro p143
   refine ac0 Z Z (op_store (i := 0) (cs' := [.str (ix d.Files s138.t13).Name, .str (ix d.Files s138.t13).Data, .i (ix d.Files s138.t13).Synced]) Z sizeOf48 (tm Z) (v := .agg [.str (ix d.Files s138.t13).Name, .str (ix d.Files s138.t13).Data, .i (ix d.Files s138.t13).Synced]) (tm Z) Z Z Z (nb Z) Z (xe (xr (xm Z Z Z (xa (.ptr p143 1) Z (fa Z underlying48 Z sizeOf9 Z Z Z) (xc Z (op_load1 (i := 0) Z isAgg9 (tm Z) Z Z (xa (.i ((ix d.Files s138.t13).Data.length : Int)) Z (pu_strLen Z underlying9 (tm Z)) (xa (.i (if 10000 < ((ix d.Files s138.t13).Data.length : Int) then 10000 else ((ix d.Files s138.t13).Data.length : Int))) Z (pu_min2 Z (tm Z) (AEv.int _ _)) (xa (.ptr p143 0) Z (fa Z underlying48 Z sizeOf9 Z Z Z) ?_))))))))))
   refine xc Z (op_load1 (i := 0) Z isAgg9 (tm Z) Z Z (xa (.i ((ix d.Files s138.t13).Name.length : Int)) Z (pu_strLen Z underlying9 (tm Z)) (xa (.i (if 10000 < ((ix d.Files s138.t13).Name.length : Int) then 10000 else ((ix d.Files s138.t13).Name.length : Int))) Z (pu_min2 Z (tm Z) (AEv.int _ _)) (xa (.i (IntKind.wrap .i64 ((if 10000 < ((ix d.Files s138.t13).Data.length : Int) then 10000 else ((ix d.Files s138.t13).Data.length : Int)) + (if 10000 < ((ix d.Files s138.t13).Name.length : Int) then 10000 else ((ix d.Files s138.t13).Name.length : Int))))) Z (pu_int (v := .i (IntKind.wrap .i64 ((if 10000 < ((ix d.Files s138.t13).Data.length : Int) then 10000 else ((ix d.Files s138.t13).Data.length : Int)) + (if 10000 < ((ix d.Files s138.t13).Name.length : Int) then 10000 else ((ix d.Files s138.t13).Name.length : Int))))) Z Z (tm Z) (tm Z) Z) ?_))))
   obtain ⟨x144, x144e, h⟩ := letO_of h
   refine xa (.i x144) Z (APure.eq (pu_int (v := .i (IntKind.wrap .i64 (s138.n + (IntKind.wrap .i64 ((if 10000 < ((ix d.Files s138.t13).Data.length : Int) then 10000 else ((ix d.Files s138.t13).Data.length : Int)) + (if 10000 < ((ix d.Files s138.t13).Name.length : Int) then 10000 else ((ix d.Files s138.t13).Name.length : Int))))))) Z Z (tm Z) (tm Z) Z) (congrArg (AV.int .i64) x144e.symm)) (xm Z Z Z (xe (xr (xm Z Z Z (xa (.bool (decide (5000 < x144))) Z (pu_int (v := .bool (decide (5000 < x144))) Z Z (tm Z) (AEv.int _ _) Z) (xe (aw_cond (b := decide (5000 < x144)) (tm Z) (fun hb145 => ?_) (fun hb145 => ?_))))))))
   ·replace h := ite_t (dec_t hb145) h
    refine xr (xa (.bool true) Z (pu_assign Z (AEv.bool _)) (xe (aw_ret ?_)))
    obtain rfl := some_of h
    have h := congrArg some (hx139 _ rfl)
    obtain rfl := some_of h
    have h := onSum_inr h124
    obtain rfl := some_of h
    exact ⟨[.bool true], _, [], ⟨(tm Z), trivial⟩, vr, Weak.mkL [] (by decide) trivial trivial, ⟨Z, Z⟩⟩
   ·replace h := ite_f (dec_f hb145) h
    refine aw_skip (aw_region (xa (.i (IntKind.wrap .i64 (s138.t13 + 1))) Z (pu_int (v := .i (IntKind.wrap .i64 (s138.t13 + 1))) Z Z (tm Z) (AEv.int _ _) Z) (xm Z Z Z (xe ?_))))
    obtain rfl := some_of h
    exact ⟨_, (), Z, Weak.mkL [1] (by decide) ⟨⟨_, Z, cr, Z⟩, trivial⟩ ⟨tm Z, tm Z, tm Z, tm Z, tm Z, (AEv.le (tm Z) vr), trivial⟩⟩
  ·replace h := ite_f (dec_f hb146) h
   refine aw_exit ?_
   obtain rfl := some_of h
   have h := congrArg some (hx139 _ rfl)
   exact ⟨s138.n, (), (some_of h).symm, Weak.mkL [0] (by decide) ⟨⟨_, Z, cr, Z⟩, trivial⟩ ⟨tm Z, tm Z, tm Z, trivial⟩⟩

theorem slices.Clone_api_File.ok {s : List api.File} {r : List api.File} (h : slices.Clone_api_File s = some r) : Go.Lift.Spec prog 54 [.sl .no 3 (s.map api.File.av)] [] (fun v H => ∃ n0, v = .vec n0 ∧ H = [(n0, .vec 3 (r.map api.File.av))]) := by
 unfold slices.Clone_api_File at h
 obtain ⟨c, h⟩ := need_of h
 obtain rfl := some_of h
 refine Go.Lift.Spec.of_body (rs := [.tmp 2]) func54 Z Z (nb Z) Z (xr (xa (.sl .full 3 (([] : List api.File).map api.File.av)) Z (pu_assign Z (AEv.nil 3 (by decide))) (xe (aw_seq (xr (xm Z Z Z (xc Z (op_nilSlice Z underlying22 (tm Z) fun b hb => ?_))))))))
 refine xe (aw_cond (b := b) (tm Z) (fun hb2 => ?_) (fun hb2 => ?_))
 ·have hs : s = [] := List.map_eq_nil_iff.1 (hb hb2)
  subst hs
  refine xr (xa (.sl .full 3 (([] : List api.File).map api.File.av)) Z (pu_assign Z (AEv.nil 3 (by decide))) (xe (aw_vecNil 2 (tm Z) fun t => (aw_ret ?_))))
  exact ⟨[.vec t], _, [(t, .vec 3 (([] : List api.File).map api.File.av))], ⟨tm Z, trivial⟩, AV.Le.refl _, Weak.mkL [0] (by decide) ⟨⟨_, Z, Z⟩, trivial⟩ trivial, ⟨t, Z, Z⟩⟩
 ·refine aw_skip (xr (xc Z (op_buildSlice (xs := ([] : List api.File).map api.File.av) (aparts := []) Z underlying22 sizeOf48 zeroValue48 (by decide) (by decide) trivial Z Z Z (xm Z Z Z (xc Z (op_appendNVM (sz := 3) Z underlying22 underlying22 (.inl Z) typeInfo48 Z Z Z (by decide) (tm Z) (given_sl (tm Z)) c ?_))))))
  intro t
  refine xm Z Z Z (xe (aw_ret ?_))
  exact ⟨[.vec t], _, [(t, .vec 3 ((([] : List api.File) ++ s).map api.File.av))], ⟨tm Z, trivial⟩, AV.Le.refl _, Weak.mkL [0] (by decide) ⟨⟨_, Z, Z⟩, trivial⟩ trivial, ⟨t, Z, Z⟩⟩

theorem slices.Clone_api_Fault.ok {s : List api.Fault} {r : List api.Fault} (h : slices.Clone_api_Fault s = some r) : Go.Lift.Spec prog 55 [.sl .no 3 (s.map api.Fault.av)] [] (fun v H => ∃ n0, v = .vec n0 ∧ H = [(n0, .vec 3 (r.map api.Fault.av))]) := by
 unfold slices.Clone_api_Fault at h
 obtain ⟨c, h⟩ := need_of h
 obtain rfl := some_of h
 refine Go.Lift.Spec.of_body (rs := [.tmp 2]) func55 Z Z (nb Z) Z (xr (xa (.sl .full 3 (([] : List api.Fault).map api.Fault.av)) Z (pu_assign Z (AEv.nil 3 (by decide))) (xe (aw_seq (xr (xm Z Z Z (xc Z (op_nilSlice Z underlying23 (tm Z) fun b hb => ?_))))))))
 refine xe (aw_cond (b := b) (tm Z) (fun hb2 => ?_) (fun hb2 => ?_))
 ·have hs : s = [] := List.map_eq_nil_iff.1 (hb hb2)
  subst hs
  refine xr (xa (.sl .full 3 (([] : List api.Fault).map api.Fault.av)) Z (pu_assign Z (AEv.nil 3 (by decide))) (xe (aw_vecNil 2 (tm Z) fun t => (aw_ret ?_))))
  exact ⟨[.vec t], _, [(t, .vec 3 (([] : List api.Fault).map api.Fault.av))], ⟨tm Z, trivial⟩, AV.Le.refl _, Weak.mkL [0] (by decide) ⟨⟨_, Z, Z⟩, trivial⟩ trivial, ⟨t, Z, Z⟩⟩
 ·refine aw_skip (xr (xc Z (op_buildSlice (xs := ([] : List api.Fault).map api.Fault.av) (aparts := []) Z underlying23 sizeOf70 zeroValue70 (by decide) (by decide) trivial Z Z Z (xm Z Z Z (xc Z (op_appendNVM (sz := 3) Z underlying23 underlying23 (.inl Z) typeInfo70 Z Z Z (by decide) (tm Z) (given_sl (tm Z)) c ?_))))))
  intro t
  refine xm Z Z Z (xe (aw_ret ?_))
  exact ⟨[.vec t], _, [(t, .vec 3 ((([] : List api.Fault) ++ s).map api.Fault.av))], ⟨tm Z, trivial⟩, AV.Le.refl _, Weak.mkL [0] (by decide) ⟨⟨_, Z, Z⟩, trivial⟩ trivial, ⟨t, Z, Z⟩⟩

theorem disk.own.ok {d : api.Disk} {r : api.Disk} (h : disk.own d = some r) : Go.Lift.Spec prog 41 [.agg [.sl .no 3 (d.Files.map api.File.av), .sl .no 3 (d.Faults.map api.Fault.av)]] [] (fun v H => ∃ n0 n1, v = .agg [.vec n0, .vec n1] ∧ H = [(n0, .vec 3 (r.Files.map api.File.av)), (n1, .vec 3 (r.Faults.map api.Fault.av))]) := by
 unfold disk.own at h
 refine Go.Lift.Spec.of_body (rs := [.cell 2 25]) func41 Z Z (nb Z) Z (xr (xc Z (op_box (cs := [.sl .no 3 (d.Files.map api.File.av), .sl .no 3 (d.Faults.map api.Fault.av)]) (v := .agg [.sl .no 3 (d.Files.map api.File.av), .sl .no 3 (d.Faults.map api.Fault.av)]) Z (tm Z) Z Z ?_)))
 intro p7
 refine xc Z (op_alloc (cs := [.sl .full 3 (([] : List api.File).map api.File.av), .sl .full 3 (([] : List api.Fault).map api.Fault.av)]) (v := .agg [.sl .full 3 (([] : List api.File).map api.File.av), .sl .full 3 (([] : List api.Fault).map api.Fault.av)]) Z zeroValue25 Z Z Z ?_)
 intro p8
 refine xe (aw_seq ?_)
 obtain ⟨r9, r9e, h⟩ := bind_some h
 obtain ⟨r11, r11e, h⟩ := bind_some h
 refine aw_reserve fun p10 => (aw_reserve fun p12 => (aw_planR (by decide +kernel) [[], [(3, 0, false)], [(1, 0, true)], [], [(3, 0, false)], [(0, 0, true)], [], [(2, 0, true)]] [[5], [2], [7], []] [[[(p12, .resv)], [(p12, .vec 3 (r11.map api.Fault.av))]], [[(p10, .resv)], [(p10, .vec 3 (r9.map api.File.av))]], [[(p8, .cells [.sl .full 3 (([] : List api.File).map api.File.av), .sl .full 3 (([] : List api.Fault).map api.Fault.av)])], [(p8, .cells [.vec p10, .vec p12])]], [[(p7, .cells [.sl .no 3 (d.Files.map api.File.av), .sl .no 3 (d.Faults.map api.Fault.av)])]]] [.ptr p7 0, .sl .no 3 (d.Files.map api.File.av), .vec p10, .ptr p7 1, .sl .no 3 (d.Faults.map api.Fault.av), .vec p12, .agg [.vec p10, .vec p12], .un] (by decide +kernel) Z Z ?_ ?_))
 ·exact ⟨yp Z (fa Z underlying25 Z sizeOf22 Z Z Z), stepg_plain Z (op_load1 (i := 0) Z isAgg22 (tm Z) Z Z ⟨Z, Z⟩), stepg_plain Z (aop_settleV (op_call (vs := [.sl .no 3 (d.Files.map api.File.av)]) (H := []) (R := [(p10, .resv)]) Z call54 ⟨(tm Z), trivial⟩ (List.Perm.refl _) (slices.Clone_api_File.ok r9e) (by rintro _ _ ⟨t, rfl, rfl⟩; exact ⟨t, Z, Z⟩)) ⟨Z, Z⟩), yp Z (fa Z underlying25 Z sizeOf23 Z Z Z), stepg_plain Z (op_load1 (i := 0) Z isAgg23 (tm Z) Z Z ⟨Z, Z⟩), stepg_plain Z (aop_settleV (op_call (vs := [.sl .no 3 (d.Faults.map api.Fault.av)]) (H := []) (R := [(p12, .resv)]) Z call55 ⟨(tm Z), trivial⟩ (List.Perm.refl _) (slices.Clone_api_Fault.ok r11e) (by rintro _ _ ⟨t, rfl, rfl⟩; exact ⟨t, Z, Z⟩)) ⟨Z, Z⟩), yp Z (pu_build (zs := [.sl .full 3 (([] : List api.File).map api.File.av), .sl .full 3 (([] : List api.Fault).map api.Fault.av)]) (szs := [1, 1]) (aparts := [(0, .vec p10), (1, .vec p12)]) (cs := [.vec p10, .vec p12]) Z underlying25 zeroValue25 Z ⟨sizeOf22, sizeOf23, trivial⟩ ⟨Z, (tm Z), ⟨Z, (tm Z), trivial⟩⟩ Z), stepg_plain Z (op_store (i := 0) (cs' := [.vec p10, .vec p12]) Z sizeOf25 (tm Z) (v := .agg [.vec p10, .vec p12]) (tm Z) Z Z Z (nb Z) Z ⟨Z, Z⟩), trivial⟩
 refine aw_ret ?_
 obtain rfl := some_of h
 exact ⟨[.agg [.vec p10, .vec p12]], _, [(p10, .vec 3 (r9.map api.File.av)), (p12, .vec 3 (r11.map api.Fault.av))], ⟨(CellOk.agg 2 (tm Z) Z isAgg25 sizeOf25 (nb Z) Z), trivial⟩, vr, Weak.mkL [1, 0] (by decide) ⟨⟨_, Z, Z⟩, ⟨_, Z, Z⟩, trivial⟩ trivial, ⟨p10, p12, Z, Z⟩⟩

theorem disk.meets_1.ok {f : api.Fault} {a1_ : List UInt8} {a2_ : Int} {r : Bool} (h : disk.meets_1 f a1_ a2_ = some r) (o0 o1 : Nat) : Go.Lift.Spec prog 57 [.agg [.str f.Name, .i f.Kind, .i f.Short], .ptr o0 0, .ptr o1 0] [(o0, .cells [.str a1_]), (o1, .cells [.i a2_])] (fun v H => v = .bool r ∧ H = [(o0, .cells [.str a1_]), (o1, .cells [.i a2_])]) := by
 unfold disk.meets_1 at h
 refine Go.Lift.Spec.of_body (rs := [.tmp 4]) func57 Z Z (nb Z) Z (xr (xc Z (op_box (cs := [.str f.Name, .i f.Kind, .i f.Short]) (v := .agg [.str f.Name, .i f.Kind, .i f.Short]) Z (tm Z) Z Z ?_)))
 intro p7
 refine xa (.bool false) Z (pu_assign Z (AEv.bool _)) (xe ?_)
 obtain ⟨s9, s9e, h10⟩ := letO_of h
 refine aw_meet (ν := Unit) (fun v => [(4, .bool s9)]) (fun v => [(o0, .cells [.str a1_]), (o1, .cells [.i a2_])]) ?_ ?_
 ·have h := s9e.symm
  refine aw_region (xa (.ptr p7 0) Z (fa Z underlying70 Z sizeOf9 Z Z Z) (xc Z (op_load1 (i := 0) Z isAgg9 (tm Z) Z Z (xc Z (op_load1 (i := 1) Z isAgg9 (tm Z) Z Z (xa (.bool (decide (f.Name = a1_))) Z (pu_str (v := .bool (decide (f.Name = a1_))) Z Z (tm Z) (tm Z) Z) (xm Z Z Z ?_)))))))
  rcases Bool.eq_false_or_eq_true (decide (f.Name = a1_)) with hb12 | hb12
  ·replace h := ite_t (dec_t hb12) h
   refine aops_known 9 Z hb12 (xp (.ptr p7 1) Z Z (fa Z underlying70 Z sizeOf3 Z Z Z) (xg Z Z (op_load1 (i := 0) Z isAgg3 (tm Z) Z Z (xg Z Z (op_load1 (i := 2) Z isAgg3 (tm Z) Z Z (xp (.bool (decide (f.Kind = a2_))) Z Z (pu_int (v := .bool (decide (f.Kind = a2_))) Z Z (tm Z) (tm Z) Z) (xa (.bool (decide (f.Kind = a2_))) Z (pu_pick (b := true) Z (tm Z) (fun _ => (tm Z)) (fun h => nomatch h)) (xm Z Z Z (xe ?_)))))))))
   subst h
   exact ⟨(), Weak.mkL [1, 2] (by decide) ⟨⟨_, Z, ⟨vr, trivial⟩, Z⟩, ⟨_, Z, ⟨vr, trivial⟩, Z⟩, trivial⟩ ⟨(AEv.le (tm Z) vr), trivial⟩⟩
  ·replace h := ite_f (dec_f hb12) h
   refine aops_known 9 Z hb12 (xn Z Z Z (xn Z Z Z (xn Z Z Z (xn Z Z Z (xa (.bool false) Z (pu_pick (b := false) Z (tm Z) (fun h => nomatch h) (fun _ => (AEv.bool _))) (xm Z Z Z (xe ?_)))))))
   subst h
   exact ⟨(), Weak.mkL [1, 2] (by decide) ⟨⟨_, Z, ⟨vr, trivial⟩, Z⟩, ⟨_, Z, ⟨vr, trivial⟩, Z⟩, trivial⟩ ⟨tm Z, trivial⟩⟩
 ·intro _
  have h := h10
  refine aw_ret ?_
  obtain rfl := some_of h
  exact ⟨[.bool s9], _, [(o0, .cells [.str a1_]), (o1, .cells [.i a2_])], ⟨(tm Z), trivial⟩, vr, Weak.mkL [0, 1] (by decide) ⟨⟨_, Z, ⟨vr, trivial⟩, Z⟩, ⟨_, Z, ⟨vr, trivial⟩, Z⟩, trivial⟩ trivial, ⟨Z, Z⟩⟩

theorem slices.IndexFunc_api_Fault_v_disk_meets_1.ok {s_ : List api.Fault} {b1_ : List UInt8} {b2_ : Int} {r : Int} (h : slices.IndexFunc_api_Fault_v_disk_meets_1 s_ b1_ b2_ = some r) (o0 o1 o2 : Nat) : Go.Lift.Spec prog 56 [.vec o0, .fn 57 [.ptr o1 0, .ptr o2 0]] [(o0, .vec 3 (s_.map api.Fault.av)), (o1, .cells [.str b1_]), (o2, .cells [.i b2_])] (fun v H => v = .i r ∧ H = [(o0, .vec 3 (s_.map api.Fault.av)), (o1, .cells [.str b1_]), (o2, .cells [.i b2_])]) := by
 unfold slices.IndexFunc_api_Fault_v_disk_meets_1 at h
 refine Go.Lift.Spec.of_body (rs := [.tmp 4]) func56 Z Z (nb Z) Z (xr (xa (.i 0) Z (pu_assign Z (AEv.int _ _)) (xe ?_)))
 obtain ⟨s92, s92e, h69⟩ := bind_some h
 refine aw_join (σ := Unit) (ν := Unit) (fun u v => []) (fun u v => [(o0, .vec 3 (s_.map api.Fault.av)), (o1, .cells [.str b1_]), (o2, .cells [.i b2_])]) (fun u => s92 = .inl u) ?_ ?_
 ·intro s68
  intro _
  rintro rfl
  have h := onSum_inl h69
  refine xr (xa (.i (-1)) Z (pu_assign Z (AEv.int _ _)) (xe (aw_ret ?_)))
  obtain rfl := some_of h
  exact ⟨[.i (-1)], _, [(o0, .vec 3 (s_.map api.Fault.av)), (o1, .cells [.str b1_]), (o2, .cells [.i b2_])], ⟨(tm Z), trivial⟩, vr, Weak.mkL [0, 1, 2] (by decide) ⟨⟨_, Z, Z⟩, ⟨_, Z, ⟨vr, trivial⟩, Z⟩, ⟨_, Z, ⟨vr, trivial⟩, Z⟩, trivial⟩ trivial, ⟨Z, Z⟩⟩
 ·have h := s92e
  refine xr (xm Z Z Z (xc Z (op_lenVecM (i := 0) Z underlying23 (tm Z) Z (xa (.i 0) Z (pu_move Z (AEv.int _ _)) (xe (aw_block (aw_while (σ := slices.IndexFunc_api_Fault_v_disk_meets_1.S0) (ν := Unit) (slices.IndexFunc_api_Fault_v_disk_meets_1.body0 s_ b1_ b2_) (fun s83 v => [(0, .vec o0), (1, .fn 57 [.ptr o1 0, .ptr o2 0]), (7, .i (s_.length : Int)), (8, .i s83.t8)]) (fun s83 v => [(o0, .vec 3 (s_.map api.Fault.av)), (o1, .cells [.str b1_]), (o2, .cells [.i b2_])]) ⟨0⟩ () _ h (Weak.mkL [0, 1, 2] (by decide) ⟨⟨_, Z, Z⟩, ⟨_, Z, ⟨vr, trivial⟩, Z⟩, ⟨_, Z, ⟨vr, trivial⟩, Z⟩, trivial⟩ ⟨tm Z, tm Z, tm Z, tm Z, trivial⟩) ?_)))))))
  rintro s83 _ x85 h hx84
  unfold slices.IndexFunc_api_Fault_v_disk_meets_1.body0 at h
  refine xr (xa (.bool (decide (s83.t8 < (s_.length : Int)))) Z (pu_int (v := .bool (decide (s83.t8 < (s_.length : Int)))) Z Z (tm Z) (tm Z) Z) (xe (aw_seq (aw_cond (b := decide (s83.t8 < (s_.length : Int))) (tm Z) (fun hb91 => ?_) (fun hb91 => ?_)))))
  ·replace h := ite_t (dec_t hb91) h
   refine aw_skip (aw_seq (aw_block (xr (xm Z Z Z (xm Z Z Z (xe (aw_seq (aw_region ?_))))))))
   refine xm Z Z Z (xm Z Z Z (xm Z Z Z ?_))
   obtain ⟨c87, h⟩ := need_of h
   refine xc Z (op_indexAddrVecM Z underlying23 sizeOf70 (tm Z) (j := 0) Z (tm Z) c87 ?_)
   obtain ⟨c88, h⟩ := need_of h
   refine xc Z (op_loadENM (i := 0) (sz := 3) Z isAgg70 sizeOf70 (tm Z) Z c88 (by decide) Z ?_)
   obtain ⟨r89, r89e, h⟩ := bind_some h
   refine aops_weak (weak_pick [1, 2, 0] (by decide) Z) (xc Z (op_callV (vs := [.agg [.str (ix s_ s83.t8).Name, .i (ix s_ s83.t8).Kind, .i (ix s_ s83.t8).Short]]) (H := [(o1, .cells [.str b1_]), (o2, .cells [.i b2_])]) Z (tm Z) call57 ⟨(tm Z), trivial⟩ (List.Perm.refl _) (disk.meets_1.ok r89e o1 o2) ?_))
   rintro _ _ ⟨rfl, rfl⟩
   refine xe (aw_cond (b := r89) (tm Z) (fun hb90 => ?_) (fun hb90 => ?_))
   ·replace h := ite_t hb90 h
    refine xr (xm Z Z Z (xm Z Z Z (xe (aw_ret ?_))))
    obtain rfl := some_of h
    have h := congrArg some (hx84 _ rfl)
    obtain rfl := some_of h
    have h := onSum_inr h69
    obtain rfl := some_of h
    exact ⟨[.i s83.t8], _, [(o0, .vec 3 (s_.map api.Fault.av)), (o1, .cells [.str b1_]), (o2, .cells [.i b2_])], ⟨(tm Z), trivial⟩, vr, Weak.mkL [2, 0, 1] (by decide) ⟨⟨_, Z, Z⟩, ⟨_, Z, ⟨vr, trivial⟩, Z⟩, ⟨_, Z, ⟨vr, trivial⟩, Z⟩, trivial⟩ trivial, ⟨Z, Z⟩⟩
   ·replace h := ite_fb hb90 h
    refine aw_skip (aw_region (xa (.i (IntKind.wrap .i64 (s83.t8 + 1))) Z (pu_int (v := .i (IntKind.wrap .i64 (s83.t8 + 1))) Z Z (tm Z) (AEv.int _ _) Z) (xm Z Z Z (xe ?_))))
    obtain rfl := some_of h
    exact ⟨_, (), Z, Weak.mkL [2, 0, 1] (by decide) ⟨⟨_, Z, Z⟩, ⟨_, Z, ⟨vr, trivial⟩, Z⟩, ⟨_, Z, ⟨vr, trivial⟩, Z⟩, trivial⟩ ⟨tm Z, tm Z, tm Z, (AEv.le (tm Z) vr), trivial⟩⟩
  ·replace h := ite_f (dec_f hb91) h
   refine aw_exit ?_
   obtain rfl := some_of h
   have h := congrArg some (hx84 _ rfl)
   exact ⟨(), (), (some_of h).symm, Weak.mkL [0, 1, 2] (by decide) ⟨⟨_, Z, Z⟩, ⟨_, Z, ⟨vr, trivial⟩, Z⟩, ⟨_, Z, ⟨vr, trivial⟩, Z⟩, trivial⟩ trivial⟩

theorem slices.Delete_api_Fault_v.ok {s_ : List api.Fault} {i : Int} {j : Int} {r : List api.Fault} (h : slices.Delete_api_Fault_v s_ i j = some r) (o0 : Nat) : Go.Lift.Spec prog 58 [.vec o0, .i i, .i j] [(o0, .vec 3 (s_.map api.Fault.av))] (fun v H => ∃ n0, v = .vec n0 ∧ H = [(n0, .vec 3 (r.map api.Fault.av))]) := by
 unfold slices.Delete_api_Fault_v at h
 refine Go.Lift.Spec.of_body (rs := [.tmp 6]) func58 Z Z (nb Z) Z (xr (xa (.sl .full 3 (([] : List api.Fault).map api.Fault.av)) Z (pu_assign Z (AEv.nil 3 (by decide))) (xe (xr (xm Z Z Z (xm Z Z Z (xm Z Z Z ?_)))))))
 refine xm Z Z Z (xc Z (op_lenVecM (i := 0) Z underlying23 (tm Z) Z ?_))
 obtain ⟨c10, h⟩ := need_of h
 refine xc Z (op_slice3VM Z underlying23 sizeOf70 (tm Z) (q := 0) Z (tm Z) (tm Z) (tm Z) c10 (xe (aw_seq (xr (xm Z Z Z (xm Z Z Z (xa (.bool (decide (i = j))) Z (pu_int (v := .bool (decide (i = j))) Z Z (tm Z) (tm Z) Z) (xe (aw_cond (b := decide (i = j)) (tm Z) (fun hb20 => ?_) (fun hb20 => ?_))))))))))
 ·replace h := ite_t (dec_t hb20) h
  refine xr (xm Z Z Z (xm Z Z Z (xe (aw_ret ?_))))
  obtain rfl := some_of h
  exact ⟨[.vec o0], _, [(o0, .vec 3 (s_.map api.Fault.av))], ⟨(tm Z), trivial⟩, vr, Weak.mkL [0] (by decide) ⟨⟨_, Z, Z⟩, trivial⟩ trivial, ⟨o0, Z, Z⟩⟩
 ·replace h := ite_f (dec_f hb20) h
  refine aw_skip (xr (xm Z Z Z (xc Z (op_lenVecM (i := 0) Z underlying23 (tm Z) Z (xm Z Z Z (xe (aw_seq ?_)))))))
  obtain ⟨c11, h⟩ := need_of h
  obtain ⟨c12, h⟩ := need_of h
  obtain ⟨c13, h⟩ := need_of h
  refine aw_planR (by decide +kernel) [[], [], [(0, 0, false)], [], [], [(0, 0, false)], [(0, 0, true)], []] [[6]] [[[(o0, .vec 3 (s_.map api.Fault.av))], [(o0, .vec 3 ((mvL s_ (Int.toNat i) (Int.toNat j)).map api.Fault.av))]]] [.vec o0, .i i, .vsl o0 (Int.toNat 0) (Int.toNat i), .vec o0, .i j, .vsl o0 (Int.toNat j) (Int.toNat (s_.length : Int)), .vsl o0 (Int.toNat 0) (Int.toNat (i + ((s_.length : Int) - j))), .vsl o0 (Int.toNat 0) (Int.toNat (i + ((s_.length : Int) - j)))] (by decide +kernel) Z Z ?_ ?_
  ·exact ⟨ym Z Z Z, ym Z Z Z, stepg_plain Z (op_sliceVecM Z underlying23 sizeOf70 (tm Z) (q := 0) Z Z ⟨_, (tm Z)⟩ c11 ⟨Z, Z⟩), ym Z Z Z, ym Z Z Z, stepg_plain Z (op_sliceVecM Z underlying23 sizeOf70 (tm Z) (q := 0) Z ⟨_, (tm Z)⟩ Z c12 ⟨Z, Z⟩), stepg_plain Z (op_appendPPM (q := 0) Z underlying23 typeInfo70 Z Z (tm Z) (tm Z) Z c13 ⟨Z, Z⟩), ym Z Z Z, trivial⟩
  refine xr (xm Z Z Z (xm Z Z Z ?_))
  obtain ⟨c14, h⟩ := need_of h
  refine xa (.i ((i + ((s_.length : Int) - j)) - 0)) Z (pu_lenVslM Z underlying23 (tm Z) c14) (xm Z Z Z ?_)
  obtain ⟨c15, h⟩ := need_of h
  obtain ⟨c16, h⟩ := need_of h
  refine xc Z (op_sliceVslM Z underlying23 sizeOf70 (tm Z) (q := 0) Z ⟨_, (tm Z)⟩ ⟨_, (tm Z)⟩ c15 c16 ?_)
  obtain ⟨c17, h⟩ := need_of h
  refine ac0 Z Z (op_clearVM (q := 0) api.Fault.av (({ Name := ([] : List UInt8), Kind := 0, Short := 0 } : api.Fault) : api.Fault) Z underlying23 zeroValue70 Z Z (tm Z) Z c17 (xe (xr (xm Z Z Z (xm Z Z Z (xe ?_))))))
  obtain ⟨c18, h⟩ := need_of h
  refine aw_shrinkM 6 0 (tm Z) Z c18 fun p19 => (aw_ret ?_)
  obtain rfl := some_of h
  exact ⟨[.vec p19], _, [(p19, .vec 3 ((List.take (Int.toNat (i + ((s_.length : Int) - j))) (clrL (mvL s_ (Int.toNat i) (Int.toNat j)) (Int.toNat (0 + ((i + ((s_.length : Int) - j)) - 0))) (Int.toNat (0 + (s_.length : Int))) (({ Name := ([] : List UInt8), Kind := 0, Short := 0 } : api.Fault) : api.Fault))).map api.Fault.av))], ⟨(tm Z), trivial⟩, vr, Weak.mkL [0] (by decide) ⟨⟨_, Z, Z⟩, trivial⟩ trivial, ⟨p19, Z, Z⟩⟩

theorem disk.meets_v.ok {name : List UInt8} {kind : Int} {d : api.Disk} {r : api.Fault × Bool × api.Disk} (h : disk.meets_v name kind d = some r) (o0 o1 o2 : Nat) : Go.Lift.Spec prog 42 [.ptr o0 0, .str name, .i kind] [(o0, .cells [.vec o1, .vec o2]), (o1, .vec 3 (d.Files.map api.File.av)), (o2, .vec 3 (d.Faults.map api.Fault.av))] (fun v H => ∃ n0, v = .tup [.agg [.str r.1.Name, .i r.1.Kind, .i r.1.Short], .bool r.2.1] ∧ H = [(o0, .cells [.vec o1, .vec n0]), (o1, .vec 3 (d.Files.map api.File.av)), (n0, .vec 3 (r.2.2.Faults.map api.Fault.av))]) := by
 unfold disk.meets_v at h
 refine Go.Lift.Spec.of_body (rs := [.cell 6 70, .tmp 7]) func42 Z Z (nb Z) Z (xr (xc Z (op_box (cs := [.str name]) (v := .str name) Z (tm Z) Z Z ?_)))
 intro p11
 refine xc Z (op_box (cs := [.i kind]) (v := .i kind) Z (tm Z) Z Z ?_)
 intro p12
 refine xc Z (op_alloc (cs := [.str ([] : List UInt8), .i 0, .i 0]) (v := .agg [.str ([] : List UInt8), .i 0, .i 0]) Z zeroValue70 Z Z Z ?_)
 intro p13
 refine xa (.bool false) Z (pu_assign Z (AEv.bool _)) (xe (xr (xm Z Z Z (xa (.ptr o0 0) Z (pu_nilCheck Z (tm Z) Z) (xa (.ptr o0 1) Z (fa Z underlying25 Z sizeOf23 Z Z Z) (xc Z (op_load1 (i := 3) Z isAgg23 (tm Z) Z Z (xa (.fn 57 [.ptr p11 0, .ptr p12 0]) Z (pu_makeFunc Z ⟨(tm Z), (tm Z), trivial⟩) ?_))))))))
 obtain ⟨r14, r14e, h⟩ := bind_some h
 refine aops_weak (weak_pick [5, 2, 1, 0, 3, 4] (by decide) Z) (xc Z (op_call (vs := [.vec o2, .fn 57 [.ptr p11 0, .ptr p12 0]]) (H := [(o2, .vec 3 (d.Faults.map api.Fault.av)), (p11, .cells [.str name]), (p12, .cells [.i kind])]) Z call56 ⟨(tm Z), (tm Z), trivial⟩ (List.Perm.refl _) (slices.IndexFunc_api_Fault_v_disk_meets_1.ok r14e o2 p11 p12) ?_))
 rintro _ _ ⟨rfl, rfl⟩
 refine xm Z Z Z (xe (aw_seq (xr (xm Z Z Z (xa (.bool (decide (r14 < 0))) Z (pu_int (v := .bool (decide (r14 < 0))) Z Z (tm Z) (AEv.int _ _) Z) (xe (aw_cond (b := decide (r14 < 0)) (tm Z) (fun hb20 => ?_) (fun hb20 => ?_))))))))
 ·replace h := ite_t (dec_t hb20) h
  refine xr (xa (.agg [.str ([] : List UInt8), .i 0, .i 0]) Z (pu_build (zs := [.str ([] : List UInt8), .i 0, .i 0]) (szs := [1, 1, 1]) (aparts := []) (cs := [.str ([] : List UInt8), .i 0, .i 0]) Z underlying70 zeroValue70 Z ⟨sizeOf9, sizeOf3, sizeOf3, trivial⟩ trivial Z) (ac0 Z Z (op_store (i := 3) (cs' := [.str ([] : List UInt8), .i 0, .i 0]) Z sizeOf70 (tm Z) (v := .agg [.str ([] : List UInt8), .i 0, .i 0]) (tm Z) Z Z Z (nb Z) Z (xa (.bool false) Z (pu_assign Z (AEv.bool _)) (xe (aw_ret ?_))))))
  obtain rfl := some_of h
  exact ⟨[.agg [.str ([] : List UInt8), .i 0, .i 0], .bool false], .tup [.agg [.str ([] : List UInt8), .i 0, .i 0], .bool false], [(o0, .cells [.vec o1, .vec o2]), (o1, .vec 3 (d.Files.map api.File.av)), (o2, .vec 3 (d.Faults.map api.Fault.av))], ⟨(CellOk.agg 3 (tm Z) Z isAgg70 sizeOf70 (nb Z) Z), (tm Z), trivial⟩, (AV.Le.tup cr), Weak.mkL [4, 5, 0] (by decide) ⟨⟨_, Z, cr, Z⟩, ⟨_, Z, Z⟩, ⟨_, Z, Z⟩, trivial⟩ trivial, ⟨o2, Z, Z⟩⟩
 ·replace h := ite_f (dec_f hb20) h
  refine aw_skip (xr (xm Z Z Z (xa (.ptr o0 0) Z (pu_nilCheck Z (tm Z) Z) (xa (.ptr o0 1) Z (fa Z underlying25 Z sizeOf23 Z Z Z) (xc Z (op_load1 (i := 4) Z isAgg23 (tm Z) Z Z (xm Z Z Z ?_)))))))
  obtain ⟨c15, h⟩ := need_of h
  refine xc Z (op_indexAddrVecM Z underlying23 sizeOf70 (tm Z) (j := 0) Z (tm Z) c15 ?_)
  obtain ⟨c16, h⟩ := need_of h
  refine xc Z (op_loadENM (i := 0) (sz := 3) Z isAgg70 sizeOf70 (tm Z) Z c16 (by decide) Z (xc Z (op_alloc (cs := [.str ([] : List UInt8), .i 0, .i 0]) (v := .agg [.str ([] : List UInt8), .i 0, .i 0]) Z zeroValue70 Z Z Z ?_)))
  intro p17
  refine ac0 Z Z (op_store (i := 0) (cs' := [.str (ix d.Faults r14).Name, .i (ix d.Faults r14).Kind, .i (ix d.Faults r14).Short]) Z sizeOf70 (tm Z) (v := .agg [.str (ix d.Faults r14).Name, .i (ix d.Faults r14).Kind, .i (ix d.Faults r14).Short]) (tm Z) Z Z Z (nb Z) Z (xe (xr (xm Z Z Z (xm Z Z Z (xa (.ptr o0 0) Z (pu_nilCheck Z (tm Z) Z) (xa (.ptr o0 1) Z (fa Z underlying25 Z sizeOf23 Z Z Z) (xc Z (op_load1 (i := 5) Z isAgg23 (tm Z) Z Z (xm Z Z Z ?_))))))))))
  refine xm Z Z Z (xa (.i (IntKind.wrap .i64 (r14 + 1))) Z (pu_int (v := .i (IntKind.wrap .i64 (r14 + 1))) Z Z (tm Z) (AEv.int _ _) Z) ?_)
  obtain ⟨r18, r18e, h⟩ := bind_some h
  refine aops_weak (weak_pick [1, 0, 2, 3, 4, 5, 6] (by decide) Z) (xc Z (op_call (vs := [.vec o2, .i r14, .i (IntKind.wrap .i64 (r14 + 1))]) (H := [(o2, .vec 3 (d.Faults.map api.Fault.av))]) Z call58 ⟨(tm Z), (tm Z), (tm Z), trivial⟩ (List.Perm.refl _) (slices.Delete_api_Fault_v.ok r18e o2) ?_))
  rintro _ _ ⟨t19, rfl, rfl⟩
  refine xa (.ptr o0 0) Z (pu_nilCheck Z (tm Z) Z) (xa (.ptr o0 1) Z (fa Z underlying25 Z sizeOf23 Z Z Z) (ac0 Z Z (op_store (i := 5) (cs' := [.vec o1, .vec t19]) Z sizeOf23 (tm Z) (v := .vec t19) (tm Z) Z Z Z (nb Z) Z (xe (xr (xc Z (op_loadN (i := 1) Z isAgg70 sizeOf70 (tm Z) Z (nb Z) Z (ac0 Z Z (op_store (i := 4) (cs' := [.str (ix d.Faults r14).Name, .i (ix d.Faults r14).Kind, .i (ix d.Faults r14).Short]) Z sizeOf70 (tm Z) (v := .agg [.str (ix d.Faults r14).Name, .i (ix d.Faults r14).Kind, .i (ix d.Faults r14).Short]) (tm Z) Z Z Z (nb Z) Z (xa (.bool true) Z (pu_assign Z (AEv.bool _)) (xe ?_)))))))))))
  refine aw_ret ?_
  obtain rfl := some_of h
  exact ⟨[.agg [.str (ix d.Faults r14).Name, .i (ix d.Faults r14).Kind, .i (ix d.Faults r14).Short], .bool true], .tup [.agg [.str (ix d.Faults r14).Name, .i (ix d.Faults r14).Kind, .i (ix d.Faults r14).Short], .bool true], [(o0, .cells [.vec o1, .vec t19]), (o1, .vec 3 (d.Files.map api.File.av)), (t19, .vec 3 (r18.map api.Fault.av))], ⟨(CellOk.agg 4 (tm Z) Z isAgg70 sizeOf70 (nb Z) Z), (tm Z), trivial⟩, (AV.Le.tup cr), Weak.mkL [5, 6, 0] (by decide) ⟨⟨_, Z, cr, Z⟩, ⟨_, Z, Z⟩, ⟨_, Z, Z⟩, trivial⟩ trivial, ⟨t19, Z, Z⟩⟩

theorem disk.find_1.ok {f : api.File} {a1_ : List UInt8} {r : Bool} (h : disk.find_1 f a1_ = some r) (o0 : Nat) : Go.Lift.Spec prog 46 [.agg [.str f.Name, .str f.Data, .i f.Synced], .ptr o0 0] [(o0, .cells [.str a1_])] (fun v H => v = .bool r ∧ H = [(o0, .cells [.str a1_])]) := by
 unfold disk.find_1 at h
 refine Go.Lift.Spec.of_body (rs := [.tmp 3]) func46 Z Z (nb Z) Z (xr (xc Z (op_box (cs := [.str f.Name, .str f.Data, .i f.Synced]) (v := .agg [.str f.Name, .str f.Data, .i f.Synced]) Z (tm Z) Z Z ?_)))
 intro p2
 refine xa (.bool false) Z (pu_assign Z (AEv.bool _)) (xe (xr (xa (.ptr p2 0) Z (fa Z underlying48 Z sizeOf9 Z Z Z) (xc Z (op_load1 (i := 0) Z isAgg9 (tm Z) Z Z (xc Z (op_load1 (i := 1) Z isAgg9 (tm Z) Z Z (xa (.bool (decide (f.Name = a1_))) Z (pu_str (v := .bool (decide (f.Name = a1_))) Z Z (tm Z) (tm Z) Z) (xm Z Z Z (xe ?_))))))))))
 refine aw_ret ?_
 obtain rfl := some_of h
 exact ⟨[.bool (decide (f.Name = a1_))], _, [(o0, .cells [.str a1_])], ⟨(tm Z), trivial⟩, vr, Weak.mkL [1] (by decide) ⟨⟨_, Z, ⟨vr, trivial⟩, Z⟩, trivial⟩ trivial, ⟨Z, Z⟩⟩

theorem slices.IndexFunc_api_File_v_disk_find_1.ok {s_ : List api.File} {b1_ : List UInt8} {r : Int} (h : slices.IndexFunc_api_File_v_disk_find_1 s_ b1_ = some r) (o0 o1 : Nat) : Go.Lift.Spec prog 45 [.vec o0, .fn 46 [.ptr o1 0]] [(o0, .vec 3 (s_.map api.File.av)), (o1, .cells [.str b1_])] (fun v H => v = .i r ∧ H = [(o0, .vec 3 (s_.map api.File.av)), (o1, .cells [.str b1_])]) := by
 unfold slices.IndexFunc_api_File_v_disk_find_1 at h
 refine Go.Lift.Spec.of_body (rs := [.tmp 4]) func45 Z Z (nb Z) Z (xr (xa (.i 0) Z (pu_assign Z (AEv.int _ _)) (xe ?_)))
 obtain ⟨s92, s92e, h69⟩ := bind_some h
 refine aw_join (σ := Unit) (ν := Unit) (fun u v => []) (fun u v => [(o0, .vec 3 (s_.map api.File.av)), (o1, .cells [.str b1_])]) (fun u => s92 = .inl u) ?_ ?_
 ·intro s68
  intro _
  rintro rfl
  have h := onSum_inl h69
  refine xr (xa (.i (-1)) Z (pu_assign Z (AEv.int _ _)) (xe (aw_ret ?_)))
  obtain rfl := some_of h
  exact ⟨[.i (-1)], _, [(o0, .vec 3 (s_.map api.File.av)), (o1, .cells [.str b1_])], ⟨(tm Z), trivial⟩, vr, Weak.mkL [0, 1] (by decide) ⟨⟨_, Z, Z⟩, ⟨_, Z, ⟨vr, trivial⟩, Z⟩, trivial⟩ trivial, ⟨Z, Z⟩⟩
 ·have h := s92e
  refine xr (xm Z Z Z (xc Z (op_lenVecM (i := 0) Z underlying22 (tm Z) Z (xa (.i 0) Z (pu_move Z (AEv.int _ _)) (xe (aw_block (aw_while (σ := slices.IndexFunc_api_File_v_disk_find_1.S0) (ν := Unit) (slices.IndexFunc_api_File_v_disk_find_1.body0 s_ b1_) (fun s83 v => [(0, .vec o0), (1, .fn 46 [.ptr o1 0]), (7, .i (s_.length : Int)), (8, .i s83.t8)]) (fun s83 v => [(o0, .vec 3 (s_.map api.File.av)), (o1, .cells [.str b1_])]) ⟨0⟩ () _ h (Weak.mkL [0, 1] (by decide) ⟨⟨_, Z, Z⟩, ⟨_, Z, ⟨vr, trivial⟩, Z⟩, trivial⟩ ⟨tm Z, tm Z, tm Z, tm Z, trivial⟩) ?_)))))))
  rintro s83 _ x85 h hx84
  unfold slices.IndexFunc_api_File_v_disk_find_1.body0 at h
  refine xr (xa (.bool (decide (s83.t8 < (s_.length : Int)))) Z (pu_int (v := .bool (decide (s83.t8 < (s_.length : Int)))) Z Z (tm Z) (tm Z) Z) (xe (aw_seq (aw_cond (b := decide (s83.t8 < (s_.length : Int))) (tm Z) (fun hb91 => ?_) (fun hb91 => ?_)))))
  ·replace h := ite_t (dec_t hb91) h
   refine aw_skip (aw_seq (aw_block (xr (xm Z Z Z (xm Z Z Z (xe (aw_seq (aw_region ?_))))))))
   refine xm Z Z Z (xm Z Z Z (xm Z Z Z ?_))
   obtain ⟨c87, h⟩ := need_of h
   refine xc Z (op_indexAddrVecM Z underlying22 sizeOf48 (tm Z) (j := 0) Z (tm Z) c87 ?_)
   obtain ⟨c88, h⟩ := need_of h
   refine xc Z (op_loadENM (i := 0) (sz := 3) Z isAgg48 sizeOf48 (tm Z) Z c88 (by decide) Z ?_)
   obtain ⟨r89, r89e, h⟩ := bind_some h
   refine aops_weak (weak_pick [1, 0] (by decide) Z) (xc Z (op_callV (vs := [.agg [.str (ix s_ s83.t8).Name, .str (ix s_ s83.t8).Data, .i (ix s_ s83.t8).Synced]]) (H := [(o1, .cells [.str b1_])]) Z (tm Z) call46 ⟨(tm Z), trivial⟩ (List.Perm.refl _) (disk.find_1.ok r89e o1) ?_))
   rintro _ _ ⟨rfl, rfl⟩
   refine xe (aw_cond (b := r89) (tm Z) (fun hb90 => ?_) (fun hb90 => ?_))
   ·replace h := ite_t hb90 h
    refine xr (xm Z Z Z (xm Z Z Z (xe (aw_ret ?_))))
    obtain rfl := some_of h
    have h := congrArg some (hx84 _ rfl)
    obtain rfl := some_of h
    have h := onSum_inr h69
    obtain rfl := some_of h
    exact ⟨[.i s83.t8], _, [(o0, .vec 3 (s_.map api.File.av)), (o1, .cells [.str b1_])], ⟨(tm Z), trivial⟩, vr, Weak.mkL [1, 0] (by decide) ⟨⟨_, Z, Z⟩, ⟨_, Z, ⟨vr, trivial⟩, Z⟩, trivial⟩ trivial, ⟨Z, Z⟩⟩
   ·replace h := ite_fb hb90 h
    refine aw_skip (aw_region (xa (.i (IntKind.wrap .i64 (s83.t8 + 1))) Z (pu_int (v := .i (IntKind.wrap .i64 (s83.t8 + 1))) Z Z (tm Z) (AEv.int _ _) Z) (xm Z Z Z (xe ?_))))
    obtain rfl := some_of h
    exact ⟨_, (), Z, Weak.mkL [1, 0] (by decide) ⟨⟨_, Z, Z⟩, ⟨_, Z, ⟨vr, trivial⟩, Z⟩, trivial⟩ ⟨tm Z, tm Z, tm Z, (AEv.le (tm Z) vr), trivial⟩⟩
  ·replace h := ite_f (dec_f hb91) h
   refine aw_exit ?_
   obtain rfl := some_of h
   have h := congrArg some (hx84 _ rfl)
   exact ⟨(), (), (some_of h).symm, Weak.mkL [0, 1] (by decide) ⟨⟨_, Z, Z⟩, ⟨_, Z, ⟨vr, trivial⟩, Z⟩, trivial⟩ trivial⟩

theorem disk.find_v.ok {d : api.Disk} {name : List UInt8} {r : Int} (h : disk.find_v d name = some r) (o0 o1 : Nat) : Go.Lift.Spec prog 25 [.agg [.vec o0, .vec o1], .str name] [(o0, .vec 3 (d.Files.map api.File.av)), (o1, .vec 3 (d.Faults.map api.Fault.av))] (fun v H => v = .i r ∧ H = [(o0, .vec 3 (d.Files.map api.File.av)), (o1, .vec 3 (d.Faults.map api.Fault.av))]) := by
 unfold disk.find_v at h
 refine Go.Lift.Spec.of_body (rs := [.tmp 4]) func25 Z Z (nb Z) Z (xr (xc Z (op_box (cs := [.vec o0, .vec o1]) (v := .agg [.vec o0, .vec o1]) Z (tm Z) Z Z ?_)))
 intro p4
 refine xc Z (op_box (cs := [.str name]) (v := .str name) Z (tm Z) Z Z ?_)
 intro p5
 refine xa (.i 0) Z (pu_assign Z (AEv.int _ _)) (xe (xr (xa (.ptr p4 0) Z (fa Z underlying25 Z sizeOf22 Z Z Z) (xc Z (op_load1 (i := 1) Z isAgg22 (tm Z) Z Z (xa (.fn 46 [.ptr p5 0]) Z (pu_makeFunc Z ⟨(tm Z), trivial⟩) ?_))))))
 obtain ⟨r6, r6e, h⟩ := bind_some h
 refine aops_weak (weak_pick [2, 0, 1, 3] (by decide) Z) (xc Z (op_call (vs := [.vec o0, .fn 46 [.ptr p5 0]]) (H := [(o0, .vec 3 (d.Files.map api.File.av)), (p5, .cells [.str name])]) Z call45 ⟨(tm Z), (tm Z), trivial⟩ (List.Perm.refl _) (slices.IndexFunc_api_File_v_disk_find_1.ok r6e o0 p5) ?_))
 rintro _ _ ⟨rfl, rfl⟩
 refine xm Z Z Z (xe (aw_ret ?_))
 obtain rfl := some_of h
 exact ⟨[.i r6], _, [(o0, .vec 3 (d.Files.map api.File.av)), (o1, .vec 3 (d.Faults.map api.Fault.av))], ⟨(tm Z), trivial⟩, vr, Weak.mkL [0, 3] (by decide) ⟨⟨_, Z, Z⟩, ⟨_, Z, Z⟩, trivial⟩ trivial, ⟨Z, Z⟩⟩

theorem disk.safe.ok {f : api.File} {r : Int} (h : disk.safe f = some r) : Go.Lift.Spec prog 26 [.agg [.str f.Name, .str f.Data, .i f.Synced]] [] (fun v H => v = .i r ∧ H = []) := by
 unfold disk.safe at h
 refine Go.Lift.Spec.of_body (rs := [.tmp 2]) func26 Z Z (nb Z) Z (xr (xc Z (op_box (cs := [.str f.Name, .str f.Data, .i f.Synced]) (v := .agg [.str f.Name, .str f.Data, .i f.Synced]) Z (tm Z) Z Z ?_)))
 intro p2
 refine xa (.i 0) Z (pu_assign Z (AEv.int _ _)) (xe (xr (xa (.ptr p2 2) Z (fa Z underlying48 Z sizeOf3 Z Z Z) (xc Z (op_load1 (i := 0) Z isAgg3 (tm Z) Z Z (xa (.i (if f.Synced < 0 then 0 else f.Synced)) Z (pu_max2 Z (tm Z) (AEv.int _ _)) (xa (.ptr p2 1) Z (fa Z underlying48 Z sizeOf9 Z Z Z) (xc Z (op_load1 (i := 0) Z isAgg9 (tm Z) Z Z (xa (.i (f.Data.length : Int)) Z (pu_strLen Z underlying9 (tm Z)) ?_))))))))))
 refine xa (.i (if (f.Data.length : Int) < (if f.Synced < 0 then 0 else f.Synced) then (f.Data.length : Int) else (if f.Synced < 0 then 0 else f.Synced))) Z (pu_min2 Z (tm Z) (tm Z)) (xm Z Z Z (xe (aw_ret ?_)))
 obtain rfl := some_of h
 exact ⟨[.i (if (f.Data.length : Int) < (if f.Synced < 0 then 0 else f.Synced) then (f.Data.length : Int) else (if f.Synced < 0 then 0 else f.Synced))], _, [], ⟨(tm Z), trivial⟩, vr, Weak.mkL [] (by decide) trivial trivial, ⟨Z, Z⟩⟩

theorem disk.Write.ok {d : api.Disk} {name : List UInt8} {s_ : List UInt8} {r : api.Disk × Int × Int} (h : disk.Write d name s_ = some r) : Go.Lift.Spec prog 19 [.agg [.sl .no 3 (d.Files.map api.File.av), .sl .no 3 (d.Faults.map api.Fault.av)], .str name, .str s_] [] (fun v H => ∃ n0 n1, v = .tup [.agg [.vec n0, .vec n1], .i r.2.1, .i r.2.2] ∧ H = [(n0, .vec 3 (r.1.Files.map api.File.av)), (n1, .vec 3 (r.1.Faults.map api.Fault.av))]) := by
 unfold disk.Write at h
 refine Go.Lift.Spec.of_body (rs := [.cell 6 25, .tmp 7, .tmp 8]) func19 Z Z (nb Z) Z (xr (xc Z (op_box (cs := [.sl .no 3 (d.Files.map api.File.av), .sl .no 3 (d.Faults.map api.Fault.av)]) (v := .agg [.sl .no 3 (d.Files.map api.File.av), .sl .no 3 (d.Faults.map api.Fault.av)]) Z (tm Z) Z Z ?_)))
 intro p38
 refine xc Z (op_alloc (cs := [.sl .full 3 (([] : List api.File).map api.File.av), .sl .full 3 (([] : List api.Fault).map api.Fault.av)]) (v := .agg [.sl .full 3 (([] : List api.File).map api.File.av), .sl .full 3 (([] : List api.Fault).map api.Fault.av)]) Z zeroValue25 Z Z Z ?_)
 intro p39
 refine xa (.i 0) Z (pu_assign Z (AEv.int _ _)) (xa (.i 0) Z (pu_assign Z (AEv.int _ _)) (xe (xr (xc Z (op_loadN (i := 1) Z isAgg25 sizeOf25 (tm Z) Z (nb Z) Z ?_)))))
 obtain ⟨r40, r40e, h⟩ := bind_some h
 refine xc Z (op_call (vs := [.agg [.sl .no 3 (d.Files.map api.File.av), .sl .no 3 (d.Faults.map api.Fault.av)]]) (H := []) Z call41 ⟨(tm Z), trivial⟩ (List.Perm.refl _) (disk.own.ok r40e) ?_)
 rintro _ _ ⟨t41, t42, rfl, rfl⟩
 refine ac0 Z Z (op_store (i := 3) (cs' := [.vec t41, .vec t42]) Z sizeOf25 (tm Z) (v := .agg [.vec t41, .vec t42]) (tm Z) Z Z Z (nb Z) Z (xe (xr (xa (.i 0) Z (pu_assign Z (AEv.int _ _)) (xe ?_)))))
 obtain ⟨s48, s48e, h50⟩ := bind_some h
 refine aw_meet (ν := Nat) (fun v => [(1, .str name), (2, .str s48.1), (3, .ptr p38 0), (6, .ptr p39 0), (9, .i s48.2.1)]) (fun v => [(p38, .cells [.vec t41, .vec v]), (p39, .cells [.sl .full 3 (([] : List api.File).map api.File.av), .sl .full 3 (([] : List api.Fault).map api.Fault.av)]), (t41, .vec 3 (r40.Files.map api.File.av)), (v, .vec 3 (s48.2.2.map api.Fault.av))]) ?_ ?_
 ·have h := s48e
  refine xr (xm Z Z Z ?_)
  obtain ⟨r52, r52e, h⟩ := bind_some h
  refine aops_weak (weak_pick [3, 0, 1, 2] (by decide) Z) (xc Z (op_call (vs := [.ptr p38 0, .str name, .i 1]) (H := [(p38, .cells [.vec t41, .vec t42]), (t41, .vec 3 (r40.Files.map api.File.av)), (t42, .vec 3 (r40.Faults.map api.Fault.av))]) Z call42 ⟨(tm Z), (tm Z), (AEv.int _ _), trivial⟩ (List.Perm.refl _) (disk.meets_v.ok r52e p38 t41 t42) ?_))
  rintro _ _ ⟨t53, rfl, rfl⟩
  refine xm Z Z Z (xa (.agg [.str r52.1.Name, .i r52.1.Kind, .i r52.1.Short]) Z (pu_extract Z (tm Z) (nb Z) Z) (xa (.bool r52.2.1) Z (pu_extract Z (tm Z) (nb Z) Z) (xc Z (op_alloc (cs := [.str ([] : List UInt8), .i 0, .i 0]) (v := .agg [.str ([] : List UInt8), .i 0, .i 0]) Z zeroValue70 Z Z Z ?_))))
  intro p54
  refine ac0 Z Z (op_store (i := 0) (cs' := [.str r52.1.Name, .i r52.1.Kind, .i r52.1.Short]) Z sizeOf70 (tm Z) (v := .agg [.str r52.1.Name, .i r52.1.Kind, .i r52.1.Short]) (tm Z) Z Z Z (nb Z) Z (xm Z Z Z (xe (xr (xm Z Z Z (xe (aw_cond (b := r52.2.1) (tm Z) (fun hb56 => ?_) (fun hb56 => ?_))))))))
  ·replace h := ite_t hb56 h
   refine aw_region (xm Z Z Z (xa (.ptr p54 2) Z (fa Z underlying70 Z sizeOf3 Z Z Z) (xc Z (op_load1 (i := 0) Z isAgg3 (tm Z) Z Z (xa (.i (if r52.1.Short < 0 then 0 else r52.1.Short)) Z (pu_max2 Z (tm Z) (AEv.int _ _)) (xm Z Z Z (xa (.i (s_.length : Int)) Z (pu_strLen Z underlying9 (tm Z)) (xa (.i (if (s_.length : Int) < (if r52.1.Short < 0 then 0 else r52.1.Short) then (s_.length : Int) else (if r52.1.Short < 0 then 0 else r52.1.Short))) Z (pu_min2 Z (tm Z) (tm Z)) ?_))))))))
   obtain ⟨c55, h⟩ := need_of h
   refine xa (.str (sub s_ 0 (if (s_.length : Int) < (if r52.1.Short < 0 then 0 else r52.1.Short) then (s_.length : Int) else (if r52.1.Short < 0 then 0 else r52.1.Short)))) Z (pu_strSliceM Z underlying9 (tm Z) Z ⟨_, (tm Z)⟩ c55) (xm Z Z Z (xa (.i 15) Z (pu_assign Z (AEv.int _ _)) (xe ?_)))
   obtain rfl := some_of h
   exact ⟨t53, Weak.mkL [1, 4, 2, 3] (by decide) ⟨⟨_, Z, cr, Z⟩, ⟨_, Z, cr, Z⟩, ⟨_, Z, Z⟩, ⟨_, Z, Z⟩, trivial⟩ ⟨tm Z, (AEv.le (tm Z) vr), tm Z, tm Z, tm Z, trivial⟩⟩
  ·replace h := ite_fb hb56 h
   refine aw_skip ?_
   obtain rfl := some_of h
   exact ⟨t53, Weak.mkL [1, 4, 2, 3] (by decide) ⟨⟨_, Z, cr, Z⟩, ⟨_, Z, cr, Z⟩, ⟨_, Z, Z⟩, ⟨_, Z, Z⟩, trivial⟩ ⟨tm Z, tm Z, tm Z, tm Z, tm Z, trivial⟩⟩
 ·intro n49
  have h := h50
  refine xr (xc Z (op_loadN (i := 0) Z isAgg25 sizeOf25 (tm Z) Z (nb Z) Z (xm Z Z Z ?_)))
  obtain ⟨r57, r57e, h⟩ := bind_some h
  refine aops_weak (weak_pick [2, 3, 0, 1] (by decide) Z) (xc Z (op_call (vs := [.agg [.vec t41, .vec n49], .str name]) (H := [(t41, .vec 3 (r40.Files.map api.File.av)), (n49, .vec 3 (s48.2.2.map api.Fault.av))]) Z call25 ⟨(tm Z), (tm Z), trivial⟩ (List.Perm.refl _) (disk.find_v.ok r57e t41 n49) ?_))
  rintro _ _ ⟨rfl, rfl⟩
  refine xm Z Z Z (xe ?_)
  obtain ⟨s61, s61e, h63⟩ := bind_some h
  refine aw_meet (ν := Nat) (fun v => [(2, .str s48.1), (3, .ptr p38 0), (6, .ptr p39 0), (9, .i s48.2.1), (12, .i s61.1)]) (fun v => [(p38, .cells [.vec v, .vec n49]), (p39, .cells [.sl .full 3 (([] : List api.File).map api.File.av), .sl .full 3 (([] : List api.Fault).map api.Fault.av)]), (v, .vec 3 (s61.2.map api.File.av)), (n49, .vec 3 (s48.2.2.map api.Fault.av))]) ?_ ?_
  ·have h := s61e
   refine xr (xm Z Z Z (xa (.bool (decide (r57 < 0))) Z (pu_int (v := .bool (decide (r57 < 0))) Z Z (tm Z) (AEv.int _ _) Z) (xe (aw_cond (b := decide (r57 < 0)) (tm Z) (fun hb67 => ?_) (fun hb67 => ?_)))))
   ·replace h := ite_t (dec_t hb67) h
    refine xr (xa (.ptr p38 0) Z (fa Z underlying25 Z sizeOf22 Z Z Z) (xc Z (op_load1 (i := 2) Z isAgg22 (tm Z) Z Z (xc Z (op_lenVecM (i := 0) Z underlying22 (tm Z) Z (xm Z Z Z (xe (aw_region (xa (.ptr p38 0) Z (fa Z underlying25 Z sizeOf22 Z Z Z) (xc Z (op_load1 (i := 2) Z isAgg22 (tm Z) Z Z ?_)))))))))))
    refine xm Z Z Z (xa (.agg [.str name, .str ([] : List UInt8), .i 0]) Z (pu_build (zs := [.str ([] : List UInt8), .str ([] : List UInt8), .i 0]) (szs := [1, 1, 1]) (aparts := [(0, .str name)]) (cs := [.str name, .str ([] : List UInt8), .i 0]) Z underlying48 zeroValue48 Z ⟨sizeOf9, sizeOf9, sizeOf3, trivial⟩ ⟨Z, (tm Z), trivial⟩ Z) (xc Z (op_buildSlice (xs := ([({ Name := name, Data := ([] : List UInt8), Synced := 0 } : api.File)] : List api.File).map api.File.av) (aparts := [(0, .agg [.str name, .str ([] : List UInt8), .i 0])]) Z underlying22 sizeOf48 zeroValue48 (by decide) (by decide) ⟨Z, (tm Z), trivial⟩ Z Z Z ?_)))
    obtain ⟨c65, h⟩ := need_of h
    refine xc Z (op_appendVM (sz := 3) (q := 0) Z underlying22 underlying22 (.inl Z) typeInfo48 Z Z Z (by decide) (tm Z) Z (given_sl (tm Z)) c65 ?_)
    intro p66
    refine xa (.ptr p38 0) Z (fa Z underlying25 Z sizeOf22 Z Z Z) (ac0 Z Z (op_store (i := 2) (cs' := [.vec p66, .vec n49]) Z sizeOf22 (tm Z) (v := .vec p66) (tm Z) Z Z Z (nb Z) Z (xe ?_)))
    obtain rfl := some_of h
    exact ⟨p66, Weak.mkL [2, 3, 0, 1] (by decide) ⟨⟨_, Z, cr, Z⟩, ⟨_, Z, cr, Z⟩, ⟨_, Z, Z⟩, ⟨_, Z, Z⟩, trivial⟩ ⟨tm Z, tm Z, tm Z, tm Z, tm Z, trivial⟩⟩
   ·replace h := ite_f (dec_f hb67) h
    refine aw_skip ?_
    obtain rfl := some_of h
    exact ⟨t41, Weak.mkL [2, 3, 0, 1] (by decide) ⟨⟨_, Z, cr, Z⟩, ⟨_, Z, cr, Z⟩, ⟨_, Z, Z⟩, ⟨_, Z, Z⟩, trivial⟩ ⟨tm Z, tm Z, tm Z, tm Z, tm Z, trivial⟩⟩
  ·intro n62
   have h := h63
   refine xr (xa (.ptr p38 0) Z (fa Z underlying25 Z sizeOf22 Z Z Z) (xc Z (op_load1 (i := 0) Z isAgg22 (tm Z) Z Z (xm Z Z Z ?_))))
   obtain ⟨c68, h⟩ := need_of h
   refine xc Z (op_indexAddrVecM Z underlying22 sizeOf48 (tm Z) (j := 2) Z (tm Z) c68 (xm Z Z Z (xe (xr (xm Z Z Z (xm Z Z Z (xa (.eptr n62 (s61.1).toNat 0) Z (pu_nilCheck Z (tm Z) Z) ?_)))))))
   obtain ⟨c69, h⟩ := need_of h
   refine xc Z (op_loadENM (i := 2) (sz := 3) Z isAgg48 sizeOf48 (tm Z) Z c69 (by decide) Z ?_)
   obtain ⟨r70, r70e, h⟩ := bind_some h
   refine xc Z (op_call (vs := [.agg [.str (ix s61.2 s61.1).Name, .str (ix s61.2 s61.1).Data, .i (ix s61.2 s61.1).Synced]]) (H := []) Z call26 ⟨(tm Z), trivial⟩ (List.Perm.refl _) (disk.safe.ok r70e) ?_)
   rintro _ _ ⟨rfl, rfl⟩
   refine xa (.eptr n62 (s61.1).toNat 0) Z (pu_nilCheck Z (tm Z) Z) (xa (.eptr n62 (s61.1).toNat 2) Z (fa Z underlying48 Z sizeOf3 Z Z Z) ?_)
   obtain ⟨c71, h⟩ := need_of h
   refine ac0 Z Z (op_storeEM (i := 2) (sz := 3) (y' := { (ix s61.2 s61.1) with Synced := r70 }) Z sizeOf3 (tm Z) (v := .i r70) (tm Z) Z c71 Z Z (by decide) Z (xe (xr (xm Z Z Z (xa (.eptr n62 (s61.1).toNat 0) Z (pu_nilCheck Z (tm Z) Z) (xa (.eptr n62 (s61.1).toNat 1) Z (fa Z underlying48 Z sizeOf9 Z Z Z) ?_))))))
   obtain ⟨c72, h⟩ := need_of h
   refine xc Z (op_loadE1M (i := 2) (sz := 3) Z isAgg9 (tm Z) Z c72 (by decide) Z (xm Z Z Z ?_))
   obtain ⟨c73, h⟩ := need_of h
   refine xa (.str ((ix (upd s61.2 s61.1 { (ix s61.2 s61.1) with Synced := r70 }) s61.1).Data ++ s48.1)) Z (pu_strAdd Z (tm Z) (tm Z) c73) (xa (.eptr n62 (s61.1).toNat 0) Z (pu_nilCheck Z (tm Z) Z) (xa (.eptr n62 (s61.1).toNat 1) Z (fa Z underlying48 Z sizeOf9 Z Z Z) ?_))
   obtain ⟨c74, h⟩ := need_of h
   refine ac0 Z Z (op_storeEM (i := 2) (sz := 3) (y' := ({ Name := (ix (upd s61.2 s61.1 { (ix s61.2 s61.1) with Synced := r70 }) s61.1).Name, Data := (ix (upd s61.2 s61.1 { (ix s61.2 s61.1) with Synced := r70 }) s61.1).Data ++ s48.1, Synced := (ix (upd s61.2 s61.1 { (ix s61.2 s61.1) with Synced := r70 }) s61.1).Synced } : api.File)) Z sizeOf9 (tm Z) (v := .str ((ix (upd s61.2 s61.1 { (ix s61.2 s61.1) with Synced := r70 }) s61.1).Data ++ s48.1)) (tm Z) Z c74 Z Z (by decide) Z (xe (xr (xc Z (op_loadN (i := 0) Z isAgg25 sizeOf25 (tm Z) Z (nb Z) Z (xm Z Z Z (xa (.i (s48.1.length : Int)) Z (pu_strLen Z underlying9 (tm Z)) (xm Z Z Z (ac0 Z Z (op_store (i := 1) (cs' := [.vec n62, .vec n49]) Z sizeOf25 (tm Z) (v := .agg [.vec n62, .vec n49]) (tm Z) Z Z Z (nb Z) Z (xm Z Z Z ?_)))))))))))
   refine xm Z Z Z (xe (aw_ret ?_))
   obtain rfl := some_of h
   exact ⟨[.agg [.vec n62, .vec n49], .i (s48.1.length : Int), .i s48.2.1], .tup [.agg [.vec n62, .vec n49], .i (s48.1.length : Int), .i s48.2.1], [(n62, .vec 3 ((upd (upd s61.2 s61.1 { (ix s61.2 s61.1) with Synced := r70 }) s61.1 ({ Name := (ix (upd s61.2 s61.1 { (ix s61.2 s61.1) with Synced := r70 }) s61.1).Name, Data := (ix (upd s61.2 s61.1 { (ix s61.2 s61.1) with Synced := r70 }) s61.1).Data ++ s48.1, Synced := (ix (upd s61.2 s61.1 { (ix s61.2 s61.1) with Synced := r70 }) s61.1).Synced } : api.File)).map api.File.av)), (n49, .vec 3 (s48.2.2.map api.Fault.av))], ⟨(CellOk.agg 1 (tm Z) Z isAgg25 sizeOf25 (nb Z) Z), (tm Z), (tm Z), trivial⟩, (AV.Le.tup cr), Weak.mkL [2, 3] (by decide) ⟨⟨_, Z, Z⟩, ⟨_, Z, Z⟩, trivial⟩ trivial, ⟨n62, n49, Z, Z⟩⟩

theorem disk.Sync.ok {d : api.Disk} {name : List UInt8} {r : api.Disk × Int} (h : disk.Sync d name = some r) : Go.Lift.Spec prog 20 [.agg [.sl .no 3 (d.Files.map api.File.av), .sl .no 3 (d.Faults.map api.Fault.av)], .str name] [] (fun v H => ∃ n0 n1, v = .tup [.agg [.vec n0, .vec n1], .i r.2] ∧ H = [(n0, .vec 3 (r.1.Files.map api.File.av)), (n1, .vec 3 (r.1.Faults.map api.Fault.av))]) := by
 unfold disk.Sync at h
 refine Go.Lift.Spec.of_body (rs := [.cell 4 25, .tmp 5]) func20 Z Z (nb Z) Z (xr (xc Z (op_box (cs := [.sl .no 3 (d.Files.map api.File.av), .sl .no 3 (d.Faults.map api.Fault.av)]) (v := .agg [.sl .no 3 (d.Files.map api.File.av), .sl .no 3 (d.Faults.map api.Fault.av)]) Z (tm Z) Z Z ?_)))
 intro p16
 refine xc Z (op_alloc (cs := [.sl .full 3 (([] : List api.File).map api.File.av), .sl .full 3 (([] : List api.Fault).map api.Fault.av)]) (v := .agg [.sl .full 3 (([] : List api.File).map api.File.av), .sl .full 3 (([] : List api.Fault).map api.Fault.av)]) Z zeroValue25 Z Z Z ?_)
 intro p17
 refine xa (.i 0) Z (pu_assign Z (AEv.int _ _)) (xe (xr (xc Z (op_loadN (i := 1) Z isAgg25 sizeOf25 (tm Z) Z (nb Z) Z ?_))))
 obtain ⟨r18, r18e, h⟩ := bind_some h
 refine xc Z (op_call (vs := [.agg [.sl .no 3 (d.Files.map api.File.av), .sl .no 3 (d.Faults.map api.Fault.av)]]) (H := []) Z call41 ⟨(tm Z), trivial⟩ (List.Perm.refl _) (disk.own.ok r18e) ?_)
 rintro _ _ ⟨t19, t20, rfl, rfl⟩
 refine ac0 Z Z (op_store (i := 3) (cs' := [.vec t19, .vec t20]) Z sizeOf25 (tm Z) (v := .agg [.vec t19, .vec t20]) (tm Z) Z Z Z (nb Z) Z (xe (xr (xc Z (op_loadN (i := 3) Z isAgg25 sizeOf25 (tm Z) Z (nb Z) Z (xm Z Z Z ?_))))))
 obtain ⟨r21, r21e, h⟩ := bind_some h
 refine xc Z (op_call (vs := [.agg [.vec t19, .vec t20], .str name]) (H := [(t19, .vec 3 (r18.Files.map api.File.av)), (t20, .vec 3 (r18.Faults.map api.Fault.av))]) Z call25 ⟨(tm Z), (tm Z), trivial⟩ (List.Perm.refl _) (disk.find_v.ok r21e t19 t20) ?_)
 rintro _ _ ⟨rfl, rfl⟩
 refine xm Z Z Z (xe (aw_seq (xr (xm Z Z Z (xa (.bool (decide (r21 < 0))) Z (pu_int (v := .bool (decide (r21 < 0))) Z Z (tm Z) (AEv.int _ _) Z) (xe (aw_cond (b := decide (r21 < 0)) (tm Z) (fun hb30 => ?_) (fun hb30 => ?_))))))))
 ·replace h := ite_t (dec_t hb30) h
  refine xr (xc Z (op_loadN (i := 3) Z isAgg25 sizeOf25 (tm Z) Z (nb Z) Z (ac0 Z Z (op_store (i := 2) (cs' := [.vec t19, .vec t20]) Z sizeOf25 (tm Z) (v := .agg [.vec t19, .vec t20]) (tm Z) Z Z Z (nb Z) Z (xa (.i 8) Z (pu_assign Z (AEv.int _ _)) (xe (aw_ret ?_)))))))
  obtain rfl := some_of h
  exact ⟨[.agg [.vec t19, .vec t20], .i 8], .tup [.agg [.vec t19, .vec t20], .i 8], [(t19, .vec 3 (r18.Files.map api.File.av)), (t20, .vec 3 (r18.Faults.map api.Fault.av))], ⟨(CellOk.agg 2 (tm Z) Z isAgg25 sizeOf25 (nb Z) Z), (tm Z), trivial⟩, (AV.Le.tup cr), Weak.mkL [0, 1] (by decide) ⟨⟨_, Z, Z⟩, ⟨_, Z, Z⟩, trivial⟩ trivial, ⟨t19, t20, Z, Z⟩⟩
 ·replace h := ite_f (dec_f hb30) h
  refine aw_skip (aw_seq (xr (xm Z Z Z ?_)))
  obtain ⟨r22, r22e, h⟩ := bind_some h
  refine aops_weak (weak_pick [3, 0, 1, 2] (by decide) Z) (xc Z (op_call (vs := [.ptr p16 0, .str name, .i 2]) (H := [(p16, .cells [.vec t19, .vec t20]), (t19, .vec 3 (r18.Files.map api.File.av)), (t20, .vec 3 (r18.Faults.map api.Fault.av))]) Z call42 ⟨(tm Z), (tm Z), (AEv.int _ _), trivial⟩ (List.Perm.refl _) (disk.meets_v.ok r22e p16 t19 t20) ?_))
  rintro _ _ ⟨t23, rfl, rfl⟩
  refine xm Z Z Z (xa (.agg [.str r22.1.Name, .i r22.1.Kind, .i r22.1.Short]) Z (pu_extract Z (tm Z) (nb Z) Z) (xa (.bool r22.2.1) Z (pu_extract Z (tm Z) (nb Z) Z) (xc Z (op_alloc (cs := [.str ([] : List UInt8), .i 0, .i 0]) (v := .agg [.str ([] : List UInt8), .i 0, .i 0]) Z zeroValue70 Z Z Z ?_))))
  intro p24
  refine ac0 Z Z (op_store (i := 0) (cs' := [.str r22.1.Name, .i r22.1.Kind, .i r22.1.Short]) Z sizeOf70 (tm Z) (v := .agg [.str r22.1.Name, .i r22.1.Kind, .i r22.1.Short]) (tm Z) Z Z Z (nb Z) Z (xm Z Z Z (xe (xr (xm Z Z Z (xe (aw_cond (b := r22.2.1) (tm Z) (fun hb29 => ?_) (fun hb29 => ?_))))))))
  ·replace h := ite_t hb29 h
   refine xr (xc Z (op_loadN (i := 1) Z isAgg25 sizeOf25 (tm Z) Z (nb Z) Z (ac0 Z Z (op_store (i := 4) (cs' := [.vec t19, .vec t23]) Z sizeOf25 (tm Z) (v := .agg [.vec t19, .vec t23]) (tm Z) Z Z Z (nb Z) Z (xa (.i 15) Z (pu_assign Z (AEv.int _ _)) (xe (aw_ret ?_)))))))
   obtain rfl := some_of h
   exact ⟨[.agg [.vec t19, .vec t23], .i 15], .tup [.agg [.vec t19, .vec t23], .i 15], [(t19, .vec 3 (r18.Files.map api.File.av)), (t23, .vec 3 (r22.2.2.Faults.map api.Fault.av))], ⟨(CellOk.agg 4 (tm Z) Z isAgg25 sizeOf25 (nb Z) Z), (tm Z), trivial⟩, (AV.Le.tup cr), Weak.mkL [2, 3] (by decide) ⟨⟨_, Z, Z⟩, ⟨_, Z, Z⟩, trivial⟩ trivial, ⟨t19, t23, Z, Z⟩⟩
  ·replace h := ite_fb hb29 h
   refine aw_skip (aw_seq ?_)
   obtain ⟨c25, h⟩ := need_of h
   obtain ⟨c26, h⟩ := need_of h
   obtain ⟨c27, h⟩ := need_of h
   obtain ⟨c28, h⟩ := need_of h
   refine aw_planR (by decide +kernel) [[], [(1, 0, false)], [], [], [(1, 0, false)], [], [(2, 0, false)], [], [(2, 0, false)], [], [(2, 0, false)], [], [(2, 0, true)]] [[], [], [12], [], []] [[[(p24, .cells [.str r22.1.Name, .i r22.1.Kind, .i r22.1.Short])]], [[(p16, .cells [.vec t19, .vec t23])]], [[(t19, .vec 3 (r18.Files.map api.File.av))], [(t19, .vec 3 ((upd r18.Files r21 { (ix r18.Files r21) with Synced := ((ix r18.Files r21).Data.length : Int) }).map api.File.av))]], [[(t23, .vec 3 (r22.2.2.Faults.map api.Fault.av))]], [[(p17, .cells [.sl .full 3 (([] : List api.File).map api.File.av), .sl .full 3 (([] : List api.Fault).map api.Fault.av)])]]] [.ptr p16 0, .vec t19, .i r21, .ptr p16 0, .vec t19, .i r21, .eptr t19 (r21).toNat 0, .eptr t19 (r21).toNat 1, .str (ix r18.Files r21).Data, .i ((ix r18.Files r21).Data.length : Int), .eptr t19 (r21).toNat 0, .eptr t19 (r21).toNat 2, .un] (by decide +kernel) Z Z ?_ ?_
   ·exact ⟨yp Z (fa Z underlying25 Z sizeOf22 Z Z Z), stepg_plain Z (op_load1 (i := 0) Z isAgg22 (tm Z) Z Z ⟨Z, Z⟩), ym Z Z Z, yp Z (fa Z underlying25 Z sizeOf22 Z Z Z), stepg_plain Z (op_load1 (i := 0) Z isAgg22 (tm Z) Z Z ⟨Z, Z⟩), ym Z Z Z, stepg_plain Z (op_indexAddrVecM Z underlying22 sizeOf48 (tm Z) (j := 0) Z (tm Z) c25 ⟨Z, Z⟩), yp Z (fa Z underlying48 Z sizeOf9 Z Z Z), stepg_plain Z (op_loadE1M (i := 0) (sz := 3) Z isAgg9 (tm Z) Z c26 (by decide) Z ⟨Z, Z⟩), yp Z (pu_strLen Z underlying9 (tm Z)), stepg_plain Z (op_indexAddrVecM Z underlying22 sizeOf48 (tm Z) (j := 0) Z (tm Z) c27 ⟨Z, Z⟩), yp Z (fa Z underlying48 Z sizeOf3 Z Z Z), stepg_plain Z (op_storeEM (i := 0) (sz := 3) (y' := { (ix r18.Files r21) with Synced := ((ix r18.Files r21).Data.length : Int) }) Z sizeOf3 (tm Z) (v := .i ((ix r18.Files r21).Data.length : Int)) (tm Z) Z c28 Z Z (by decide) Z ⟨Z, Z⟩), trivial⟩
   refine xr (xc Z (op_loadN (i := 1) Z isAgg25 sizeOf25 (tm Z) Z (nb Z) Z (ac0 Z Z (op_store (i := 4) (cs' := [.vec t19, .vec t23]) Z sizeOf25 (tm Z) (v := .agg [.vec t19, .vec t23]) (tm Z) Z Z Z (nb Z) Z (xa (.i 0) Z (pu_assign Z (AEv.int _ _)) (xe (aw_ret ?_)))))))
   obtain rfl := some_of h
   exact ⟨[.agg [.vec t19, .vec t23], .i 0], .tup [.agg [.vec t19, .vec t23], .i 0], [(t19, .vec 3 ((upd r18.Files r21 { (ix r18.Files r21) with Synced := ((ix r18.Files r21).Data.length : Int) }).map api.File.av)), (t23, .vec 3 (r22.2.2.Faults.map api.Fault.av))], ⟨(CellOk.agg 4 (tm Z) Z isAgg25 sizeOf25 (nb Z) Z), (tm Z), trivial⟩, (AV.Le.tup cr), Weak.mkL [2, 3] (by decide) ⟨⟨_, Z, Z⟩, ⟨_, Z, Z⟩, trivial⟩ trivial, ⟨t19, t23, Z, Z⟩⟩

theorem slices.IndexFunc_api_File_disk_find_1.ok {s_ : List api.File} {b0_ : List UInt8} {r : Int} (h : slices.IndexFunc_api_File_disk_find_1 s_ b0_ = some r) (o0 : Nat) : Go.Lift.Spec prog 45 [.sl .no 3 (s_.map api.File.av), .fn 46 [.ptr o0 0]] [(o0, .cells [.str b0_])] (fun v H => v = .i r ∧ H = [(o0, .cells [.str b0_])]) := by
 unfold slices.IndexFunc_api_File_disk_find_1 at h
 refine Go.Lift.Spec.of_body (rs := [.tmp 4]) func45 Z Z (nb Z) Z (xr (xa (.i 0) Z (pu_assign Z (AEv.int _ _)) (xe ?_)))
 obtain ⟨s80, s80e, h60⟩ := bind_some h
 refine aw_join (σ := Unit) (ν := Unit) (fun u v => []) (fun u v => [(o0, .cells [.str b0_])]) (fun u => s80 = .inl u) ?_ ?_
 ·intro s59
  intro _
  rintro rfl
  have h := onSum_inl h60
  refine xr (xa (.i (-1)) Z (pu_assign Z (AEv.int _ _)) (xe (aw_ret ?_)))
  obtain rfl := some_of h
  exact ⟨[.i (-1)], _, [(o0, .cells [.str b0_])], ⟨(tm Z), trivial⟩, vr, Weak.mkL [0] (by decide) ⟨⟨_, Z, ⟨vr, trivial⟩, Z⟩, trivial⟩ trivial, ⟨Z, Z⟩⟩
 ·have h := s80e
  refine xr (xm Z Z Z (xa (.i (s_.length : Int)) Z (pu_lenM Z underlying22 (tm Z)) (xa (.i 0) Z (pu_move Z (AEv.int _ _)) (xe (aw_block (aw_while (σ := slices.IndexFunc_api_File_disk_find_1.S0) (ν := Unit) (slices.IndexFunc_api_File_disk_find_1.body0 s_ b0_) (fun s72 v => [(0, .sl .no 3 (s_.map api.File.av)), (1, .fn 46 [.ptr o0 0]), (7, .i (s_.length : Int)), (8, .i s72.t8)]) (fun s72 v => [(o0, .cells [.str b0_])]) ⟨0⟩ () _ h (Weak.mkL [0] (by decide) ⟨⟨_, Z, ⟨vr, trivial⟩, Z⟩, trivial⟩ ⟨tm Z, tm Z, tm Z, tm Z, trivial⟩) ?_))))))
  rintro s72 _ x74 h hx73
  unfold slices.IndexFunc_api_File_disk_find_1.body0 at h
  refine xr (xa (.bool (decide (s72.t8 < (s_.length : Int)))) Z (pu_int (v := .bool (decide (s72.t8 < (s_.length : Int)))) Z Z (tm Z) (tm Z) Z) (xe (aw_seq (aw_cond (b := decide (s72.t8 < (s_.length : Int))) (tm Z) (fun hb79 => ?_) (fun hb79 => ?_)))))
  ·replace h := ite_t (dec_t hb79) h
   refine aw_skip (aw_seq (aw_block (xr (xm Z Z Z (xm Z Z Z (xe (aw_seq (aw_region ?_))))))))
   refine xm Z Z Z (xm Z Z Z (xm Z Z Z ?_))
   obtain ⟨c76, h⟩ := need_of h
   refine xa (.vptr [.str (ix s_ s72.t8).Name, .str (ix s_ s72.t8).Data, .i (ix s_ s72.t8).Synced]) Z (pu_indexAddrM Z underlying22 sizeOf48 (tm Z) (tm Z) c76 Z) (xc Z (op_loadVN Z isAgg48 sizeOf48 (tm Z) (nb Z) Z ?_))
   obtain ⟨r77, r77e, h⟩ := bind_some h
   refine xc Z (op_callV (vs := [.agg [.str (ix s_ s72.t8).Name, .str (ix s_ s72.t8).Data, .i (ix s_ s72.t8).Synced]]) (H := [(o0, .cells [.str b0_])]) Z (tm Z) call46 ⟨(tm Z), trivial⟩ (List.Perm.refl _) (disk.find_1.ok r77e o0) ?_)
   rintro _ _ ⟨rfl, rfl⟩
   refine xe (aw_cond (b := r77) (tm Z) (fun hb78 => ?_) (fun hb78 => ?_))
   ·replace h := ite_t hb78 h
    refine xr (xm Z Z Z (xm Z Z Z (xe (aw_ret ?_))))
    obtain rfl := some_of h
    have h := congrArg some (hx73 _ rfl)
    obtain rfl := some_of h
    have h := onSum_inr h60
    obtain rfl := some_of h
    exact ⟨[.i s72.t8], _, [(o0, .cells [.str b0_])], ⟨(tm Z), trivial⟩, vr, Weak.mkL [0] (by decide) ⟨⟨_, Z, ⟨vr, trivial⟩, Z⟩, trivial⟩ trivial, ⟨Z, Z⟩⟩
   ·replace h := ite_fb hb78 h
    refine aw_skip (aw_region (xa (.i (IntKind.wrap .i64 (s72.t8 + 1))) Z (pu_int (v := .i (IntKind.wrap .i64 (s72.t8 + 1))) Z Z (tm Z) (AEv.int _ _) Z) (xm Z Z Z (xe ?_))))
    obtain rfl := some_of h
    exact ⟨_, (), Z, Weak.mkL [0] (by decide) ⟨⟨_, Z, ⟨vr, trivial⟩, Z⟩, trivial⟩ ⟨tm Z, tm Z, tm Z, (AEv.le (tm Z) vr), trivial⟩⟩
  ·replace h := ite_f (dec_f hb79) h
   refine aw_exit ?_
   obtain rfl := some_of h
   have h := congrArg some (hx73 _ rfl)
   exact ⟨(), (), (some_of h).symm, Weak.mkL [0] (by decide) ⟨⟨_, Z, ⟨vr, trivial⟩, Z⟩, trivial⟩ trivial⟩

theorem disk.find.ok {d : api.Disk} {name : List UInt8} {r : Int} (h : disk.find d name = some r) : Go.Lift.Spec prog 25 [.agg [.sl .no 3 (d.Files.map api.File.av), .sl .no 3 (d.Faults.map api.Fault.av)], .str name] [] (fun v H => v = .i r ∧ H = []) := by
 unfold disk.find at h
 refine Go.Lift.Spec.of_body (rs := [.tmp 4]) func25 Z Z (nb Z) Z (xr (xc Z (op_box (cs := [.sl .no 3 (d.Files.map api.File.av), .sl .no 3 (d.Faults.map api.Fault.av)]) (v := .agg [.sl .no 3 (d.Files.map api.File.av), .sl .no 3 (d.Faults.map api.Fault.av)]) Z (tm Z) Z Z ?_)))
 intro p4
 refine xc Z (op_box (cs := [.str name]) (v := .str name) Z (tm Z) Z Z ?_)
 intro p5
 refine xa (.i 0) Z (pu_assign Z (AEv.int _ _)) (xe (xr (xa (.ptr p4 0) Z (fa Z underlying25 Z sizeOf22 Z Z Z) (xc Z (op_load1 (i := 1) Z isAgg22 (tm Z) Z Z (xa (.fn 46 [.ptr p5 0]) Z (pu_makeFunc Z ⟨(tm Z), trivial⟩) ?_))))))
 obtain ⟨r6, r6e, h⟩ := bind_some h
 refine xc Z (op_call (vs := [.sl .no 3 (d.Files.map api.File.av), .fn 46 [.ptr p5 0]]) (H := [(p5, .cells [.str name])]) Z call45 ⟨(tm Z), (tm Z), trivial⟩ (List.Perm.refl _) (slices.IndexFunc_api_File_disk_find_1.ok r6e p5) ?_)
 rintro _ _ ⟨rfl, rfl⟩
 refine xm Z Z Z (xe (aw_ret ?_))
 obtain rfl := some_of h
 exact ⟨[.i r6], _, [], ⟨(tm Z), trivial⟩, vr, Weak.mkL [] (by decide) trivial trivial, ⟨Z, Z⟩⟩

theorem disk.Crash_1.ok {k_ : api.Keep} {a1_ : api.File} {r : Bool} (h : disk.Crash_1 k_ a1_ = some r) (o0 : Nat) : Go.Lift.Spec prog 28 [.agg [.str k_.Name, .i k_.Bytes], .ptr o0 0] [(o0, .cells [.str a1_.Name, .str a1_.Data, .i a1_.Synced])] (fun v H => v = .bool r ∧ H = [(o0, .cells [.str a1_.Name, .str a1_.Data, .i a1_.Synced])]) := by
 unfold disk.Crash_1 at h
 refine Go.Lift.Spec.of_body (rs := [.tmp 3]) func28 Z Z (nb Z) Z (xr (xc Z (op_box (cs := [.str k_.Name, .i k_.Bytes]) (v := .agg [.str k_.Name, .i k_.Bytes]) Z (tm Z) Z Z ?_)))
 intro p2
 refine xa (.bool false) Z (pu_assign Z (AEv.bool _)) (xe (xr (xa (.ptr p2 0) Z (fa Z underlying56 Z sizeOf9 Z Z Z) (xc Z (op_load1 (i := 0) Z isAgg9 (tm Z) Z Z (xa (.ptr o0 0) Z (fa Z underlying48 Z sizeOf9 Z Z Z) (xc Z (op_load1 (i := 1) Z isAgg9 (tm Z) Z Z (xa (.bool (decide (k_.Name = a1_.Name))) Z (pu_str (v := .bool (decide (k_.Name = a1_.Name))) Z Z (tm Z) (tm Z) Z) (xm Z Z Z ?_))))))))))
 refine xe (aw_ret ?_)
 obtain rfl := some_of h
 exact ⟨[.bool (decide (k_.Name = a1_.Name))], _, [(o0, .cells [.str a1_.Name, .str a1_.Data, .i a1_.Synced])], ⟨(tm Z), trivial⟩, vr, Weak.mkL [1] (by decide) ⟨⟨_, Z, cr, Z⟩, trivial⟩ trivial, ⟨Z, Z⟩⟩

theorem slices.IndexFunc_api_Keep_disk_Crash_1.ok {s_ : List api.Keep} {b0_ : api.File} {r : Int} (h : slices.IndexFunc_api_Keep_disk_Crash_1 s_ b0_ = some r) (o0 : Nat) : Go.Lift.Spec prog 27 [.sl .no 2 (s_.map api.Keep.av), .fn 28 [.ptr o0 0]] [(o0, .cells [.str b0_.Name, .str b0_.Data, .i b0_.Synced])] (fun v H => v = .i r ∧ H = [(o0, .cells [.str b0_.Name, .str b0_.Data, .i b0_.Synced])]) := by
 unfold slices.IndexFunc_api_Keep_disk_Crash_1 at h
 refine Go.Lift.Spec.of_body (rs := [.tmp 4]) func27 Z Z (nb Z) Z (xr (xa (.i 0) Z (pu_assign Z (AEv.int _ _)) (xe ?_)))
 obtain ⟨s80, s80e, h60⟩ := bind_some h
 refine aw_join (σ := Unit) (ν := Unit) (fun u v => []) (fun u v => [(o0, .cells [.str b0_.Name, .str b0_.Data, .i b0_.Synced])]) (fun u => s80 = .inl u) ?_ ?_
 ·intro s59
  intro _
  rintro rfl
  have h := onSum_inl h60
  refine xr (xa (.i (-1)) Z (pu_assign Z (AEv.int _ _)) (xe (aw_ret ?_)))
  obtain rfl := some_of h
  exact ⟨[.i (-1)], _, [(o0, .cells [.str b0_.Name, .str b0_.Data, .i b0_.Synced])], ⟨(tm Z), trivial⟩, vr, Weak.mkL [0] (by decide) ⟨⟨_, Z, cr, Z⟩, trivial⟩ trivial, ⟨Z, Z⟩⟩
 ·have h := s80e
  refine xr (xm Z Z Z (xa (.i (s_.length : Int)) Z (pu_lenM Z underlying38 (tm Z)) (xa (.i 0) Z (pu_move Z (AEv.int _ _)) (xe (aw_block (aw_while (σ := slices.IndexFunc_api_Keep_disk_Crash_1.S0) (ν := Unit) (slices.IndexFunc_api_Keep_disk_Crash_1.body0 s_ b0_) (fun s72 v => [(0, .sl .no 2 (s_.map api.Keep.av)), (1, .fn 28 [.ptr o0 0]), (7, .i (s_.length : Int)), (8, .i s72.t8)]) (fun s72 v => [(o0, .cells [.str b0_.Name, .str b0_.Data, .i b0_.Synced])]) ⟨0⟩ () _ h (Weak.mkL [0] (by decide) ⟨⟨_, Z, cr, Z⟩, trivial⟩ ⟨tm Z, tm Z, tm Z, tm Z, trivial⟩) ?_))))))
  rintro s72 _ x74 h hx73
  unfold slices.IndexFunc_api_Keep_disk_Crash_1.body0 at h
  refine xr (xa (.bool (decide (s72.t8 < (s_.length : Int)))) Z (pu_int (v := .bool (decide (s72.t8 < (s_.length : Int)))) Z Z (tm Z) (tm Z) Z) (xe (aw_seq (aw_cond (b := decide (s72.t8 < (s_.length : Int))) (tm Z) (fun hb79 => ?_) (fun hb79 => ?_)))))
  ·replace h := ite_t (dec_t hb79) h
   refine aw_skip (aw_seq (aw_block (xr (xm Z Z Z (xm Z Z Z (xe (aw_seq (aw_region ?_))))))))
   refine xm Z Z Z (xm Z Z Z (xm Z Z Z ?_))
   obtain ⟨c76, h⟩ := need_of h
   refine xa (.vptr [.str (ix s_ s72.t8).Name, .i (ix s_ s72.t8).Bytes]) Z (pu_indexAddrM Z underlying38 sizeOf56 (tm Z) (tm Z) c76 Z) (xc Z (op_loadVN Z isAgg56 sizeOf56 (tm Z) (nb Z) Z ?_))
   obtain ⟨r77, r77e, h⟩ := bind_some h
   refine xc Z (op_callV (vs := [.agg [.str (ix s_ s72.t8).Name, .i (ix s_ s72.t8).Bytes]]) (H := [(o0, .cells [.str b0_.Name, .str b0_.Data, .i b0_.Synced])]) Z (tm Z) call28 ⟨(tm Z), trivial⟩ (List.Perm.refl _) (disk.Crash_1.ok r77e o0) ?_)
   rintro _ _ ⟨rfl, rfl⟩
   refine xe (aw_cond (b := r77) (tm Z) (fun hb78 => ?_) (fun hb78 => ?_))
   ·replace h := ite_t hb78 h
    refine xr (xm Z Z Z (xm Z Z Z (xe (aw_ret ?_))))
    obtain rfl := some_of h
    have h := congrArg some (hx73 _ rfl)
    obtain rfl := some_of h
    have h := onSum_inr h60
    obtain rfl := some_of h
    exact ⟨[.i s72.t8], _, [(o0, .cells [.str b0_.Name, .str b0_.Data, .i b0_.Synced])], ⟨(tm Z), trivial⟩, vr, Weak.mkL [0] (by decide) ⟨⟨_, Z, cr, Z⟩, trivial⟩ trivial, ⟨Z, Z⟩⟩
   ·replace h := ite_fb hb78 h
    refine aw_skip (aw_region (xa (.i (IntKind.wrap .i64 (s72.t8 + 1))) Z (pu_int (v := .i (IntKind.wrap .i64 (s72.t8 + 1))) Z Z (tm Z) (AEv.int _ _) Z) (xm Z Z Z (xe ?_))))
    obtain rfl := some_of h
    exact ⟨_, (), Z, Weak.mkL [0] (by decide) ⟨⟨_, Z, cr, Z⟩, trivial⟩ ⟨tm Z, tm Z, tm Z, (AEv.le (tm Z) vr), trivial⟩⟩
  ·replace h := ite_f (dec_f hb79) h
   refine aw_exit ?_
   obtain rfl := some_of h
   have h := congrArg some (hx73 _ rfl)
   exact ⟨(), (), (some_of h).symm, Weak.mkL [0] (by decide) ⟨⟨_, Z, cr, Z⟩, trivial⟩ trivial⟩

theorem disk.Crash.ok {d : api.Disk} {keeps : List api.Keep} {r : api.Disk} (h : disk.Crash d keeps = some r) : Go.Lift.Spec prog 11 [.agg [.sl .no 3 (d.Files.map api.File.av), .sl .no 3 (d.Faults.map api.Fault.av)], .sl .no 2 (keeps.map api.Keep.av)] [] (fun v H => ∃ n0, v = .agg [.sl (.own n0) 3 (r.Files.map api.File.av), .sl .full 3 (r.Faults.map api.Fault.av)] ∧ H = [(n0, .spare)]) := by
 unfold disk.Crash at h
 refine Go.Lift.Spec.of_body (rs := [.cell 4 25]) func11 Z Z (nb Z) Z (xr (xc Z (op_box (cs := [.sl .no 3 (d.Files.map api.File.av), .sl .no 3 (d.Faults.map api.Fault.av)]) (v := .agg [.sl .no 3 (d.Files.map api.File.av), .sl .no 3 (d.Faults.map api.Fault.av)]) Z (tm Z) Z Z ?_)))
 intro p273
 refine xc Z (op_alloc (cs := [.sl .full 3 (([] : List api.File).map api.File.av), .sl .full 3 (([] : List api.Fault).map api.Fault.av)]) (v := .agg [.sl .full 3 (([] : List api.File).map api.File.av), .sl .full 3 (([] : List api.Fault).map api.Fault.av)]) Z zeroValue25 Z Z Z ?_)
 intro p274
 refine xe (xr (xa (.sl .full 3 (([] : List api.File).map api.File.av)) Z (pu_assign Z (AEv.nil 3 (by decide))) (xe ?_)))
 obtain ⟨s408, s408e, h410⟩ := bind_some h
 refine aw_meet (ν := Nat) (fun v => [(4, .ptr p274 0), (5, .sl (.own v) 3 (s408.map api.File.av))]) (fun v => [(p274, .cells [.sl .full 3 (([] : List api.File).map api.File.av), .sl .full 3 (([] : List api.Fault).map api.Fault.av)]), (v, .spare)]) ?_ ?_
 ·have h := s408e
  refine xr (xa (.ptr p273 0) Z (fa Z underlying25 Z sizeOf22 Z Z Z) (xc Z (op_load1 (i := 1) Z isAgg22 (tm Z) Z Z (xa (.i (d.Files.length : Int)) Z (pu_lenM Z underlying22 (tm Z)) (xa (.i 0) Z (pu_move Z (AEv.int _ _)) (xe (aw_block (aw_claim 5 (tm Z) fun t544 => (aw_while (σ := disk.Crash.S0) (ν := Nat) (disk.Crash.body0 d keeps) (fun s498 v => [(1, .sl .no 2 (keeps.map api.Keep.av)), (2, .ptr p273 0), (4, .ptr p274 0), (5, .sl (.own v) 3 (s498.l.map api.File.av)), (11, .sl .no 3 (d.Files.map api.File.av)), (12, .i (d.Files.length : Int)), (13, .i s498.t13)]) (fun s498 v => [(p273, .cells [.sl .no 3 (d.Files.map api.File.av), .sl .no 3 (d.Faults.map api.Fault.av)]), (p274, .cells [.sl .full 3 (([] : List api.File).map api.File.av), .sl .full 3 (([] : List api.Fault).map api.Fault.av)]), (v, .spare)]) ⟨([] : List api.File), 0⟩ t544 _ h (Weak.mkL [2, 1, 0] (by decide) ⟨⟨_, Z, cr, Z⟩, ⟨_, Z, cr, Z⟩, ⟨_, Z, Z⟩, trivial⟩ ⟨tm Z, tm Z, tm Z, tm Z, tm Z, tm Z, tm Z, trivial⟩) ?_)))))))))
  rintro s498 n499 x501 h hx500
  unfold disk.Crash.body0 at h
  refine xr (xa (.bool (decide (s498.t13 < (d.Files.length : Int)))) Z (pu_int (v := .bool (decide (s498.t13 < (d.Files.length : Int)))) Z Z (tm Z) (tm Z) Z) (xe (aw_seq (aw_cond (b := decide (s498.t13 < (d.Files.length : Int))) (tm Z) (fun hb543 => ?_) (fun hb543 => ?_)))))
  ·replace h := ite_t (dec_t hb543) h
   refine aw_skip ?_
   obtain ⟨s521, s521e, h523⟩ := bind_some h
   refine aw_meet (ν := Nat) (fun v => [(1, .sl .no 2 (keeps.map api.Keep.av)), (2, .ptr p273 0), (4, .ptr p274 0), (5, .sl (.own v) 3 (s521.map api.File.av)), (11, .sl .no 3 (d.Files.map api.File.av)), (12, .i (d.Files.length : Int)), (13, .i s498.t13)]) (fun v => [(p273, .cells [.sl .no 3 (d.Files.map api.File.av), .sl .no 3 (d.Faults.map api.Fault.av)]), (p274, .cells [.sl .full 3 (([] : List api.File).map api.File.av), .sl .full 3 (([] : List api.Fault).map api.Fault.av)]), (v, .spare)]) ?_ ?_
   ·have h := s521e
    refine aw_block (xr (xm Z Z Z ?_))
    obtain ⟨c525, h⟩ := need_of h
    refine xa (.vptr [.str (ix d.Files s498.t13).Name, .str (ix d.Files s498.t13).Data, .i (ix d.Files s498.t13).Synced]) Z (pu_indexAddrM Z underlying22 sizeOf48 (tm Z) (tm Z) c525 Z) (xc Z (op_loadVN Z isAgg48 sizeOf48 (tm Z) (nb Z) Z (xc Z (op_alloc (cs := [.str ([] : List UInt8), .str ([] : List UInt8), .i 0]) (v := .agg [.str ([] : List UInt8), .str ([] : List UInt8), .i 0]) Z zeroValue48 Z Z Z ?_))))
    intro p526
    refine xm Z Z Z (ac0 Z Z (op_store (i := 0) (cs' := [.str (ix d.Files s498.t13).Name, .str (ix d.Files s498.t13).Data, .i (ix d.Files s498.t13).Synced]) Z sizeOf48 (tm Z) (v := .agg [.str (ix d.Files s498.t13).Name, .str (ix d.Files s498.t13).Data, .i (ix d.Files s498.t13).Synced]) (tm Z) Z Z Z (nb Z) Z (xe (aw_seq (xr (xc Z (op_loadN (i := 1) Z isAgg25 sizeOf25 (tm Z) Z (nb Z) Z (xa (.ptr p526 0) Z (fa Z underlying48 Z sizeOf9 Z Z Z) (xc Z (op_load1 (i := 0) Z isAgg9 (tm Z) Z Z ?_))))))))))
    obtain ⟨r527, r527e, h⟩ := bind_some h
    refine xc Z (op_call (vs := [.agg [.sl .no 3 (d.Files.map api.File.av), .sl .no 3 (d.Faults.map api.Fault.av)], .str (ix d.Files s498.t13).Name]) (H := []) Z call25 ⟨(tm Z), (tm Z), trivial⟩ (List.Perm.refl _) (disk.find.ok r527e) ?_)
    rintro _ _ ⟨rfl, rfl⟩
    refine xm Z Z Z (xa (.bool (!decide (r527 = s498.t13))) Z (pu_int (v := .bool (!decide (r527 = s498.t13))) Z Z (tm Z) (tm Z) Z) (xe (aw_cond (b := (!decide (r527 = s498.t13))) (tm Z) (fun hb542 => ?_) (fun hb542 => ?_))))
    ·replace h := ite_f (ndec_t hb542) h
     refine aw_exit ?_
     obtain rfl := some_of h
     exact ⟨n499, Weak.mkL [1, 2, 3] (by decide) ⟨⟨_, Z, cr, Z⟩, ⟨_, Z, cr, Z⟩, ⟨_, Z, Z⟩, trivial⟩ ⟨tm Z, tm Z, tm Z, tm Z, tm Z, tm Z, tm Z, trivial⟩⟩
    ·replace h := ite_t (ndec_f hb542) h
     refine aw_skip (xr (xc Z (op_loadN (i := 0) Z isAgg48 sizeOf48 (tm Z) Z (nb Z) Z ?_)))
     obtain ⟨r528, r528e, h⟩ := bind_some h
     refine xc Z (op_call (vs := [.agg [.str (ix d.Files s498.t13).Name, .str (ix d.Files s498.t13).Data, .i (ix d.Files s498.t13).Synced]]) (H := []) Z call26 ⟨(tm Z), trivial⟩ (List.Perm.refl _) (disk.safe.ok r528e) ?_)
     rintro _ _ ⟨rfl, rfl⟩
     refine xm Z Z Z (xe (xr (xm Z Z Z (xa (.fn 28 [.ptr p526 0]) Z (pu_makeFunc Z ⟨(tm Z), trivial⟩) ?_))))
     obtain ⟨r529, r529e, h⟩ := bind_some h
     refine xc Z (op_call (vs := [.sl .no 2 (keeps.map api.Keep.av), .fn 28 [.ptr p526 0]]) (H := [(p526, .cells [.str (ix d.Files s498.t13).Name, .str (ix d.Files s498.t13).Data, .i (ix d.Files s498.t13).Synced])]) Z call27 ⟨(tm Z), (tm Z), trivial⟩ (List.Perm.refl _) (slices.IndexFunc_api_Keep_disk_Crash_1.ok r529e p526) ?_)
     rintro _ _ ⟨rfl, rfl⟩
     refine xm Z Z Z (xe ?_)
     obtain ⟨s533, s533e, h534⟩ := bind_some h
     refine aw_meet (ν := Unit) (fun v => [(1, .sl .no 2 (keeps.map api.Keep.av)), (2, .ptr p273 0), (4, .ptr p274 0), (5, .sl (.own n499) 3 (s498.l.map api.File.av)), (7, .ptr p526 0), (8, .i s533), (11, .sl .no 3 (d.Files.map api.File.av)), (12, .i (d.Files.length : Int)), (13, .i s498.t13)]) (fun v => [(p273, .cells [.sl .no 3 (d.Files.map api.File.av), .sl .no 3 (d.Faults.map api.Fault.av)]), (p274, .cells [.sl .full 3 (([] : List api.File).map api.File.av), .sl .full 3 (([] : List api.Fault).map api.Fault.av)]), (n499, .spare), (p526, .cells [.str (ix d.Files s498.t13).Name, .str (ix d.Files s498.t13).Data, .i (ix d.Files s498.t13).Synced])]) ?_ ?_
     ·have h := s533e
      refine xr (xm Z Z Z (xa (.bool (decide (0 ≤ r529))) Z (pu_int (v := .bool (decide (0 ≤ r529))) Z Z (tm Z) (AEv.int _ _) Z) (xe (aw_cond (b := decide (0 ≤ r529)) (tm Z) (fun hb538 => ?_) (fun hb538 => ?_)))))
      ·replace h := ite_t (dec_t hb538) h
       obtain ⟨c536, h⟩ := need_of h
       obtain ⟨x537, x537e, h⟩ := letO_of h
       refine aw_planR (by decide +kernel) [[], [], [], [], [], [], [], [], [(0, 0, false)], [], [], [], [], [], []] [[], [], [], []] [[[(p526, .cells [.str (ix d.Files s498.t13).Name, .str (ix d.Files s498.t13).Data, .i (ix d.Files s498.t13).Synced])]], [[(p273, .cells [.sl .no 3 (d.Files.map api.File.av), .sl .no 3 (d.Faults.map api.Fault.av)])]], [[(p274, .cells [.sl .full 3 (([] : List api.File).map api.File.av), .sl .full 3 (([] : List api.Fault).map api.Fault.av)])]], [[(n499, .spare)]]] [.i r528, .sl .no 2 (keeps.map api.Keep.av), .i r529, .vptr [.str (ix keeps r529).Name, .i (ix keeps r529).Bytes], .vptr [.i (ix keeps r529).Bytes], .i (ix keeps r529).Bytes, .i (if (ix keeps r529).Bytes < 0 then 0 else (ix keeps r529).Bytes), .ptr p526 1, .str (ix d.Files s498.t13).Data, .i ((ix d.Files s498.t13).Data.length : Int), .i r528, .i (IntKind.wrap .i64 (((ix d.Files s498.t13).Data.length : Int) - r528)), .i (if (IntKind.wrap .i64 (((ix d.Files s498.t13).Data.length : Int) - r528)) < (if (ix keeps r529).Bytes < 0 then 0 else (ix keeps r529).Bytes) then (IntKind.wrap .i64 (((ix d.Files s498.t13).Data.length : Int) - r528)) else (if (ix keeps r529).Bytes < 0 then 0 else (ix keeps r529).Bytes)), .i x537, .i x537] (by decide +kernel) Z Z ?_ ?_
       ·exact ⟨ym Z Z Z, ym Z Z Z, ym Z Z Z, yp Z (pu_indexAddrM Z underlying38 sizeOf56 (tm Z) (tm Z) c536 Z), yp Z (fa Z underlying56 Z sizeOf3 Z Z Z), stepg_plain Z (op_loadV1 Z isAgg3 (tm Z) Z ⟨Z, Z⟩), yp Z (pu_max2 Z (tm Z) (AEv.int _ _)), yp Z (fa Z underlying48 Z sizeOf9 Z Z Z), stepg_plain Z (op_load1 (i := 0) Z isAgg9 (tm Z) Z Z ⟨Z, Z⟩), yp Z (pu_strLen Z underlying9 (tm Z)), ym Z Z Z, yp Z (pu_int (v := .i (IntKind.wrap .i64 (((ix d.Files s498.t13).Data.length : Int) - r528))) Z Z (tm Z) (tm Z) Z), yp Z (pu_min2 Z (tm Z) (tm Z)), yp Z (APure.eq (pu_int (v := .i (IntKind.wrap .i64 (r528 + (if (IntKind.wrap .i64 (((ix d.Files s498.t13).Data.length : Int) - r528)) < (if (ix keeps r529).Bytes < 0 then 0 else (ix keeps r529).Bytes) then (IntKind.wrap .i64 (((ix d.Files s498.t13).Data.length : Int) - r528)) else (if (ix keeps r529).Bytes < 0 then 0 else (ix keeps r529).Bytes))))) Z Z (tm Z) (tm Z) Z) (congrArg (AV.int .i64) x537e.symm)), ym Z Z Z, trivial⟩
       obtain rfl := some_of h
       exact ⟨(), Weak.mkL [1, 2, 3, 0] (by decide) ⟨⟨_, Z, cr, Z⟩, ⟨_, Z, cr, Z⟩, ⟨_, Z, Z⟩, ⟨_, Z, cr, Z⟩, trivial⟩ ⟨tm Z, tm Z, tm Z, tm Z, tm Z, tm Z, tm Z, tm Z, tm Z, trivial⟩⟩
      ·replace h := ite_f (dec_f hb538) h
       refine aw_skip ?_
       obtain rfl := some_of h
       exact ⟨(), Weak.mkL [1, 2, 3, 0] (by decide) ⟨⟨_, Z, cr, Z⟩, ⟨_, Z, cr, Z⟩, ⟨_, Z, Z⟩, ⟨_, Z, cr, Z⟩, trivial⟩ ⟨tm Z, tm Z, tm Z, tm Z, tm Z, tm Z, tm Z, tm Z, tm Z, trivial⟩⟩
     ·intro _
      have h := h534
      obtain ⟨c539, h⟩ := need_of h
      obtain ⟨c540, h⟩ := need_of h
      refine aw_reserve fun p541 => (aw_planR (by decide +kernel) [[], [], [(4, 0, false)], [], [(4, 0, false)], [], [], [], [], [], [(3, 0, true), (0, 0, true)], []] [[10], [], [], [10], []] [[[(p541, .resv)], [(p541, .spare)]], [[(p273, .cells [.sl .no 3 (d.Files.map api.File.av), .sl .no 3 (d.Faults.map api.Fault.av)])]], [[(p274, .cells [.sl .full 3 (([] : List api.File).map api.File.av), .sl .full 3 (([] : List api.Fault).map api.Fault.av)])]], [[(n499, .spare)], []], [[(p526, .cells [.str (ix d.Files s498.t13).Name, .str (ix d.Files s498.t13).Data, .i (ix d.Files s498.t13).Synced])]]] [.sl (.own n499) 3 (s498.l.map api.File.av), .ptr p526 0, .str (ix d.Files s498.t13).Name, .ptr p526 1, .str (ix d.Files s498.t13).Data, .i s533, .str (sub (ix d.Files s498.t13).Data 0 s533), .i s533, .agg [.str (ix d.Files s498.t13).Name, .str (sub (ix d.Files s498.t13).Data 0 s533), .i s533], .sl .full 3 ([({ Name := (ix d.Files s498.t13).Name, Data := sub (ix d.Files s498.t13).Data 0 s533, Synced := s533 } : api.File)].map api.File.av), .sl (.own p541) 3 ((s498.l ++ [({ Name := (ix d.Files s498.t13).Name, Data := sub (ix d.Files s498.t13).Data 0 s533, Synced := s533 } : api.File)]).map api.File.av), .sl (.own p541) 3 ((s498.l ++ [({ Name := (ix d.Files s498.t13).Name, Data := sub (ix d.Files s498.t13).Data 0 s533, Synced := s533 } : api.File)]).map api.File.av)] (by decide +kernel) Z Z ?_ ?_)
      ·exact ⟨ym Z Z Z, yp Z (fa Z underlying48 Z sizeOf9 Z Z Z), stepg_plain Z (op_load1 (i := 0) Z isAgg9 (tm Z) Z Z ⟨Z, Z⟩), yp Z (fa Z underlying48 Z sizeOf9 Z Z Z), stepg_plain Z (op_load1 (i := 0) Z isAgg9 (tm Z) Z Z ⟨Z, Z⟩), ym Z Z Z, yp Z (pu_strSliceM Z underlying9 (tm Z) Z ⟨_, (tm Z)⟩ c539), ym Z Z Z, yp Z (pu_build (zs := [.str ([] : List UInt8), .str ([] : List UInt8), .i 0]) (szs := [1, 1, 1]) (aparts := [(0, .str (ix d.Files s498.t13).Name), (1, .str (sub (ix d.Files s498.t13).Data 0 s533)), (2, .i s533)]) (cs := [.str (ix d.Files s498.t13).Name, .str (sub (ix d.Files s498.t13).Data 0 s533), .i s533]) Z underlying48 zeroValue48 Z ⟨sizeOf9, sizeOf9, sizeOf3, trivial⟩ ⟨Z, (tm Z), ⟨Z, (tm Z), ⟨Z, (tm Z), trivial⟩⟩⟩ Z), stepg_plain Z (op_buildSlice (xs := ([({ Name := (ix d.Files s498.t13).Name, Data := sub (ix d.Files s498.t13).Data 0 s533, Synced := s533 } : api.File)] : List api.File).map api.File.av) (aparts := [(0, .agg [.str (ix d.Files s498.t13).Name, .str (sub (ix d.Files s498.t13).Data 0 s533), .i s533])]) Z underlying22 sizeOf48 zeroValue48 (by decide) (by decide) ⟨Z, (tm Z), trivial⟩ Z Z Z ⟨Z, Z⟩), stepg_plain Z (aop_settleS (op_appendOM (q := 0) Z underlying22 underlying22 (.inl Z) typeInfo48 Z Z Z (by decide) (tm Z) Z (given_sl (tm Z)) c540 fun t => ⟨t, Z, Z⟩) ⟨Z, Z⟩), ym Z Z Z, trivial⟩
      obtain rfl := some_of h
      exact ⟨p541, Weak.mkL [1, 2, 0] (by decide) ⟨⟨_, Z, cr, Z⟩, ⟨_, Z, cr, Z⟩, ⟨_, Z, Z⟩, trivial⟩ ⟨tm Z, tm Z, tm Z, (AEv.le (tm Z) vr), tm Z, tm Z, tm Z, trivial⟩⟩
   ·intro n522
    have h := h523
    refine aw_region (xa (.i (IntKind.wrap .i64 (s498.t13 + 1))) Z (pu_int (v := .i (IntKind.wrap .i64 (s498.t13 + 1))) Z Z (tm Z) (AEv.int _ _) Z) (xm Z Z Z (xe ?_)))
    obtain rfl := some_of h
    exact ⟨_, n522, Z, Weak.mkL [0, 1, 2] (by decide) ⟨⟨_, Z, cr, Z⟩, ⟨_, Z, cr, Z⟩, ⟨_, Z, Z⟩, trivial⟩ ⟨tm Z, tm Z, tm Z, tm Z, tm Z, tm Z, (AEv.le (tm Z) vr), trivial⟩⟩
  ·replace h := ite_f (dec_f hb543) h
   refine aw_exit ?_
   obtain rfl := some_of h
   have h := congrArg some (hx500 _ rfl)
   obtain rfl := some_of h
   exact ⟨n499, Weak.mkL [1, 2] (by decide) ⟨⟨_, Z, cr, Z⟩, ⟨_, Z, Z⟩, trivial⟩ ⟨tm Z, tm Z, trivial⟩⟩
 ·intro n409
  have h := h410
  refine xr (xm Z Z Z (xa (.agg [.sl (.own n409) 3 (s408.map api.File.av), .sl .full 3 (([] : List api.Fault).map api.Fault.av)]) Z (pu_build (zs := [.sl .full 3 (([] : List api.File).map api.File.av), .sl .full 3 (([] : List api.Fault).map api.Fault.av)]) (szs := [1, 1]) (aparts := [(0, .sl (.own n409) 3 (s408.map api.File.av))]) (cs := [.sl (.own n409) 3 (s408.map api.File.av), .sl .full 3 (([] : List api.Fault).map api.Fault.av)]) Z underlying25 zeroValue25 Z ⟨sizeOf22, sizeOf23, trivial⟩ ⟨Z, (tm Z), trivial⟩ Z) (ac0 Z Z (op_store (i := 0) (cs' := [.sl (.own n409) 3 (s408.map api.File.av), .sl .full 3 (([] : List api.Fault).map api.Fault.av)]) Z sizeOf25 (tm Z) (v := .agg [.sl (.own n409) 3 (s408.map api.File.av), .sl .full 3 (([] : List api.Fault).map api.Fault.av)]) (tm Z) Z Z Z (nb Z) Z (xe (aw_ret ?_))))))
  obtain rfl := some_of h
  exact ⟨[.agg [.sl (.own n409) 3 (s408.map api.File.av), .sl .full 3 (([] : List api.Fault).map api.Fault.av)]], _, [(n409, .spare)], ⟨(CellOk.agg 0 (tm Z) Z isAgg25 sizeOf25 (nb Z) Z), trivial⟩, vr, Weak.mkL [1] (by decide) ⟨⟨_, Z, Z⟩, trivial⟩ trivial, ⟨n409, Z, Z⟩⟩

theorem disk.Read.ok {d : api.Disk} {name : List UInt8} {r : (List UInt8) × Int} (h : disk.Read d name = some r) : Go.Lift.Spec prog 9 [.agg [.sl .no 3 (d.Files.map api.File.av), .sl .no 3 (d.Faults.map api.Fault.av)], .str name] [] (fun v H => v = .tup [.str r.1, .i r.2] ∧ H = []) := by
 unfold disk.Read at h
 refine Go.Lift.Spec.of_body (rs := [.tmp 4, .tmp 5]) func9 Z Z (nb Z) Z (xr (xc Z (op_box (cs := [.sl .no 3 (d.Files.map api.File.av), .sl .no 3 (d.Faults.map api.Fault.av)]) (v := .agg [.sl .no 3 (d.Files.map api.File.av), .sl .no 3 (d.Faults.map api.Fault.av)]) Z (tm Z) Z Z ?_)))
 intro p5
 refine xa (.str ([] : List UInt8)) Z (pu_assign Z (AEv.const Z)) (xa (.i 0) Z (pu_assign Z (AEv.int _ _)) (xe (xr (xc Z (op_loadN (i := 0) Z isAgg25 sizeOf25 (tm Z) Z (nb Z) Z (xm Z Z Z ?_))))))
 obtain ⟨r6, r6e, h⟩ := bind_some h
 refine xc Z (op_call (vs := [.agg [.sl .no 3 (d.Files.map api.File.av), .sl .no 3 (d.Faults.map api.Fault.av)], .str name]) (H := []) Z call25 ⟨(tm Z), (tm Z), trivial⟩ (List.Perm.refl _) (disk.find.ok r6e) ?_)
 rintro _ _ ⟨rfl, rfl⟩
 refine xm Z Z Z (xe (aw_seq (xr (xm Z Z Z (xa (.bool (decide (r6 < 0))) Z (pu_int (v := .bool (decide (r6 < 0))) Z Z (tm Z) (AEv.int _ _) Z) (xe (aw_cond (b := decide (r6 < 0)) (tm Z) (fun hb8 => ?_) (fun hb8 => ?_))))))))
 ·replace h := ite_t (dec_t hb8) h
  refine xr (xa (.str ([] : List UInt8)) Z (pu_assign Z (AEv.const Z)) (xa (.i 8) Z (pu_assign Z (AEv.int _ _)) (xe (aw_ret ?_))))
  obtain rfl := some_of h
  exact ⟨[.str ([] : List UInt8), .i 8], _, [], ⟨(tm Z), (tm Z), trivial⟩, vr, Weak.mkL [] (by decide) trivial trivial, ⟨Z, Z⟩⟩
 ·replace h := ite_f (dec_f hb8) h
  refine aw_skip (xr (xa (.ptr p5 0) Z (fa Z underlying25 Z sizeOf22 Z Z Z) (xc Z (op_load1 (i := 0) Z isAgg22 (tm Z) Z Z (xm Z Z Z ?_)))))
  obtain ⟨c7, h⟩ := need_of h
  refine xa (.vptr [.str (ix d.Files r6).Name, .str (ix d.Files r6).Data, .i (ix d.Files r6).Synced]) Z (pu_indexAddrM Z underlying22 sizeOf48 (tm Z) (tm Z) c7 Z) (xa (.vptr [.str (ix d.Files r6).Data, .i (ix d.Files r6).Synced]) Z (fa Z underlying48 Z sizeOf9 Z Z Z) (xc Z (op_loadV1 Z isAgg9 (tm Z) Z (xm Z Z Z (xa (.i 0) Z (pu_assign Z (AEv.int _ _)) (xe (aw_ret ?_)))))))
  obtain rfl := some_of h
  exact ⟨[.str (ix d.Files r6).Data, .i 0], _, [], ⟨(tm Z), (tm Z), trivial⟩, vr, Weak.mkL [] (by decide) trivial trivial, ⟨Z, Z⟩⟩

theorem disk.Safe.ok {d : api.Disk} {name : List UInt8} {r : List UInt8} (h : disk.Safe d name = some r) : Go.Lift.Spec prog 10 [.agg [.sl .no 3 (d.Files.map api.File.av), .sl .no 3 (d.Faults.map api.Fault.av)], .str name] [] (fun v H => v = .str r ∧ H = []) := by
 unfold disk.Safe at h
 refine Go.Lift.Spec.of_body (rs := [.tmp 4]) func10 Z Z (nb Z) Z (xr (xc Z (op_box (cs := [.sl .no 3 (d.Files.map api.File.av), .sl .no 3 (d.Faults.map api.Fault.av)]) (v := .agg [.sl .no 3 (d.Files.map api.File.av), .sl .no 3 (d.Faults.map api.Fault.av)]) Z (tm Z) Z Z ?_)))
 intro p8
 refine xa (.str ([] : List UInt8)) Z (pu_assign Z (AEv.const Z)) (xe (xr (xc Z (op_loadN (i := 0) Z isAgg25 sizeOf25 (tm Z) Z (nb Z) Z (xm Z Z Z ?_)))))
 obtain ⟨r9, r9e, h⟩ := bind_some h
 refine xc Z (op_call (vs := [.agg [.sl .no 3 (d.Files.map api.File.av), .sl .no 3 (d.Faults.map api.Fault.av)], .str name]) (H := []) Z call25 ⟨(tm Z), (tm Z), trivial⟩ (List.Perm.refl _) (disk.find.ok r9e) ?_)
 rintro _ _ ⟨rfl, rfl⟩
 refine xm Z Z Z (xe (aw_seq (xr (xm Z Z Z (xa (.bool (decide (r9 < 0))) Z (pu_int (v := .bool (decide (r9 < 0))) Z Z (tm Z) (AEv.int _ _) Z) (xe (aw_cond (b := decide (r9 < 0)) (tm Z) (fun hb14 => ?_) (fun hb14 => ?_))))))))
 ·replace h := ite_t (dec_t hb14) h
  refine xr (xa (.str ([] : List UInt8)) Z (pu_assign Z (AEv.const Z)) (xe (aw_ret ?_)))
  obtain rfl := some_of h
  exact ⟨[.str ([] : List UInt8)], _, [], ⟨(tm Z), trivial⟩, vr, Weak.mkL [] (by decide) trivial trivial, ⟨Z, Z⟩⟩
 ·replace h := ite_f (dec_f hb14) h
  refine aw_skip (aw_seq ?_)
  obtain ⟨c10, h⟩ := need_of h
  obtain ⟨c11, h⟩ := need_of h
  obtain ⟨r12, r12e, h⟩ := bind_some h
  obtain ⟨c13, h⟩ := need_of h
  refine aw_planR (by decide +kernel) [[], [(0, 0, false)], [], [], [], [], [], [(0, 0, false)], [], [], [], [], [], []] [[]] [[[(p8, .cells [.sl .no 3 (d.Files.map api.File.av), .sl .no 3 (d.Faults.map api.Fault.av)])]]] [.ptr p8 0, .sl .no 3 (d.Files.map api.File.av), .i r9, .vptr [.str (ix d.Files r9).Name, .str (ix d.Files r9).Data, .i (ix d.Files r9).Synced], .vptr [.str (ix d.Files r9).Data, .i (ix d.Files r9).Synced], .str (ix d.Files r9).Data, .ptr p8 0, .sl .no 3 (d.Files.map api.File.av), .i r9, .vptr [.str (ix d.Files r9).Name, .str (ix d.Files r9).Data, .i (ix d.Files r9).Synced], .agg [.str (ix d.Files r9).Name, .str (ix d.Files r9).Data, .i (ix d.Files r9).Synced], .i r12, .str (sub (ix d.Files r9).Data 0 r12), .str (sub (ix d.Files r9).Data 0 r12)] (by decide +kernel) Z Z ?_ ?_
  ·exact ⟨yp Z (fa Z underlying25 Z sizeOf22 Z Z Z), stepg_plain Z (op_load1 (i := 0) Z isAgg22 (tm Z) Z Z ⟨Z, Z⟩), ym Z Z Z, yp Z (pu_indexAddrM Z underlying22 sizeOf48 (tm Z) (tm Z) c10 Z), yp Z (fa Z underlying48 Z sizeOf9 Z Z Z), stepg_plain Z (op_loadV1 Z isAgg9 (tm Z) Z ⟨Z, Z⟩), yp Z (fa Z underlying25 Z sizeOf22 Z Z Z), stepg_plain Z (op_load1 (i := 0) Z isAgg22 (tm Z) Z Z ⟨Z, Z⟩), ym Z Z Z, yp Z (pu_indexAddrM Z underlying22 sizeOf48 (tm Z) (tm Z) c11 Z), stepg_plain Z (op_loadVN Z isAgg48 sizeOf48 (tm Z) (nb Z) Z ⟨Z, Z⟩), stepg_plain Z (op_call (vs := [.agg [.str (ix d.Files r9).Name, .str (ix d.Files r9).Data, .i (ix d.Files r9).Synced]]) (H := []) Z call26 ⟨(tm Z), trivial⟩ (R := []) (List.Perm.refl _) (disk.safe.ok r12e) (by rintro _ _ ⟨rfl, rfl⟩; exact ⟨Z, Z⟩)), yp Z (pu_strSliceM Z underlying9 (tm Z) Z ⟨_, (tm Z)⟩ c13), ym Z Z Z, trivial⟩
  refine aw_ret ?_
  obtain rfl := some_of h
  exact ⟨[.str (sub (ix d.Files r9).Data 0 r12)], _, [], ⟨(tm Z), trivial⟩, vr, Weak.mkL [] (by decide) trivial trivial, ⟨Z, Z⟩⟩

theorem mewslaw16.alive.ok  {r : Bool} (h : mewslaw16.alive = some r) : Go.Lift.Spec prog 7 [] [] (fun v H => v = .bool r ∧ H = []) := by
 unfold mewslaw16.alive at h
 refine Go.Lift.Spec.of_body (rs := [.tmp 0]) func7 Z Z (nb Z) Z (xr (xa (.bool false) Z (pu_assign Z (AEv.bool _)) (xe (xr (xa (.agg [.sl .full 3 (([] : List api.File).map api.File.av), .sl .full 3 (([] : List api.Fault).map api.Fault.av)]) Z (pu_build (zs := [.sl .full 3 (([] : List api.File).map api.File.av), .sl .full 3 (([] : List api.Fault).map api.Fault.av)]) (szs := [1, 1]) (aparts := []) (cs := [.sl .full 3 (([] : List api.File).map api.File.av), .sl .full 3 (([] : List api.Fault).map api.Fault.av)]) Z underlying25 zeroValue25 Z ⟨sizeOf22, sizeOf23, trivial⟩ trivial Z) ?_)))))
 obtain ⟨r29, r29e, h⟩ := bind_some h
 refine xc Z (op_call (vs := [.agg [.sl .no 3 (([] : List api.File).map api.File.av), .sl .no 3 (([] : List api.Fault).map api.Fault.av)], .str [102], .str [97]]) (H := []) Z call19 ⟨(AEv.le (tm Z) (AV.Le.agg ⟨(AV.Le.forget _ _ _), (AV.Le.forget _ _ _), trivial⟩)), (AEv.const Z), (AEv.const Z), trivial⟩ (List.Perm.refl _) (disk.Write.ok r29e) ?_)
 rintro _ _ ⟨t30, t31, rfl, rfl⟩
 refine xm Z Z Z (xa (.agg [.vec t30, .vec t31]) Z (pu_extract Z (tm Z) (nb Z) Z) (xa (.i r29.2.1) Z (pu_extract Z (tm Z) (nb Z) Z) (xa (.i r29.2.2) Z (pu_extract Z (tm Z) (nb Z) Z) (xc Z (op_alloc (cs := [.sl .full 3 (([] : List api.File).map api.File.av), .sl .full 3 (([] : List api.Fault).map api.Fault.av)]) (v := .agg [.sl .full 3 (([] : List api.File).map api.File.av), .sl .full 3 (([] : List api.Fault).map api.Fault.av)]) Z zeroValue25 Z Z Z ?_)))))
 intro p32
 refine aops_pub 1 [(10, .agg [.sl .no 3 (r29.1.Files.map api.File.av), .vec t31])] Z ⟨⟨_, tm Z, (PubTo.agg ⟨PubTo.vec, (PubTo.refl _), trivial⟩)⟩, trivial⟩ (aops_pub 1 [(10, .agg [.sl .no 3 (r29.1.Files.map api.File.av), .sl .no 3 (r29.1.Faults.map api.Fault.av)])] Z ⟨⟨_, tm Z, (PubTo.agg ⟨(PubTo.refl _), PubTo.vec, trivial⟩)⟩, trivial⟩ (ac0 Z Z (op_store (i := 0) (cs' := [.sl .no 3 (r29.1.Files.map api.File.av), .sl .no 3 (r29.1.Faults.map api.Fault.av)]) Z sizeOf25 (tm Z) (v := .agg [.sl .no 3 (r29.1.Files.map api.File.av), .sl .no 3 (r29.1.Faults.map api.Fault.av)]) (tm Z) Z Z Z (nb Z) Z (xm Z Z Z (xm Z Z Z (xe (xr (xc Z (op_loadN (i := 0) Z isAgg25 sizeOf25 (tm Z) Z (nb Z) Z ?_)))))))))
 obtain ⟨r33, r33e, h⟩ := bind_some h
 refine xc Z (op_call (vs := [.agg [.sl .no 3 (r29.1.Files.map api.File.av), .sl .no 3 (r29.1.Faults.map api.Fault.av)], .str [102]]) (H := []) Z call20 ⟨(tm Z), (AEv.const Z), trivial⟩ (List.Perm.refl _) (disk.Sync.ok r33e) ?_)
 rintro _ _ ⟨t34, t35, rfl, rfl⟩
 refine xm Z Z Z (xa (.agg [.vec t34, .vec t35]) Z (pu_extract Z (tm Z) (nb Z) Z) (xa (.i r33.2) Z (pu_extract Z (tm Z) (nb Z) Z) (aops_pub 0 [(16, .agg [.sl .no 3 (r33.1.Files.map api.File.av), .vec t35])] Z ⟨⟨_, tm Z, (PubTo.agg ⟨PubTo.vec, (PubTo.refl _), trivial⟩)⟩, trivial⟩ (aops_pub 0 [(16, .agg [.sl .no 3 (r33.1.Files.map api.File.av), .sl .no 3 (r33.1.Faults.map api.Fault.av)])] Z ⟨⟨_, tm Z, (PubTo.agg ⟨(PubTo.refl _), PubTo.vec, trivial⟩)⟩, trivial⟩ (ac0 Z Z (op_store (i := 0) (cs' := [.sl .no 3 (r33.1.Files.map api.File.av), .sl .no 3 (r33.1.Faults.map api.Fault.av)]) Z sizeOf25 (tm Z) (v := .agg [.sl .no 3 (r33.1.Files.map api.File.av), .sl .no 3 (r33.1.Faults.map api.Fault.av)]) (tm Z) Z Z Z (nb Z) Z (xm Z Z Z (xe (aw_seq (aw_region ?_))))))))))
 refine xc Z (op_loadN (i := 0) Z isAgg25 sizeOf25 (tm Z) Z (nb Z) Z ?_)
 obtain ⟨r36, r36e, h⟩ := bind_some h
 refine xc Z (op_call (vs := [.agg [.sl .no 3 (r33.1.Files.map api.File.av), .sl .no 3 (r33.1.Faults.map api.Fault.av)], .str [102], .str [98, 99]]) (H := []) Z call19 ⟨(tm Z), (AEv.const Z), (AEv.const Z), trivial⟩ (List.Perm.refl _) (disk.Write.ok r36e) ?_)
 rintro _ _ ⟨t37, t38, rfl, rfl⟩
 refine xm Z Z Z (xa (.agg [.vec t37, .vec t38]) Z (pu_extract Z (tm Z) (nb Z) Z) (xa (.i r36.2.1) Z (pu_extract Z (tm Z) (nb Z) Z) (xa (.i r36.2.2) Z (pu_extract Z (tm Z) (nb Z) Z) (aops_pub 0 [(21, .agg [.sl .no 3 (r36.1.Files.map api.File.av), .vec t38])] Z ⟨⟨_, tm Z, (PubTo.agg ⟨PubTo.vec, (PubTo.refl _), trivial⟩)⟩, trivial⟩ (aops_pub 0 [(21, .agg [.sl .no 3 (r36.1.Files.map api.File.av), .sl .no 3 (r36.1.Faults.map api.Fault.av)])] Z ⟨⟨_, tm Z, (PubTo.agg ⟨(PubTo.refl _), PubTo.vec, trivial⟩)⟩, trivial⟩ (ac0 Z Z (op_store (i := 0) (cs' := [.sl .no 3 (r36.1.Files.map api.File.av), .sl .no 3 (r36.1.Faults.map api.Fault.av)]) Z sizeOf25 (tm Z) (v := .agg [.sl .no 3 (r36.1.Files.map api.File.av), .sl .no 3 (r36.1.Faults.map api.Fault.av)]) (tm Z) Z Z Z (nb Z) Z (xe (aw_seq (aw_region ?_))))))))))
 refine xc Z (op_loadN (i := 0) Z isAgg25 sizeOf25 (tm Z) Z (nb Z) Z (xa (.agg [.str [102], .i 1]) Z (pu_build (zs := [.str ([] : List UInt8), .i 0]) (szs := [1, 1]) (aparts := [(0, .str [102]), (1, .i 1)]) (cs := [.str [102], .i 1]) Z underlying56 zeroValue56 Z ⟨sizeOf9, sizeOf3, trivial⟩ ⟨Z, (AEv.const Z), ⟨Z, (AEv.int _ _), trivial⟩⟩ Z) (xc Z (op_buildSlice (xs := ([({ Name := [102], Bytes := 1 } : api.Keep)] : List api.Keep).map api.Keep.av) (aparts := [(0, .agg [.str [102], .i 1])]) Z underlying38 sizeOf56 zeroValue56 (by decide) (by decide) ⟨Z, (tm Z), trivial⟩ Z Z Z ?_))))
 obtain ⟨r39, r39e, h⟩ := bind_some h
 refine xc Z (op_call (vs := [.agg [.sl .no 3 (r36.1.Files.map api.File.av), .sl .no 3 (r36.1.Faults.map api.Fault.av)], .sl .no 2 ([({ Name := [102], Bytes := 1 } : api.Keep)].map api.Keep.av)]) (H := []) Z call11 ⟨(tm Z), (AEv.le (tm Z) (AV.Le.forget _ _ _)), trivial⟩ (List.Perm.refl _) (disk.Crash.ok r39e) ?_)
 rintro _ _ ⟨t40, rfl, rfl⟩
 obtain ⟨r41, r41e, h⟩ := bind_some h
 refine xc Z (op_call (vs := [.agg [.sl .no 3 (r39.Files.map api.File.av), .sl .no 3 (r39.Faults.map api.Fault.av)], .str [102]]) (H := []) Z call9 ⟨(AEv.le (tm Z) (AV.Le.agg ⟨(AV.Le.forget _ _ _), (AV.Le.forget _ _ _), trivial⟩)), (AEv.const Z), trivial⟩ (List.Perm.refl _) (disk.Read.ok r41e) ?_)
 rintro _ _ ⟨rfl, rfl⟩
 refine xm Z Z Z (xa (.str r41.1) Z (pu_extract Z (tm Z) (nb Z) Z) (xa (.i r41.2) Z (pu_extract Z (tm Z) (nb Z) Z) (xm Z Z Z (xm Z Z Z (xe ?_)))))
 obtain ⟨s48, s48e, h49⟩ := bind_some h
 refine aw_meet (ν := Unit) (fun v => [(0, .bool s48)]) (fun v => []) ?_ ?_
 ·have h := s48e
  refine aw_region (xm Z Z Z (xa (.bool (decide (r29.2.1 = 1))) Z (pu_int (v := .bool (decide (r29.2.1 = 1))) Z Z (tm Z) (AEv.int _ _) Z) (xm Z Z Z ?_)))
  rcases Bool.eq_false_or_eq_true (decide (r29.2.1 = 1)) with hb51 | hb51
  ·replace h := ite_t (dec_t hb51) h
   refine aops_known 34 Z hb51 (xq Z Z Z Z (xp (.bool (decide (r29.2.2 = 0))) Z Z (pu_int (v := .bool (decide (r29.2.2 = 0))) Z Z (tm Z) (AEv.int _ _) Z) (xa (.bool (decide (r29.2.2 = 0))) Z (pu_pick (b := true) Z (tm Z) (fun _ => (tm Z)) (fun h => nomatch h)) (xm Z Z Z ?_))))
   rcases Bool.eq_false_or_eq_true (decide (r29.2.2 = 0)) with hb52 | hb52
   ·replace h := ite_t (dec_t hb52) h
    refine aops_known 38 Z hb52 (xq Z Z Z Z (xp (.bool (decide (r33.2 = 0))) Z Z (pu_int (v := .bool (decide (r33.2 = 0))) Z Z (tm Z) (AEv.int _ _) Z) (xa (.bool (decide (r33.2 = 0))) Z (pu_pick (b := true) Z (tm Z) (fun _ => (tm Z)) (fun h => nomatch h)) (xm Z Z Z ?_))))
    rcases Bool.eq_false_or_eq_true (decide (r33.2 = 0)) with hb53 | hb53
    ·replace h := ite_t (dec_t hb53) h
     refine aops_known 42 Z hb53 (xq Z Z Z Z (xp (.bool (decide (r41.1 = [97, 98]))) Z Z (pu_str (v := .bool (decide (r41.1 = [97, 98]))) Z Z (tm Z) (AEv.const Z) Z) (xa (.bool (decide (r41.1 = [97, 98]))) Z (pu_pick (b := true) Z (tm Z) (fun _ => (tm Z)) (fun h => nomatch h)) (xm Z Z Z ?_))))
     rcases Bool.eq_false_or_eq_true (decide (r41.1 = [97, 98])) with hb54 | hb54
     ·replace h := ite_t (dec_t hb54) h
      refine aops_known 46 Z hb54 (xq Z Z Z Z (xp (.bool (decide (r41.2 = 0))) Z Z (pu_int (v := .bool (decide (r41.2 = 0))) Z Z (tm Z) (AEv.int _ _) Z) (xa (.bool (decide (r41.2 = 0))) Z (pu_pick (b := true) Z (tm Z) (fun _ => (tm Z)) (fun h => nomatch h)) (xm Z Z Z ?_))))
      rcases Bool.eq_false_or_eq_true (decide (r41.2 = 0)) with hb55 | hb55
      ·replace h := ite_t (dec_t hb55) h
       refine aops_known 50 Z hb55 (xg Z Z (op_loadN (i := 1) Z isAgg25 sizeOf25 (tm Z) Z (nb Z) Z ?_))
       obtain ⟨r56, r56e, h⟩ := bind_some h
       refine xg Z Z (op_call (vs := [.agg [.sl .no 3 (r36.1.Files.map api.File.av), .sl .no 3 (r36.1.Faults.map api.Fault.av)], .str [102]]) (H := []) Z call10 ⟨(tm Z), (AEv.const Z), trivial⟩ (List.Perm.refl _) (disk.Safe.ok r56e) ?_)
       rintro _ _ ⟨rfl, rfl⟩
       refine xp (.bool (decide (r56 = [97]))) Z Z (pu_str (v := .bool (decide (r56 = [97]))) Z Z (tm Z) (AEv.const Z) Z) (xa (.bool (decide (r56 = [97]))) Z (pu_pick (b := true) Z (tm Z) (fun _ => (tm Z)) (fun h => nomatch h)) (xm Z Z Z (xe ?_)))
       obtain rfl := some_of h
       exact ⟨(), Weak.mkL [] (by decide) trivial ⟨(AEv.le (tm Z) vr), trivial⟩⟩
      ·replace h := ite_f (dec_f hb55) h
       refine aops_known 50 Z hb55 (xn Z Z Z (xn Z Z Z (xn Z Z Z (xa (.bool false) Z (pu_pick (b := false) Z (tm Z) (fun h => nomatch h) (fun _ => (AEv.bool _))) (xm Z Z Z (xe ?_))))))
       obtain rfl := some_of h
       exact ⟨(), Weak.mkL [] (by decide) trivial ⟨tm Z, trivial⟩⟩
     ·replace h := ite_f (dec_f hb54) h
      refine aops_known 46 Z hb54 (xn Z Z Z (xn Z Z Z (xa (.bool false) Z (pu_pick (b := false) Z (tm Z) (fun h => nomatch h) (fun _ => (AEv.bool _))) (xm Z Z Z (xn Z Z Z (xn Z Z Z (xn Z Z Z (xa (.bool false) Z (pu_pick (b := false) Z (tm Z) (fun h => nomatch h) (fun _ => (AEv.bool _))) (xm Z Z Z ?_)))))))))
      refine xe ?_
      obtain rfl := some_of h
      exact ⟨(), Weak.mkL [] (by decide) trivial ⟨tm Z, trivial⟩⟩
    ·replace h := ite_f (dec_f hb53) h
     refine aops_known 42 Z hb53 (xn Z Z Z (xn Z Z Z (xa (.bool false) Z (pu_pick (b := false) Z (tm Z) (fun h => nomatch h) (fun _ => (AEv.bool _))) (xm Z Z Z (xn Z Z Z (xn Z Z Z (xa (.bool false) Z (pu_pick (b := false) Z (tm Z) (fun h => nomatch h) (fun _ => (AEv.bool _))) (xm Z Z Z (xn Z Z Z ?_)))))))))
     refine xn Z Z Z (xn Z Z Z (xa (.bool false) Z (pu_pick (b := false) Z (tm Z) (fun h => nomatch h) (fun _ => (AEv.bool _))) (xm Z Z Z (xe ?_))))
     obtain rfl := some_of h
     exact ⟨(), Weak.mkL [] (by decide) trivial ⟨tm Z, trivial⟩⟩
   ·replace h := ite_f (dec_f hb52) h
    refine aops_known 38 Z hb52 (xn Z Z Z (xn Z Z Z (xa (.bool false) Z (pu_pick (b := false) Z (tm Z) (fun h => nomatch h) (fun _ => (AEv.bool _))) (xm Z Z Z (xn Z Z Z (xn Z Z Z (xa (.bool false) Z (pu_pick (b := false) Z (tm Z) (fun h => nomatch h) (fun _ => (AEv.bool _))) (xm Z Z Z (xn Z Z Z ?_)))))))))
    refine xn Z Z Z (xa (.bool false) Z (pu_pick (b := false) Z (tm Z) (fun h => nomatch h) (fun _ => (AEv.bool _))) (xm Z Z Z (xn Z Z Z (xn Z Z Z (xn Z Z Z (xa (.bool false) Z (pu_pick (b := false) Z (tm Z) (fun h => nomatch h) (fun _ => (AEv.bool _))) (xm Z Z Z (xe ?_))))))))
    obtain rfl := some_of h
    exact ⟨(), Weak.mkL [] (by decide) trivial ⟨tm Z, trivial⟩⟩
  ·replace h := ite_f (dec_f hb51) h
   refine aops_known 34 Z hb51 (xn Z Z Z (xn Z Z Z (xa (.bool false) Z (pu_pick (b := false) Z (tm Z) (fun h => nomatch h) (fun _ => (AEv.bool _))) (xm Z Z Z (xn Z Z Z (xn Z Z Z (xa (.bool false) Z (pu_pick (b := false) Z (tm Z) (fun h => nomatch h) (fun _ => (AEv.bool _))) (xm Z Z Z (xn Z Z Z ?_)))))))))
   refine xn Z Z Z (xa (.bool false) Z (pu_pick (b := false) Z (tm Z) (fun h => nomatch h) (fun _ => (AEv.bool _))) (xm Z Z Z (xn Z Z Z (xn Z Z Z (xa (.bool false) Z (pu_pick (b := false) Z (tm Z) (fun h => nomatch h) (fun _ => (AEv.bool _))) (xm Z Z Z (xn Z Z Z (xn Z Z Z (xn Z Z Z ?_)))))))))
   refine xa (.bool false) Z (pu_pick (b := false) Z (tm Z) (fun h => nomatch h) (fun _ => (AEv.bool _))) (xm Z Z Z (xe ?_))
   obtain rfl := some_of h
   exact ⟨(), Weak.mkL [] (by decide) trivial ⟨tm Z, trivial⟩⟩
 ·intro _
  have h := h49
  refine aw_ret ?_
  obtain rfl := some_of h
  exact ⟨[.bool s48], _, [], ⟨(tm Z), trivial⟩, vr, Weak.mkL [] (by decide) trivial trivial, ⟨Z, Z⟩⟩

theorem disk.Rename.ok {d : api.Disk} {from_ : List UInt8} {to : List UInt8} {r : api.Disk × Int} (h : disk.Rename d from_ to = some r) : Go.Lift.Spec prog 21 [.agg [.sl .no 3 (d.Files.map api.File.av), .sl .no 3 (d.Faults.map api.Fault.av)], .str from_, .str to] [] (fun v H => ∃ n0 n1, v = .tup [.agg [.vec n0, .vec n1], .i r.2] ∧ H = [(n0, .vec 3 (r.1.Files.map api.File.av)), (n1, .vec 3 (r.1.Faults.map api.Fault.av))]) := by
 unfold disk.Rename at h
 refine Go.Lift.Spec.of_body (rs := [.cell 6 25, .tmp 7]) func21 Z Z (nb Z) Z (xr (xc Z (op_box (cs := [.sl .no 3 (d.Files.map api.File.av), .sl .no 3 (d.Faults.map api.Fault.av)]) (v := .agg [.sl .no 3 (d.Files.map api.File.av), .sl .no 3 (d.Faults.map api.Fault.av)]) Z (tm Z) Z Z ?_)))
 intro p237
 refine xc Z (op_alloc (cs := [.sl .full 3 (([] : List api.File).map api.File.av), .sl .full 3 (([] : List api.Fault).map api.Fault.av)]) (v := .agg [.sl .full 3 (([] : List api.File).map api.File.av), .sl .full 3 (([] : List api.Fault).map api.Fault.av)]) Z zeroValue25 Z Z Z ?_)
 intro p238
 refine xa (.i 0) Z (pu_assign Z (AEv.int _ _)) (xe (xr (xc Z (op_loadN (i := 1) Z isAgg25 sizeOf25 (tm Z) Z (nb Z) Z ?_))))
 obtain ⟨r239, r239e, h⟩ := bind_some h
 refine xc Z (op_call (vs := [.agg [.sl .no 3 (d.Files.map api.File.av), .sl .no 3 (d.Faults.map api.Fault.av)]]) (H := []) Z call41 ⟨(tm Z), trivial⟩ (List.Perm.refl _) (disk.own.ok r239e) ?_)
 rintro _ _ ⟨t240, t241, rfl, rfl⟩
 refine ac0 Z Z (op_store (i := 3) (cs' := [.vec t240, .vec t241]) Z sizeOf25 (tm Z) (v := .agg [.vec t240, .vec t241]) (tm Z) Z Z Z (nb Z) Z (xe (xr (xc Z (op_loadN (i := 3) Z isAgg25 sizeOf25 (tm Z) Z (nb Z) Z (xm Z Z Z ?_))))))
 obtain ⟨r242, r242e, h⟩ := bind_some h
 refine xc Z (op_call (vs := [.agg [.vec t240, .vec t241], .str from_]) (H := [(t240, .vec 3 (r239.Files.map api.File.av)), (t241, .vec 3 (r239.Faults.map api.Fault.av))]) Z call25 ⟨(tm Z), (tm Z), trivial⟩ (List.Perm.refl _) (disk.find_v.ok r242e t240 t241) ?_)
 rintro _ _ ⟨rfl, rfl⟩
 refine xm Z Z Z (xe (aw_seq (xr (xm Z Z Z (xa (.bool (decide (r242 < 0))) Z (pu_int (v := .bool (decide (r242 < 0))) Z Z (tm Z) (AEv.int _ _) Z) (xe (aw_cond (b := decide (r242 < 0)) (tm Z) (fun hb472 => ?_) (fun hb472 => ?_))))))))
 ·replace h := ite_t (dec_t hb472) h
  refine xr (xc Z (op_loadN (i := 3) Z isAgg25 sizeOf25 (tm Z) Z (nb Z) Z (ac0 Z Z (op_store (i := 2) (cs' := [.vec t240, .vec t241]) Z sizeOf25 (tm Z) (v := .agg [.vec t240, .vec t241]) (tm Z) Z Z Z (nb Z) Z (xa (.i 8) Z (pu_assign Z (AEv.int _ _)) (xe (aw_ret ?_)))))))
  obtain rfl := some_of h
  exact ⟨[.agg [.vec t240, .vec t241], .i 8], .tup [.agg [.vec t240, .vec t241], .i 8], [(t240, .vec 3 (r239.Files.map api.File.av)), (t241, .vec 3 (r239.Faults.map api.Fault.av))], ⟨(CellOk.agg 2 (tm Z) Z isAgg25 sizeOf25 (nb Z) Z), (tm Z), trivial⟩, (AV.Le.tup cr), Weak.mkL [0, 1] (by decide) ⟨⟨_, Z, Z⟩, ⟨_, Z, Z⟩, trivial⟩ trivial, ⟨t240, t241, Z, Z⟩⟩
 ·replace h := ite_f (dec_f hb472) h
  refine aw_skip (aw_seq (xr (xm Z Z Z ?_)))
  obtain ⟨r243, r243e, h⟩ := bind_some h
  refine aops_weak (weak_pick [3, 0, 1, 2] (by decide) Z) (xc Z (op_call (vs := [.ptr p237 0, .str from_, .i 3]) (H := [(p237, .cells [.vec t240, .vec t241]), (t240, .vec 3 (r239.Files.map api.File.av)), (t241, .vec 3 (r239.Faults.map api.Fault.av))]) Z call42 ⟨(tm Z), (tm Z), (AEv.int _ _), trivial⟩ (List.Perm.refl _) (disk.meets_v.ok r243e p237 t240 t241) ?_))
  rintro _ _ ⟨t244, rfl, rfl⟩
  refine xm Z Z Z (xa (.agg [.str r243.1.Name, .i r243.1.Kind, .i r243.1.Short]) Z (pu_extract Z (tm Z) (nb Z) Z) (xa (.bool r243.2.1) Z (pu_extract Z (tm Z) (nb Z) Z) (xc Z (op_alloc (cs := [.str ([] : List UInt8), .i 0, .i 0]) (v := .agg [.str ([] : List UInt8), .i 0, .i 0]) Z zeroValue70 Z Z Z ?_))))
  intro p245
  refine ac0 Z Z (op_store (i := 0) (cs' := [.str r243.1.Name, .i r243.1.Kind, .i r243.1.Short]) Z sizeOf70 (tm Z) (v := .agg [.str r243.1.Name, .i r243.1.Kind, .i r243.1.Short]) (tm Z) Z Z Z (nb Z) Z (xm Z Z Z (xe (xr (xm Z Z Z (xe (aw_cond (b := r243.2.1) (tm Z) (fun hb471 => ?_) (fun hb471 => ?_))))))))
  ·replace h := ite_t hb471 h
   refine xr (xc Z (op_loadN (i := 1) Z isAgg25 sizeOf25 (tm Z) Z (nb Z) Z (ac0 Z Z (op_store (i := 4) (cs' := [.vec t240, .vec t244]) Z sizeOf25 (tm Z) (v := .agg [.vec t240, .vec t244]) (tm Z) Z Z Z (nb Z) Z (xa (.i 15) Z (pu_assign Z (AEv.int _ _)) (xe (aw_ret ?_)))))))
   obtain rfl := some_of h
   exact ⟨[.agg [.vec t240, .vec t244], .i 15], .tup [.agg [.vec t240, .vec t244], .i 15], [(t240, .vec 3 (r239.Files.map api.File.av)), (t244, .vec 3 (r243.2.2.Faults.map api.Fault.av))], ⟨(CellOk.agg 4 (tm Z) Z isAgg25 sizeOf25 (nb Z) Z), (tm Z), trivial⟩, (AV.Le.tup cr), Weak.mkL [2, 3] (by decide) ⟨⟨_, Z, Z⟩, ⟨_, Z, Z⟩, trivial⟩ trivial, ⟨t240, t244, Z, Z⟩⟩
  ·replace h := ite_fb hb471 h
   refine aw_skip (xr (xa (.ptr p237 0) Z (fa Z underlying25 Z sizeOf22 Z Z Z) (xc Z (op_load1 (i := 1) Z isAgg22 (tm Z) Z Z (xm Z Z Z ?_)))))
   obtain ⟨c246, h⟩ := need_of h
   refine xc Z (op_indexAddrVecM Z underlying22 sizeOf48 (tm Z) (j := 2) Z (tm Z) c246 ?_)
   obtain ⟨c247, h⟩ := need_of h
   refine xc Z (op_loadENM (i := 2) (sz := 3) Z isAgg48 sizeOf48 (tm Z) Z c247 (by decide) Z (xc Z (op_alloc (cs := [.str ([] : List UInt8), .str ([] : List UInt8), .i 0]) (v := .agg [.str ([] : List UInt8), .str ([] : List UInt8), .i 0]) Z zeroValue48 Z Z Z ?_)))
   intro p248
   refine ac0 Z Z (op_store (i := 0) (cs' := [.str (ix r239.Files r242).Name, .str (ix r239.Files r242).Data, .i (ix r239.Files r242).Synced]) Z sizeOf48 (tm Z) (v := .agg [.str (ix r239.Files r242).Name, .str (ix r239.Files r242).Data, .i (ix r239.Files r242).Synced]) (tm Z) Z Z Z (nb Z) Z (xe (xr (xm Z Z Z (xa (.ptr p248 0) Z (fa Z underlying48 Z sizeOf9 Z Z Z) (ac0 Z Z (op_store (i := 0) (cs' := [.str to, .str (ix r239.Files r242).Data, .i (ix r239.Files r242).Synced]) Z sizeOf9 (tm Z) (v := .str to) (tm Z) Z Z Z (nb Z) Z (xe (aw_seq (aw_region ?_))))))))))
   refine xa (.sl .full 3 (([] : List api.File).map api.File.av)) Z (pu_assign Z (AEv.nil 3 (by decide))) (xe ?_)
   obtain ⟨s358, s358e, h360⟩ := bind_some h
   refine aw_meet (ν := Nat) (fun v => [(3, .ptr p237 0), (6, .ptr p238 0), (12, .vec v)]) (fun v => [(p237, .cells [.vec t240, .vec t244]), (p238, .cells [.sl .full 3 (([] : List api.File).map api.File.av), .sl .full 3 (([] : List api.Fault).map api.Fault.av)]), (v, .vec 3 (s358.map api.File.av)), (t240, .vec 3 (r239.Files.map api.File.av)), (t244, .vec 3 (r243.2.2.Faults.map api.Fault.av))]) ?_ ?_
   ·have h := s358e
    refine xr (xa (.ptr p237 0) Z (fa Z underlying25 Z sizeOf22 Z Z Z) (xc Z (op_load1 (i := 2) Z isAgg22 (tm Z) Z Z (xc Z (op_lenVecM (i := 3) Z underlying22 (tm Z) Z (xa (.i 0) Z (pu_move Z (AEv.int _ _)) (xe (aw_block (aw_vecNil 12 (tm Z) fun t470 => (aw_while (σ := disk.Rename.S0) (ν := Nat) (disk.Rename.body0 r239 r242 to from_) (fun s432 v => [(1, .str from_), (2, .str to), (3, .ptr p237 0), (6, .ptr p238 0), (8, .i r242), (11, .ptr p248 0), (12, .vec v), (38, .vec t240), (39, .i (r239.Files.length : Int)), (40, .i s432.t40)]) (fun s432 v => [(p237, .cells [.vec t240, .vec t244]), (p238, .cells [.sl .full 3 (([] : List api.File).map api.File.av), .sl .full 3 (([] : List api.Fault).map api.Fault.av)]), (p248, .cells [.str to, .str (ix r239.Files r242).Data, .i (ix r239.Files r242).Synced]), (v, .vec 3 (s432.v.map api.File.av)), (t240, .vec 3 (r239.Files.map api.File.av)), (t244, .vec 3 (r243.2.2.Faults.map api.Fault.av))]) ⟨0, ([] : List api.File)⟩ t470 _ h (Weak.mkL [3, 6, 1, 0, 4, 5] (by decide) ⟨⟨_, Z, cr, Z⟩, ⟨_, Z, cr, Z⟩, ⟨_, Z, cr, Z⟩, ⟨_, Z, Z⟩, ⟨_, Z, Z⟩, ⟨_, Z, Z⟩, trivial⟩ ⟨tm Z, tm Z, tm Z, tm Z, tm Z, tm Z, tm Z, tm Z, tm Z, tm Z, trivial⟩) ?_))))))))))
    rintro s432 n433 x435 h hx434
    unfold disk.Rename.body0 at h
    refine xr (xa (.bool (decide (s432.t40 < (r239.Files.length : Int)))) Z (pu_int (v := .bool (decide (s432.t40 < (r239.Files.length : Int)))) Z Z (tm Z) (tm Z) Z) (xe (aw_seq (aw_cond (b := decide (s432.t40 < (r239.Files.length : Int))) (tm Z) (fun hb469 => ?_) (fun hb469 => ?_)))))
    ·replace h := ite_t (dec_t hb469) h
     refine aw_skip ?_
     obtain ⟨s451, s451e, h453⟩ := bind_some h
     refine aw_meet (ν := Nat) (fun v => [(1, .str from_), (2, .str to), (3, .ptr p237 0), (6, .ptr p238 0), (8, .i r242), (11, .ptr p248 0), (12, .vec v), (38, .vec t240), (39, .i (r239.Files.length : Int)), (40, .i s432.t40)]) (fun v => [(p237, .cells [.vec t240, .vec t244]), (p238, .cells [.sl .full 3 (([] : List api.File).map api.File.av), .sl .full 3 (([] : List api.Fault).map api.Fault.av)]), (p248, .cells [.str to, .str (ix r239.Files r242).Data, .i (ix r239.Files r242).Synced]), (v, .vec 3 (s451.map api.File.av)), (t240, .vec 3 (r239.Files.map api.File.av)), (t244, .vec 3 (r243.2.2.Faults.map api.Fault.av))]) ?_ ?_
     ·have h := s451e
      refine aw_block (xr (xm Z Z Z ?_))
      obtain ⟨c455, h⟩ := need_of h
      refine xc Z (op_indexAddrVecM Z underlying22 sizeOf48 (tm Z) (j := 4) Z (tm Z) c455 ?_)
      obtain ⟨c456, h⟩ := need_of h
      refine xc Z (op_loadENM (i := 4) (sz := 3) Z isAgg48 sizeOf48 (tm Z) Z c456 (by decide) Z (xc Z (op_alloc (cs := [.str ([] : List UInt8), .str ([] : List UInt8), .i 0]) (v := .agg [.str ([] : List UInt8), .str ([] : List UInt8), .i 0]) Z zeroValue48 Z Z Z ?_)))
      intro p457
      refine xm Z Z Z (ac0 Z Z (op_store (i := 0) (cs' := [.str (ix r239.Files s432.t40).Name, .str (ix r239.Files s432.t40).Data, .i (ix r239.Files s432.t40).Synced]) Z sizeOf48 (tm Z) (v := .agg [.str (ix r239.Files s432.t40).Name, .str (ix r239.Files s432.t40).Data, .i (ix r239.Files s432.t40).Synced]) (tm Z) Z Z Z (nb Z) Z (xe (aw_block (xr (xm Z Z Z (xm Z Z Z (xa (.bool (decide (s432.t40 = r242))) Z (pu_int (v := .bool (decide (s432.t40 = r242))) Z Z (tm Z) (tm Z) Z) (xm Z Z Z ?_)))))))))
      refine xe (aw_cond (b := decide (s432.t40 = r242)) (tm Z) (fun hb468 => ?_) (fun hb468 => ?_))
      ·replace h := ite_t (dec_t hb468) h
       refine aw_region (xm Z Z Z (xc Z (op_loadN (i := 3) Z isAgg48 sizeOf48 (tm Z) Z (nb Z) Z (xc Z (op_buildSlice (xs := ([{ (ix r239.Files r242) with Name := to }] : List api.File).map api.File.av) (aparts := [(0, .agg [.str to, .str (ix r239.Files r242).Data, .i (ix r239.Files r242).Synced])]) Z underlying22 sizeOf48 zeroValue48 (by decide) (by decide) ⟨Z, (tm Z), trivial⟩ Z Z Z ?_)))))
       obtain ⟨c458, h⟩ := need_of h
       refine xc Z (op_appendVM (sz := 3) (q := 4) Z underlying22 underlying22 (.inl Z) typeInfo48 Z Z Z (by decide) (tm Z) Z (given_sl (tm Z)) c458 ?_)
       intro p459
       refine xm Z Z Z (xe ?_)
       obtain rfl := some_of h
       exact ⟨p459, Weak.mkL [1, 2, 3, 4, 5, 6] (by decide) ⟨⟨_, Z, cr, Z⟩, ⟨_, Z, cr, Z⟩, ⟨_, Z, cr, Z⟩, ⟨_, Z, Z⟩, ⟨_, Z, Z⟩, ⟨_, Z, Z⟩, trivial⟩ ⟨tm Z, tm Z, tm Z, tm Z, tm Z, tm Z, tm Z, tm Z, tm Z, tm Z, trivial⟩⟩
      ·replace h := ite_f (dec_f hb468) h
       obtain ⟨s461, s461e, h462⟩ := letO_of h
       refine aw_meet (ν := Unit) (fun v => [(1, .str from_), (2, .str to), (3, .ptr p237 0), (6, .ptr p238 0), (8, .i r242), (11, .ptr p248 0), (12, .vec n433), (14, .ptr p457 0), (38, .vec t240), (39, .i (r239.Files.length : Int)), (40, .i s432.t40), (53, .bool s461)]) (fun v => [(p237, .cells [.vec t240, .vec t244]), (p238, .cells [.sl .full 3 (([] : List api.File).map api.File.av), .sl .full 3 (([] : List api.Fault).map api.Fault.av)]), (p248, .cells [.str to, .str (ix r239.Files r242).Data, .i (ix r239.Files r242).Synced]), (n433, .vec 3 (s432.v.map api.File.av)), (p457, .cells [.str (ix r239.Files s432.t40).Name, .str (ix r239.Files s432.t40).Data, .i (ix r239.Files s432.t40).Synced]), (t240, .vec 3 (r239.Files.map api.File.av)), (t244, .vec 3 (r243.2.2.Faults.map api.Fault.av))]) ?_ ?_
       ·have h := s461e.symm
        refine aw_region (xa (.ptr p457 0) Z (fa Z underlying48 Z sizeOf9 Z Z Z) (xc Z (op_load1 (i := 0) Z isAgg9 (tm Z) Z Z (xm Z Z Z (xa (.bool (!decide ((ix r239.Files s432.t40).Name = to))) Z (pu_str (v := .bool (!decide ((ix r239.Files s432.t40).Name = to))) Z Z (tm Z) (tm Z) Z) (xm Z Z Z ?_))))))
        rcases Bool.eq_false_or_eq_true (!decide ((ix r239.Files s432.t40).Name = to)) with hb464 | hb464
        ·replace h := ite_f (ndec_t hb464) h
         refine aops_known 58 Z hb464 (xp (.ptr p457 0) Z Z (fa Z underlying48 Z sizeOf9 Z Z Z) (xg Z Z (op_load1 (i := 0) Z isAgg9 (tm Z) Z Z (xq Z Z Z Z (xp (.bool (!decide ((ix r239.Files s432.t40).Name = from_))) Z Z (pu_str (v := .bool (!decide ((ix r239.Files s432.t40).Name = from_))) Z Z (tm Z) (tm Z) Z) (xa (.bool (!decide ((ix r239.Files s432.t40).Name = from_))) Z (pu_pick (b := true) Z (tm Z) (fun _ => (tm Z)) (fun h => nomatch h)) (xm Z Z Z (xe ?_))))))))
         subst h
         exact ⟨(), Weak.mkL [1, 2, 3, 4, 0, 5, 6] (by decide) ⟨⟨_, Z, cr, Z⟩, ⟨_, Z, cr, Z⟩, ⟨_, Z, cr, Z⟩, ⟨_, Z, Z⟩, ⟨_, Z, cr, Z⟩, ⟨_, Z, Z⟩, ⟨_, Z, Z⟩, trivial⟩ ⟨tm Z, tm Z, tm Z, tm Z, tm Z, tm Z, tm Z, tm Z, tm Z, tm Z, tm Z, tm Z, trivial⟩⟩
        ·replace h := ite_t (ndec_f hb464) h
         refine aops_known 58 Z hb464 (xn Z Z Z (xn Z Z Z (xn Z Z Z (xn Z Z Z (xa (.bool false) Z (pu_pick (b := false) Z (tm Z) (fun h => nomatch h) (fun _ => (AEv.bool _))) (xm Z Z Z (xe ?_)))))))
         subst h
         exact ⟨(), Weak.mkL [1, 2, 3, 4, 0, 5, 6] (by decide) ⟨⟨_, Z, cr, Z⟩, ⟨_, Z, cr, Z⟩, ⟨_, Z, cr, Z⟩, ⟨_, Z, Z⟩, ⟨_, Z, cr, Z⟩, ⟨_, Z, Z⟩, ⟨_, Z, Z⟩, trivial⟩ ⟨tm Z, tm Z, tm Z, tm Z, tm Z, tm Z, tm Z, tm Z, tm Z, tm Z, tm Z, tm Z, trivial⟩⟩
       ·intro _
        have h := h462
        refine aw_cond (b := s461) (tm Z) (fun hb467 => ?_) (fun hb467 => ?_)
        ·replace h := ite_t hb467 h
         refine aw_region (xm Z Z Z (xc Z (op_loadN (i := 4) Z isAgg48 sizeOf48 (tm Z) Z (nb Z) Z (xc Z (op_buildSlice (xs := ([(ix r239.Files s432.t40)] : List api.File).map api.File.av) (aparts := [(0, .agg [.str (ix r239.Files s432.t40).Name, .str (ix r239.Files s432.t40).Data, .i (ix r239.Files s432.t40).Synced])]) Z underlying22 sizeOf48 zeroValue48 (by decide) (by decide) ⟨Z, (tm Z), trivial⟩ Z Z Z ?_)))))
         obtain ⟨c465, h⟩ := need_of h
         refine xc Z (op_appendVM (sz := 3) (q := 3) Z underlying22 underlying22 (.inl Z) typeInfo48 Z Z Z (by decide) (tm Z) Z (given_sl (tm Z)) c465 ?_)
         intro p466
         refine xm Z Z Z (xe ?_)
         obtain rfl := some_of h
         exact ⟨p466, Weak.mkL [0, 1, 2, 3, 5, 6] (by decide) ⟨⟨_, Z, cr, Z⟩, ⟨_, Z, cr, Z⟩, ⟨_, Z, cr, Z⟩, ⟨_, Z, Z⟩, ⟨_, Z, Z⟩, ⟨_, Z, Z⟩, trivial⟩ ⟨tm Z, tm Z, tm Z, tm Z, tm Z, tm Z, tm Z, tm Z, tm Z, tm Z, trivial⟩⟩
        ·replace h := ite_fb hb467 h
         refine aw_skip ?_
         obtain rfl := some_of h
         exact ⟨n433, Weak.mkL [0, 1, 2, 3, 5, 6] (by decide) ⟨⟨_, Z, cr, Z⟩, ⟨_, Z, cr, Z⟩, ⟨_, Z, cr, Z⟩, ⟨_, Z, Z⟩, ⟨_, Z, Z⟩, ⟨_, Z, Z⟩, trivial⟩ ⟨tm Z, tm Z, tm Z, tm Z, tm Z, tm Z, tm Z, tm Z, tm Z, tm Z, trivial⟩⟩
     ·intro n452
      have h := h453
      refine aw_region (xa (.i (IntKind.wrap .i64 (s432.t40 + 1))) Z (pu_int (v := .i (IntKind.wrap .i64 (s432.t40 + 1))) Z Z (tm Z) (AEv.int _ _) Z) (xm Z Z Z (xe ?_)))
      obtain rfl := some_of h
      exact ⟨_, n452, Z, Weak.mkL [0, 1, 2, 3, 4, 5] (by decide) ⟨⟨_, Z, cr, Z⟩, ⟨_, Z, cr, Z⟩, ⟨_, Z, cr, Z⟩, ⟨_, Z, Z⟩, ⟨_, Z, Z⟩, ⟨_, Z, Z⟩, trivial⟩ ⟨tm Z, tm Z, tm Z, tm Z, tm Z, tm Z, tm Z, tm Z, tm Z, (AEv.le (tm Z) vr), trivial⟩⟩
    ·replace h := ite_f (dec_f hb469) h
     refine aw_exit ?_
     obtain rfl := some_of h
     have h := congrArg some (hx434 _ rfl)
     obtain rfl := some_of h
     exact ⟨n433, Weak.mkL [0, 1, 3, 4, 5] (by decide) ⟨⟨_, Z, cr, Z⟩, ⟨_, Z, cr, Z⟩, ⟨_, Z, Z⟩, ⟨_, Z, Z⟩, ⟨_, Z, Z⟩, trivial⟩ ⟨tm Z, tm Z, tm Z, trivial⟩⟩
   ·intro n359
    have h := h360
    refine xr (xm Z Z Z (xa (.ptr p237 0) Z (fa Z underlying25 Z sizeOf22 Z Z Z) (ac0 Z Z (op_store (i := 0) (cs' := [.vec n359, .vec t244]) Z sizeOf22 (tm Z) (v := .vec n359) (tm Z) Z Z Z (nb Z) Z (xe (xr (xc Z (op_loadN (i := 0) Z isAgg25 sizeOf25 (tm Z) Z (nb Z) Z (ac0 Z Z (op_store (i := 1) (cs' := [.vec n359, .vec t244]) Z sizeOf25 (tm Z) (v := .agg [.vec n359, .vec t244]) (tm Z) Z Z Z (nb Z) Z ?_))))))))))
    refine xa (.i 0) Z (pu_assign Z (AEv.int _ _)) (xe (aw_ret ?_))
    obtain rfl := some_of h
    exact ⟨[.agg [.vec n359, .vec t244], .i 0], .tup [.agg [.vec n359, .vec t244], .i 0], [(n359, .vec 3 (s358.map api.File.av)), (t244, .vec 3 (r243.2.2.Faults.map api.Fault.av))], ⟨(CellOk.agg 1 (tm Z) Z isAgg25 sizeOf25 (nb Z) Z), (tm Z), trivial⟩, (AV.Le.tup cr), Weak.mkL [2, 4] (by decide) ⟨⟨_, Z, Z⟩, ⟨_, Z, Z⟩, trivial⟩ trivial, ⟨n359, t244, Z, Z⟩⟩

theorem disk.Remove_1.ok {f : api.File} {a1_ : List UInt8} {r : Bool} (h : disk.Remove_1 f a1_ = some r) (o0 : Nat) : Go.Lift.Spec prog 44 [.agg [.str f.Name, .str f.Data, .i f.Synced], .ptr o0 0] [(o0, .cells [.str a1_])] (fun v H => v = .bool r ∧ H = [(o0, .cells [.str a1_])]) := by
 unfold disk.Remove_1 at h
 refine Go.Lift.Spec.of_body (rs := [.tmp 3]) func44 Z Z (nb Z) Z (xr (xc Z (op_box (cs := [.str f.Name, .str f.Data, .i f.Synced]) (v := .agg [.str f.Name, .str f.Data, .i f.Synced]) Z (tm Z) Z Z ?_)))
 intro p2
 refine xa (.bool false) Z (pu_assign Z (AEv.bool _)) (xe (xr (xa (.ptr p2 0) Z (fa Z underlying48 Z sizeOf9 Z Z Z) (xc Z (op_load1 (i := 0) Z isAgg9 (tm Z) Z Z (xc Z (op_load1 (i := 1) Z isAgg9 (tm Z) Z Z (xa (.bool (decide (f.Name = a1_))) Z (pu_str (v := .bool (decide (f.Name = a1_))) Z Z (tm Z) (tm Z) Z) (xm Z Z Z (xe ?_))))))))))
 refine aw_ret ?_
 obtain rfl := some_of h
 exact ⟨[.bool (decide (f.Name = a1_))], _, [(o0, .cells [.str a1_])], ⟨(tm Z), trivial⟩, vr, Weak.mkL [1] (by decide) ⟨⟨_, Z, ⟨vr, trivial⟩, Z⟩, trivial⟩ trivial, ⟨Z, Z⟩⟩

theorem slices.IndexFunc_api_File_v_disk_Remove_1.ok {s_ : List api.File} {b1_ : List UInt8} {r : Int} (h : slices.IndexFunc_api_File_v_disk_Remove_1 s_ b1_ = some r) (o0 o1 : Nat) : Go.Lift.Spec prog 45 [.vec o0, .fn 44 [.ptr o1 0]] [(o0, .vec 3 (s_.map api.File.av)), (o1, .cells [.str b1_])] (fun v H => v = .i r ∧ H = [(o0, .vec 3 (s_.map api.File.av)), (o1, .cells [.str b1_])]) := by
 unfold slices.IndexFunc_api_File_v_disk_Remove_1 at h
 refine Go.Lift.Spec.of_body (rs := [.tmp 4]) func45 Z Z (nb Z) Z (xr (xa (.i 0) Z (pu_assign Z (AEv.int _ _)) (xe ?_)))
 obtain ⟨s92, s92e, h69⟩ := bind_some h
 refine aw_join (σ := Unit) (ν := Unit) (fun u v => []) (fun u v => [(o0, .vec 3 (s_.map api.File.av)), (o1, .cells [.str b1_])]) (fun u => s92 = .inl u) ?_ ?_
 ·intro s68
  intro _
  rintro rfl
  have h := onSum_inl h69
  refine xr (xa (.i (-1)) Z (pu_assign Z (AEv.int _ _)) (xe (aw_ret ?_)))
  obtain rfl := some_of h
  exact ⟨[.i (-1)], _, [(o0, .vec 3 (s_.map api.File.av)), (o1, .cells [.str b1_])], ⟨(tm Z), trivial⟩, vr, Weak.mkL [0, 1] (by decide) ⟨⟨_, Z, Z⟩, ⟨_, Z, ⟨vr, trivial⟩, Z⟩, trivial⟩ trivial, ⟨Z, Z⟩⟩
 ·have h := s92e
  refine xr (xm Z Z Z (xc Z (op_lenVecM (i := 0) Z underlying22 (tm Z) Z (xa (.i 0) Z (pu_move Z (AEv.int _ _)) (xe (aw_block (aw_while (σ := slices.IndexFunc_api_File_v_disk_Remove_1.S0) (ν := Unit) (slices.IndexFunc_api_File_v_disk_Remove_1.body0 s_ b1_) (fun s83 v => [(0, .vec o0), (1, .fn 44 [.ptr o1 0]), (7, .i (s_.length : Int)), (8, .i s83.t8)]) (fun s83 v => [(o0, .vec 3 (s_.map api.File.av)), (o1, .cells [.str b1_])]) ⟨0⟩ () _ h (Weak.mkL [0, 1] (by decide) ⟨⟨_, Z, Z⟩, ⟨_, Z, ⟨vr, trivial⟩, Z⟩, trivial⟩ ⟨tm Z, tm Z, tm Z, tm Z, trivial⟩) ?_)))))))
  rintro s83 _ x85 h hx84
  unfold slices.IndexFunc_api_File_v_disk_Remove_1.body0 at h
  refine xr (xa (.bool (decide (s83.t8 < (s_.length : Int)))) Z (pu_int (v := .bool (decide (s83.t8 < (s_.length : Int)))) Z Z (tm Z) (tm Z) Z) (xe (aw_seq (aw_cond (b := decide (s83.t8 < (s_.length : Int))) (tm Z) (fun hb91 => ?_) (fun hb91 => ?_)))))
  ·replace h := ite_t (dec_t hb91) h
   refine aw_skip (aw_seq (aw_block (xr (xm Z Z Z (xm Z Z Z (xe (aw_seq (aw_region ?_))))))))
   refine xm Z Z Z (xm Z Z Z (xm Z Z Z ?_))
   obtain ⟨c87, h⟩ := need_of h
   refine xc Z (op_indexAddrVecM Z underlying22 sizeOf48 (tm Z) (j := 0) Z (tm Z) c87 ?_)
   obtain ⟨c88, h⟩ := need_of h
   refine xc Z (op_loadENM (i := 0) (sz := 3) Z isAgg48 sizeOf48 (tm Z) Z c88 (by decide) Z ?_)
   obtain ⟨r89, r89e, h⟩ := bind_some h
   refine aops_weak (weak_pick [1, 0] (by decide) Z) (xc Z (op_callV (vs := [.agg [.str (ix s_ s83.t8).Name, .str (ix s_ s83.t8).Data, .i (ix s_ s83.t8).Synced]]) (H := [(o1, .cells [.str b1_])]) Z (tm Z) call44 ⟨(tm Z), trivial⟩ (List.Perm.refl _) (disk.Remove_1.ok r89e o1) ?_))
   rintro _ _ ⟨rfl, rfl⟩
   refine xe (aw_cond (b := r89) (tm Z) (fun hb90 => ?_) (fun hb90 => ?_))
   ·replace h := ite_t hb90 h
    refine xr (xm Z Z Z (xm Z Z Z (xe (aw_ret ?_))))
    obtain rfl := some_of h
    have h := congrArg some (hx84 _ rfl)
    obtain rfl := some_of h
    have h := onSum_inr h69
    obtain rfl := some_of h
    exact ⟨[.i s83.t8], _, [(o0, .vec 3 (s_.map api.File.av)), (o1, .cells [.str b1_])], ⟨(tm Z), trivial⟩, vr, Weak.mkL [1, 0] (by decide) ⟨⟨_, Z, Z⟩, ⟨_, Z, ⟨vr, trivial⟩, Z⟩, trivial⟩ trivial, ⟨Z, Z⟩⟩
   ·replace h := ite_fb hb90 h
    refine aw_skip (aw_region (xa (.i (IntKind.wrap .i64 (s83.t8 + 1))) Z (pu_int (v := .i (IntKind.wrap .i64 (s83.t8 + 1))) Z Z (tm Z) (AEv.int _ _) Z) (xm Z Z Z (xe ?_))))
    obtain rfl := some_of h
    exact ⟨_, (), Z, Weak.mkL [1, 0] (by decide) ⟨⟨_, Z, Z⟩, ⟨_, Z, ⟨vr, trivial⟩, Z⟩, trivial⟩ ⟨tm Z, tm Z, tm Z, (AEv.le (tm Z) vr), trivial⟩⟩
  ·replace h := ite_f (dec_f hb91) h
   refine aw_exit ?_
   obtain rfl := some_of h
   have h := congrArg some (hx84 _ rfl)
   exact ⟨(), (), (some_of h).symm, Weak.mkL [0, 1] (by decide) ⟨⟨_, Z, Z⟩, ⟨_, Z, ⟨vr, trivial⟩, Z⟩, trivial⟩ trivial⟩

end Go.Pu
