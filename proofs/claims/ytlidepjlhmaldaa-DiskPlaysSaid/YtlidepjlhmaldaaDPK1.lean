/- Printed by lift.py: the functions come to them. -/
import Derived.Test.YtlidepjlhmaldaaLiftW
import Derived.Test.YtlidepjlhmaldaaDPK0
set_option maxRecDepth 100000
set_option maxHeartbeats 0
namespace Go.Pu
open Go.Lift Go.Proofs.Try Go.RowKit Go.Proofs

theorem slices.DeleteFunc_api_File_v_disk_Remove_1.ok {s_ : List api.File} {b1_ : List UInt8} {r : List api.File} (h : slices.DeleteFunc_api_File_v_disk_Remove_1 s_ b1_ = some r) (o0 o1 : Nat) : Go.Lift.Spec prog 43 [.vec o0, .fn 44 [.ptr o1 0]] [(o0, .vec 3 (s_.map api.File.av)), (o1, .cells [.str b1_])] (fun v H => ∃ n0, v = .vec n0 ∧ H = [(o1, .cells [.str b1_]), (n0, .vec 3 (r.map api.File.av))]) := by
 unfold slices.DeleteFunc_api_File_v_disk_Remove_1 at h
 refine Go.Lift.Spec.of_body (rs := [.tmp 4]) func43 Z Z (nb Z) Z (xr (xa (.sl .full 3 (([] : List api.File).map api.File.av)) Z (pu_assign Z (AEv.nil 3 (by decide))) (xe (xr (xm Z Z Z (xm Z Z Z ?_))))))
 obtain ⟨r129, r129e, h⟩ := bind_some h
 refine xc Z (op_call (vs := [.vec o0, .fn 44 [.ptr o1 0]]) (H := [(o0, .vec 3 (s_.map api.File.av)), (o1, .cells [.str b1_])]) Z call45 ⟨(tm Z), (tm Z), trivial⟩ (List.Perm.refl _) (slices.IndexFunc_api_File_v_disk_Remove_1.ok r129e o0 o1) ?_)
 rintro _ _ ⟨rfl, rfl⟩
 refine xm Z Z Z (xe (aw_seq (xr (xm Z Z Z (xa (.bool (decide (r129 = (-1)))) Z (pu_int (v := .bool (decide (r129 = (-1)))) Z Z (tm Z) (AEv.int _ _) Z) (xe (aw_cond (b := decide (r129 = (-1))) (tm Z) (fun hb258 => ?_) (fun hb258 => ?_))))))))
 ·replace h := ite_t (dec_t hb258) h
  refine xr (xm Z Z Z (xm Z Z Z (xe (aw_ret ?_))))
  obtain rfl := some_of h
  exact ⟨[.vec o0], _, [(o1, .cells [.str b1_]), (o0, .vec 3 (s_.map api.File.av))], ⟨(tm Z), trivial⟩, vr, Weak.mkL [1, 0] (by decide) ⟨⟨_, Z, ⟨vr, trivial⟩, Z⟩, ⟨_, Z, Z⟩, trivial⟩ trivial, ⟨o0, Z, Z⟩⟩
 ·replace h := ite_f (dec_f hb258) h
  refine aw_skip ?_
  obtain ⟨s190, s190e, h191⟩ := bind_some h
  refine aw_meet (ν := Unit) (fun v => [(0, .vec o0), (5, .i s190.1)]) (fun v => [(o0, .vec 3 (s190.2.map api.File.av)), (o1, .cells [.str b1_])]) ?_ ?_
  ·have h := s190e
   refine xr (xm Z Z Z (xa (.i (IntKind.wrap .i64 (r129 + 1))) Z (pu_int (v := .i (IntKind.wrap .i64 (r129 + 1))) Z Z (tm Z) (AEv.int _ _) Z) (xm Z Z Z (xe (aw_block (aw_while (σ := slices.DeleteFunc_api_File_v_disk_Remove_1.S0) (ν := Unit) (slices.DeleteFunc_api_File_v_disk_Remove_1.body0 b1_) (fun s231 v => [(0, .vec o0), (1, .fn 44 [.ptr o1 0]), (5, .i s231.i), (6, .i s231.j)]) (fun s231 v => [(o0, .vec 3 (s231.v.map api.File.av)), (o1, .cells [.str b1_])]) ⟨r129, IntKind.wrap .i64 (r129 + 1), s_⟩ () _ h (Weak.mkL [0, 1] (by decide) ⟨⟨_, Z, Z⟩, ⟨_, Z, ⟨vr, trivial⟩, Z⟩, trivial⟩ ⟨tm Z, tm Z, tm Z, (AEv.le (tm Z) vr), trivial⟩) ?_))))))
   rintro s231 _ x233 h hx232
   unfold slices.DeleteFunc_api_File_v_disk_Remove_1.body0 at h
   refine aw_seq (xr (xm Z Z Z (xm Z Z Z (xc Z (op_lenVecM (i := 0) Z underlying22 (tm Z) Z (xa (.bool (decide (s231.j < (s231.v.length : Int)))) Z (pu_int (v := .bool (decide (s231.j < (s231.v.length : Int)))) Z Z (tm Z) (tm Z) Z) (xe (aw_cond (b := decide (s231.j < (s231.v.length : Int))) (tm Z) (fun hb252 => ?_) (fun hb252 => ?_)))))))))
   ·replace h := ite_t (dec_t hb252) h
    refine aw_skip ?_
    obtain ⟨s242, s242e, h243⟩ := bind_some h
    refine aw_meet (ν := Unit) (fun v => [(0, .vec o0), (1, .fn 44 [.ptr o1 0]), (5, .i s242.1), (6, .i s231.j)]) (fun v => [(o0, .vec 3 (s242.2.map api.File.av)), (o1, .cells [.str b1_])]) ?_ ?_
    ·have h := s242e
     refine aw_block (xr (xm Z Z Z (xm Z Z Z ?_)))
     obtain ⟨c245, h⟩ := need_of h
     refine xc Z (op_indexAddrVecM Z underlying22 sizeOf48 (tm Z) (j := 0) Z (tm Z) c245 ?_)
     obtain ⟨c246, h⟩ := need_of h
     refine xc Z (op_loadENM (i := 0) (sz := 3) Z isAgg48 sizeOf48 (tm Z) Z c246 (by decide) Z (xc Z (op_alloc (cs := [.str ([] : List UInt8), .str ([] : List UInt8), .i 0]) (v := .agg [.str ([] : List UInt8), .str ([] : List UInt8), .i 0]) Z zeroValue48 Z Z Z ?_)))
     intro p247
     refine ac0 Z Z (op_store (i := 0) (cs' := [.str (ix s231.v s231.j).Name, .str (ix s231.v s231.j).Data, .i (ix s231.v s231.j).Synced]) Z sizeOf48 (tm Z) (v := .agg [.str (ix s231.v s231.j).Name, .str (ix s231.v s231.j).Data, .i (ix s231.v s231.j).Synced]) (tm Z) Z Z Z (nb Z) Z (xe (xr (xm Z Z Z (xc Z (op_loadN (i := 0) Z isAgg48 sizeOf48 (tm Z) Z (nb Z) Z ?_))))))
     obtain ⟨r248, r248e, h⟩ := bind_some h
     refine aops_weak (weak_pick [2, 0, 1] (by decide) Z) (xc Z (op_callV (vs := [.agg [.str (ix s231.v s231.j).Name, .str (ix s231.v s231.j).Data, .i (ix s231.v s231.j).Synced]]) (H := [(o1, .cells [.str b1_])]) Z (tm Z) call44 ⟨(tm Z), trivial⟩ (List.Perm.refl _) (disk.Remove_1.ok r248e o1) ?_))
     rintro _ _ ⟨rfl, rfl⟩
     refine xa (.bool (!r248)) Z (pu_not Z (tm Z)) (xe (aw_cond (b := (!r248)) (tm Z) (fun hb251 => ?_) (fun hb251 => ?_)))
     ·replace h := ite_t hb251 h
      refine xr (xm Z Z Z (xm Z Z Z (xc Z (op_loadN (i := 1) Z isAgg48 sizeOf48 (tm Z) Z (nb Z) Z ?_))))
      obtain ⟨c249, h⟩ := need_of h
      refine xc Z (op_indexAddrVecM Z underlying22 sizeOf48 (tm Z) (j := 2) Z (tm Z) c249 ?_)
      obtain ⟨c250, h⟩ := need_of h
      refine ac0 Z Z (op_storeEM (i := 2) (sz := 3) (y' := (ix s231.v s231.j)) Z sizeOf48 (tm Z) (v := .agg [.str (ix s231.v s231.j).Name, .str (ix s231.v s231.j).Data, .i (ix s231.v s231.j).Synced]) (tm Z) Z c250 Z Z (by decide) Z (xe (aw_region (xm Z Z Z (xa (.i (IntKind.wrap .i64 (s231.i + 1))) Z (pu_int (v := .i (IntKind.wrap .i64 (s231.i + 1))) Z Z (tm Z) (AEv.int _ _) Z) (xm Z Z Z (xe ?_)))))))
      obtain rfl := some_of h
      exact ⟨(), Weak.mkL [2, 0] (by decide) ⟨⟨_, Z, Z⟩, ⟨_, Z, ⟨vr, trivial⟩, Z⟩, trivial⟩ ⟨tm Z, tm Z, (AEv.le (tm Z) vr), tm Z, trivial⟩⟩
     ·replace h := ite_fb hb251 h
      refine aw_skip ?_
      obtain rfl := some_of h
      exact ⟨(), Weak.mkL [2, 0] (by decide) ⟨⟨_, Z, Z⟩, ⟨_, Z, ⟨vr, trivial⟩, Z⟩, trivial⟩ ⟨tm Z, tm Z, tm Z, tm Z, trivial⟩⟩
    ·intro _
     have h := h243
     refine aw_region (xm Z Z Z (xa (.i (IntKind.wrap .i64 (s231.j + 1))) Z (pu_int (v := .i (IntKind.wrap .i64 (s231.j + 1))) Z Z (tm Z) (AEv.int _ _) Z) (xm Z Z Z (xe ?_))))
     obtain rfl := some_of h
     exact ⟨_, (), Z, Weak.mkL [0, 1] (by decide) ⟨⟨_, Z, Z⟩, ⟨_, Z, ⟨vr, trivial⟩, Z⟩, trivial⟩ ⟨tm Z, tm Z, tm Z, (AEv.le (tm Z) vr), trivial⟩⟩
   ·replace h := ite_f (dec_f hb252) h
    refine aw_exit ?_
    obtain rfl := some_of h
    have h := congrArg some (hx232 _ rfl)
    obtain rfl := some_of h
    exact ⟨(), Weak.mkL [0, 1] (by decide) ⟨⟨_, Z, Z⟩, ⟨_, Z, ⟨vr, trivial⟩, Z⟩, trivial⟩ ⟨tm Z, tm Z, trivial⟩⟩
  ·intro _
   have h := h191
   refine xr (xm Z Z Z (xm Z Z Z ?_))
   obtain ⟨c253, h⟩ := need_of h
   refine xc Z (op_sliceVecM Z underlying22 sizeOf48 (tm Z) (q := 0) Z ⟨_, (tm Z)⟩ Z c253 ?_)
   obtain ⟨c254, h⟩ := need_of h
   refine ac0 Z Z (op_clearVM (q := 0) api.File.av (({ Name := ([] : List UInt8), Data := ([] : List UInt8), Synced := 0 } : api.File) : api.File) Z underlying22 zeroValue48 Z Z (tm Z) Z c254 (xe (xr (xm Z Z Z (xm Z Z Z ?_)))))
   obtain ⟨c255, h⟩ := need_of h
   refine xc Z (op_sliceVecM Z underlying22 sizeOf48 (tm Z) (q := 0) Z Z ⟨_, (tm Z)⟩ c255 (xm Z Z Z (xe ?_)))
   obtain ⟨c256, h⟩ := need_of h
   refine aw_shrinkM 4 0 (tm Z) Z c256 fun p257 => (aw_ret ?_)
   obtain rfl := some_of h
   exact ⟨[.vec p257], _, [(o1, .cells [.str b1_]), (p257, .vec 3 ((List.take (Int.toNat s190.1) (clrL s190.2 (Int.toNat s190.1) (Int.toNat (s190.2.length : Int)) (({ Name := ([] : List UInt8), Data := ([] : List UInt8), Synced := 0 } : api.File) : api.File))).map api.File.av))], ⟨(tm Z), trivial⟩, vr, Weak.mkL [1, 0] (by decide) ⟨⟨_, Z, ⟨vr, trivial⟩, Z⟩, ⟨_, Z, Z⟩, trivial⟩ trivial, ⟨p257, Z, Z⟩⟩

theorem disk.Remove.ok {d : api.Disk} {name : List UInt8} {r : api.Disk} (h : disk.Remove d name = some r) : Go.Lift.Spec prog 22 [.agg [.sl .no 3 (d.Files.map api.File.av), .sl .no 3 (d.Faults.map api.Fault.av)], .str name] [] (fun v H => ∃ n0 n1, v = .agg [.vec n0, .vec n1] ∧ H = [(n0, .vec 3 (r.Files.map api.File.av)), (n1, .vec 3 (r.Faults.map api.Fault.av))]) := by
 unfold disk.Remove at h
 refine Go.Lift.Spec.of_body (rs := [.cell 4 25]) func22 Z Z (nb Z) Z (xr (xc Z (op_box (cs := [.sl .no 3 (d.Files.map api.File.av), .sl .no 3 (d.Faults.map api.Fault.av)]) (v := .agg [.sl .no 3 (d.Files.map api.File.av), .sl .no 3 (d.Faults.map api.Fault.av)]) Z (tm Z) Z Z ?_)))
 intro p9
 refine xc Z (op_box (cs := [.str name]) (v := .str name) Z (tm Z) Z Z ?_)
 intro p10
 refine xc Z (op_alloc (cs := [.sl .full 3 (([] : List api.File).map api.File.av), .sl .full 3 (([] : List api.Fault).map api.Fault.av)]) (v := .agg [.sl .full 3 (([] : List api.File).map api.File.av), .sl .full 3 (([] : List api.Fault).map api.Fault.av)]) Z zeroValue25 Z Z Z ?_)
 intro p11
 refine xe (xr (xc Z (op_loadN (i := 2) Z isAgg25 sizeOf25 (tm Z) Z (nb Z) Z ?_)))
 obtain ⟨r12, r12e, h⟩ := bind_some h
 refine xc Z (op_call (vs := [.agg [.sl .no 3 (d.Files.map api.File.av), .sl .no 3 (d.Faults.map api.Fault.av)]]) (H := []) Z call41 ⟨(tm Z), trivial⟩ (List.Perm.refl _) (disk.own.ok r12e) ?_)
 rintro _ _ ⟨t13, t14, rfl, rfl⟩
 refine ac0 Z Z (op_store (i := 4) (cs' := [.vec t13, .vec t14]) Z sizeOf25 (tm Z) (v := .agg [.vec t13, .vec t14]) (tm Z) Z Z Z (nb Z) Z (xe (xr (xa (.ptr p9 0) Z (fa Z underlying25 Z sizeOf22 Z Z Z) (xc Z (op_load1 (i := 4) Z isAgg22 (tm Z) Z Z (xa (.fn 44 [.ptr p10 0]) Z (pu_makeFunc Z ⟨(tm Z), trivial⟩) ?_)))))))
 obtain ⟨r15, r15e, h⟩ := bind_some h
 refine aops_weak (weak_pick [0, 3, 1, 2, 4] (by decide) Z) (xc Z (op_call (vs := [.vec t13, .fn 44 [.ptr p10 0]]) (H := [(t13, .vec 3 (r12.Files.map api.File.av)), (p10, .cells [.str name])]) Z call43 ⟨(tm Z), (tm Z), trivial⟩ (List.Perm.refl _) (slices.DeleteFunc_api_File_v_disk_Remove_1.ok r15e t13 p10) ?_))
 rintro _ _ ⟨t16, rfl, rfl⟩
 refine xa (.ptr p9 0) Z (fa Z underlying25 Z sizeOf22 Z Z Z) (ac0 Z Z (op_store (i := 4) (cs' := [.vec t16, .vec t14]) Z sizeOf22 (tm Z) (v := .vec t16) (tm Z) Z Z Z (nb Z) Z (xe (xr (xc Z (op_loadN (i := 4) Z isAgg25 sizeOf25 (tm Z) Z (nb Z) Z (ac0 Z Z (op_store (i := 3) (cs' := [.vec t16, .vec t14]) Z sizeOf25 (tm Z) (v := .agg [.vec t16, .vec t14]) (tm Z) Z Z Z (nb Z) Z (xe (aw_ret ?_))))))))))
 obtain rfl := some_of h
 exact ⟨[.agg [.vec t16, .vec t14]], _, [(t16, .vec 3 (r15.map api.File.av)), (t14, .vec 3 (r12.Faults.map api.Fault.av))], ⟨(CellOk.agg 3 (tm Z) Z isAgg25 sizeOf25 (nb Z) Z), trivial⟩, vr, Weak.mkL [1, 2] (by decide) ⟨⟨_, Z, Z⟩, ⟨_, Z, Z⟩, trivial⟩ trivial, ⟨t16, t14, Z, Z⟩⟩

theorem disk.Cut.ok {d : api.Disk} {name : List UInt8} {n_ : Int} {r : api.Disk × Int} (h : disk.Cut d name n_ = some r) : Go.Lift.Spec prog 23 [.agg [.sl .no 3 (d.Files.map api.File.av), .sl .no 3 (d.Faults.map api.Fault.av)], .str name, .i n_] [] (fun v H => ∃ n0 n1, v = .tup [.agg [.vec n0, .vec n1], .i r.2] ∧ H = [(n0, .vec 3 (r.1.Files.map api.File.av)), (n1, .vec 3 (r.1.Faults.map api.Fault.av))]) := by
 unfold disk.Cut at h
 refine Go.Lift.Spec.of_body (rs := [.cell 6 25, .tmp 7]) func23 Z Z (nb Z) Z (xr (xc Z (op_box (cs := [.sl .no 3 (d.Files.map api.File.av), .sl .no 3 (d.Faults.map api.Fault.av)]) (v := .agg [.sl .no 3 (d.Files.map api.File.av), .sl .no 3 (d.Faults.map api.Fault.av)]) Z (tm Z) Z Z ?_)))
 intro p16
 refine xc Z (op_alloc (cs := [.sl .full 3 (([] : List api.File).map api.File.av), .sl .full 3 (([] : List api.Fault).map api.Fault.av)]) (v := .agg [.sl .full 3 (([] : List api.File).map api.File.av), .sl .full 3 (([] : List api.Fault).map api.Fault.av)]) Z zeroValue25 Z Z Z ?_)
 intro p17
 refine xa (.i 0) Z (pu_assign Z (AEv.int _ _)) (xe (xr (xc Z (op_loadN (i := 1) Z isAgg25 sizeOf25 (tm Z) Z (nb Z) Z ?_))))
 obtain ⟨r18, r18e, h⟩ := bind_some h
 refine xc Z (op_call (vs := [.agg [.sl .no 3 (d.Files.map api.File.av), .sl .no 3 (d.Faults.map api.Fault.av)]]) (H := []) Z call41 ⟨(tm Z), trivial⟩ (List.Perm.refl _) (disk.own.ok r18e) ?_)
 rintro _ _ ⟨t19, t20, rfl, rfl⟩
 refine ac0 Z Z (op_store (i := 3) (cs' := [.vec t19, .vec t20]) Z sizeOf25 (tm Z) (v := .agg [.vec t19, .vec t20]) (tm Z) Z Z Z (nb Z) Z (xe (xr (xc Z (op_loadN (i := 3) Z isAgg25 sizeOf25 (tm Z) Z (nb Z) Z (xm Z Z Z ?_))))))
 obtain ⟨r21, r21e, h⟩ := bind_some h
 refine xc Z (op_call (vs := [.agg [.vec t19, .vec t20], .str name]) (H := [(t19, .vec 3 (r18.Files.map api.File.av)), (t20, .vec 3 (r18.Faults.map api.Fault.av))]) Z call25 ⟨(tm Z), (tm Z), trivial⟩ (List.Perm.refl _) (disk.find_v.ok r21e t19 t20) ?_)
 rintro _ _ ⟨rfl, rfl⟩
 refine xm Z Z Z (xe (aw_seq (xr (xm Z Z Z (xa (.bool (decide (r21 < 0))) Z (pu_int (v := .bool (decide (r21 < 0))) Z Z (tm Z) (AEv.int _ _) Z) (xe (aw_cond (b := decide (r21 < 0)) (tm Z) (fun hb30 => ?_) (fun hb30 => ?_))))))))
 ·replace h := ite_t (dec_t hb30) h
  refine xr (xc Z (op_loadN (i := 3) Z isAgg25 sizeOf25 (tm Z) Z (nb Z) Z (ac0 Z Z (op_store (i := 2) (cs' := [.vec t19, .vec t20]) Z sizeOf25 (tm Z) (v := .agg [.vec t19, .vec t20]) (tm Z) Z Z Z (nb Z) Z (xa (.i 8) Z (pu_assign Z (AEv.int _ _)) (xe (aw_ret ?_)))))))
  obtain rfl := some_of h
  exact ⟨[.agg [.vec t19, .vec t20], .i 8], .tup [.agg [.vec t19, .vec t20], .i 8], [(t19, .vec 3 (r18.Files.map api.File.av)), (t20, .vec 3 (r18.Faults.map api.Fault.av))], ⟨(CellOk.agg 2 (tm Z) Z isAgg25 sizeOf25 (nb Z) Z), (tm Z), trivial⟩, (AV.Le.tup cr), Weak.mkL [0, 1] (by decide) ⟨⟨_, Z, Z⟩, ⟨_, Z, Z⟩, trivial⟩ trivial, ⟨t19, t20, Z, Z⟩⟩
 ·replace h := ite_f (dec_f hb30) h
  refine aw_skip (xr (xa (.ptr p16 0) Z (fa Z underlying25 Z sizeOf22 Z Z Z) (xc Z (op_load1 (i := 3) Z isAgg22 (tm Z) Z Z (xm Z Z Z ?_)))))
  obtain ⟨c22, h⟩ := need_of h
  refine xc Z (op_indexAddrVecM Z underlying22 sizeOf48 (tm Z) (j := 0) Z (tm Z) c22 (xm Z Z Z (xe (aw_seq ?_))))
  obtain ⟨c23, h⟩ := need_of h
  obtain ⟨c24, h⟩ := need_of h
  obtain ⟨c25, h⟩ := need_of h
  obtain ⟨c26, h⟩ := need_of h
  refine aw_planR (by decide +kernel) [[], [], [], [], [(0, 0, false)], [], [], [], [], [], [(0, 0, false)], [], [], [], [], [], [(0, 0, true)]] [[16], [], [], []] [[[(t19, .vec 3 (r18.Files.map api.File.av))], [(t19, .vec 3 ((upd r18.Files r21 { (ix r18.Files r21) with Data := sub (ix r18.Files r21).Data 0 (if ((ix r18.Files r21).Data.length : Int) < (if n_ < 0 then 0 else n_) then ((ix r18.Files r21).Data.length : Int) else (if n_ < 0 then 0 else n_)) }).map api.File.av))]], [[(t20, .vec 3 (r18.Faults.map api.Fault.av))]], [[(p17, .cells [.sl .full 3 (([] : List api.File).map api.File.av), .sl .full 3 (([] : List api.Fault).map api.Fault.av)])]], [[(p16, .cells [.vec t19, .vec t20])]]] [.eptr t19 (r21).toNat 0, .eptr t19 (r21).toNat 0, .eptr t19 (r21).toNat 0, .eptr t19 (r21).toNat 1, .str (ix r18.Files r21).Data, .i n_, .i (if n_ < 0 then 0 else n_), .eptr t19 (r21).toNat 0, .eptr t19 (r21).toNat 0, .eptr t19 (r21).toNat 1, .str (ix r18.Files r21).Data, .i ((ix r18.Files r21).Data.length : Int), .i (if ((ix r18.Files r21).Data.length : Int) < (if n_ < 0 then 0 else n_) then ((ix r18.Files r21).Data.length : Int) else (if n_ < 0 then 0 else n_)), .str (sub (ix r18.Files r21).Data 0 (if ((ix r18.Files r21).Data.length : Int) < (if n_ < 0 then 0 else n_) then ((ix r18.Files r21).Data.length : Int) else (if n_ < 0 then 0 else n_))), .eptr t19 (r21).toNat 0, .eptr t19 (r21).toNat 1, .un] (by decide +kernel) Z Z ?_ ?_
  ·exact ⟨ym Z Z Z, ym Z Z Z, yp Z (pu_nilCheck Z (tm Z) Z), yp Z (fa Z underlying48 Z sizeOf9 Z Z Z), stepg_plain Z (op_loadE1M (i := 0) (sz := 3) Z isAgg9 (tm Z) Z c23 (by decide) Z ⟨Z, Z⟩), ym Z Z Z, yp Z (pu_max2 Z (tm Z) (AEv.int _ _)), ym Z Z Z, yp Z (pu_nilCheck Z (tm Z) Z), yp Z (fa Z underlying48 Z sizeOf9 Z Z Z), stepg_plain Z (op_loadE1M (i := 0) (sz := 3) Z isAgg9 (tm Z) Z c24 (by decide) Z ⟨Z, Z⟩), yp Z (pu_strLen Z underlying9 (tm Z)), yp Z (pu_min2 Z (tm Z) (tm Z)), yp Z (pu_strSliceM Z underlying9 (tm Z) Z ⟨_, (tm Z)⟩ c25), yp Z (pu_nilCheck Z (tm Z) Z), yp Z (fa Z underlying48 Z sizeOf9 Z Z Z), stepg_plain Z (op_storeEM (i := 0) (sz := 3) (y' := { (ix r18.Files r21) with Data := sub (ix r18.Files r21).Data 0 (if ((ix r18.Files r21).Data.length : Int) < (if n_ < 0 then 0 else n_) then ((ix r18.Files r21).Data.length : Int) else (if n_ < 0 then 0 else n_)) }) Z sizeOf9 (tm Z) (v := .str (sub (ix r18.Files r21).Data 0 (if ((ix r18.Files r21).Data.length : Int) < (if n_ < 0 then 0 else n_) then ((ix r18.Files r21).Data.length : Int) else (if n_ < 0 then 0 else n_)))) (tm Z) Z c26 Z Z (by decide) Z ⟨Z, Z⟩), trivial⟩
  refine xr (xm Z Z Z (xm Z Z Z (xa (.eptr t19 (r21).toNat 0) Z (pu_nilCheck Z (tm Z) Z) ?_)))
  obtain ⟨c27, h⟩ := need_of h
  refine xc Z (op_loadENM (i := 0) (sz := 3) Z isAgg48 sizeOf48 (tm Z) Z c27 (by decide) Z ?_)
  obtain ⟨r28, r28e, h⟩ := bind_some h
  refine xc Z (op_call (vs := [.agg [.str (ix (upd r18.Files r21 { (ix r18.Files r21) with Data := sub (ix r18.Files r21).Data 0 (if ((ix r18.Files r21).Data.length : Int) < (if n_ < 0 then 0 else n_) then ((ix r18.Files r21).Data.length : Int) else (if n_ < 0 then 0 else n_)) }) r21).Name, .str (ix (upd r18.Files r21 { (ix r18.Files r21) with Data := sub (ix r18.Files r21).Data 0 (if ((ix r18.Files r21).Data.length : Int) < (if n_ < 0 then 0 else n_) then ((ix r18.Files r21).Data.length : Int) else (if n_ < 0 then 0 else n_)) }) r21).Data, .i (ix (upd r18.Files r21 { (ix r18.Files r21) with Data := sub (ix r18.Files r21).Data 0 (if ((ix r18.Files r21).Data.length : Int) < (if n_ < 0 then 0 else n_) then ((ix r18.Files r21).Data.length : Int) else (if n_ < 0 then 0 else n_)) }) r21).Synced]]) (H := []) Z call26 ⟨(tm Z), trivial⟩ (List.Perm.refl _) (disk.safe.ok r28e) ?_)
  rintro _ _ ⟨rfl, rfl⟩
  refine xa (.eptr t19 (r21).toNat 0) Z (pu_nilCheck Z (tm Z) Z) (xa (.eptr t19 (r21).toNat 2) Z (fa Z underlying48 Z sizeOf3 Z Z Z) ?_)
  obtain ⟨c29, h⟩ := need_of h
  refine ac0 Z Z (op_storeEM (i := 0) (sz := 3) (y' := ({ Name := (ix (upd r18.Files r21 { (ix r18.Files r21) with Data := sub (ix r18.Files r21).Data 0 (if ((ix r18.Files r21).Data.length : Int) < (if n_ < 0 then 0 else n_) then ((ix r18.Files r21).Data.length : Int) else (if n_ < 0 then 0 else n_)) }) r21).Name, Data := (ix (upd r18.Files r21 { (ix r18.Files r21) with Data := sub (ix r18.Files r21).Data 0 (if ((ix r18.Files r21).Data.length : Int) < (if n_ < 0 then 0 else n_) then ((ix r18.Files r21).Data.length : Int) else (if n_ < 0 then 0 else n_)) }) r21).Data, Synced := r28 } : api.File)) Z sizeOf3 (tm Z) (v := .i r28) (tm Z) Z c29 Z Z (by decide) Z (xe (xr (xc Z (op_loadN (i := 3) Z isAgg25 sizeOf25 (tm Z) Z (nb Z) Z (ac0 Z Z (op_store (i := 2) (cs' := [.vec t19, .vec t20]) Z sizeOf25 (tm Z) (v := .agg [.vec t19, .vec t20]) (tm Z) Z Z Z (nb Z) Z (xa (.i 0) Z (pu_assign Z (AEv.int _ _)) (xe (aw_ret ?_))))))))))
  obtain rfl := some_of h
  exact ⟨[.agg [.vec t19, .vec t20], .i 0], .tup [.agg [.vec t19, .vec t20], .i 0], [(t19, .vec 3 ((upd (upd r18.Files r21 { (ix r18.Files r21) with Data := sub (ix r18.Files r21).Data 0 (if ((ix r18.Files r21).Data.length : Int) < (if n_ < 0 then 0 else n_) then ((ix r18.Files r21).Data.length : Int) else (if n_ < 0 then 0 else n_)) }) r21 ({ Name := (ix (upd r18.Files r21 { (ix r18.Files r21) with Data := sub (ix r18.Files r21).Data 0 (if ((ix r18.Files r21).Data.length : Int) < (if n_ < 0 then 0 else n_) then ((ix r18.Files r21).Data.length : Int) else (if n_ < 0 then 0 else n_)) }) r21).Name, Data := (ix (upd r18.Files r21 { (ix r18.Files r21) with Data := sub (ix r18.Files r21).Data 0 (if ((ix r18.Files r21).Data.length : Int) < (if n_ < 0 then 0 else n_) then ((ix r18.Files r21).Data.length : Int) else (if n_ < 0 then 0 else n_)) }) r21).Data, Synced := r28 } : api.File)).map api.File.av)), (t20, .vec 3 (r18.Faults.map api.Fault.av))], ⟨(CellOk.agg 2 (tm Z) Z isAgg25 sizeOf25 (nb Z) Z), (tm Z), trivial⟩, (AV.Le.tup cr), Weak.mkL [0, 1] (by decide) ⟨⟨_, Z, Z⟩, ⟨_, Z, Z⟩, trivial⟩ trivial, ⟨t19, t20, Z, Z⟩⟩

theorem mewslaw16.faulty.ok {d : api.Disk} {o_ : mewslaw16.Op} {r : api.Disk} (h : mewslaw16.faulty d o_ = some r) : Go.Lift.Spec prog 24 [.agg [.sl .no 3 (d.Files.map api.File.av), .sl .no 3 (d.Faults.map api.Fault.av)], .agg (mewslaw16.Op.ct o_)] [] (fun v H => ∃ n0, v = .agg [.sl .no 3 (r.Files.map api.File.av), .sl (.own n0) 3 (r.Faults.map api.Fault.av)] ∧ H = [(n0, .spare)]) := by
 unfold mewslaw16.faulty at h
 refine Go.Lift.Spec.of_body (rs := [.cell 4 25]) func24 Z Z (nb Z) Z (xr (xc Z (op_box (cs := [.sl .no 3 (d.Files.map api.File.av), .sl .no 3 (d.Faults.map api.Fault.av)]) (v := .agg [.sl .no 3 (d.Files.map api.File.av), .sl .no 3 (d.Faults.map api.Fault.av)]) Z (tm Z) Z Z ?_)))
 intro p8
 refine xc Z (op_box (cs := (mewslaw16.Op.ct o_)) (v := .agg (mewslaw16.Op.ct o_)) Z (tm Z) Z Z ?_)
 intro p9
 refine xc Z (op_alloc (cs := [.sl .full 3 (([] : List api.File).map api.File.av), .sl .full 3 (([] : List api.Fault).map api.Fault.av)]) (v := .agg [.sl .full 3 (([] : List api.File).map api.File.av), .sl .full 3 (([] : List api.Fault).map api.Fault.av)]) Z zeroValue25 Z Z Z ?_)
 intro p10
 refine xe (xr (xc Z (op_buildSlice (xs := (([] : List api.Fault) : List api.Fault).map api.Fault.av) (aparts := []) Z underlying23 sizeOf70 zeroValue70 (by decide) (by decide) trivial Z Z Z (xa (.ptr p8 1) Z (fa Z underlying25 Z sizeOf23 Z Z Z) (xc Z (op_load1 (i := 2) Z isAgg23 (tm Z) Z Z ?_))))))
 obtain ⟨c11, h⟩ := need_of h
 refine xc Z (op_appendFM Z underlying23 underlying23 (.inl Z) typeInfo70 Z Z Z (by decide) (tm Z) (given_sl (tm Z)) c11 ?_)
 intro t12
 refine xm Z Z Z (xe (aw_seq ?_))
 obtain ⟨c13, h⟩ := need_of h
 refine aw_reserve fun p14 => (aw_planR (by decide +kernel) [[], [(4, 0, false)], [], [], [(3, 0, false)], [], [(3, 0, false)], [], [], [(3, 0, false)], [], [], [(1, 0, true), (0, 0, true)], [], [(2, 0, true)]] [[12], [12], [14], [], []] [[[(p14, .resv)], [(p14, .spare)]], [[(t12, .spare)], []], [[(p10, .cells [.sl .full 3 (([] : List api.File).map api.File.av), .sl .full 3 (([] : List api.Fault).map api.Fault.av)])], [(p10, .cells [.sl .no 3 (d.Files.map api.File.av), .sl (.own p14) 3 (((([] : List api.Fault) ++ d.Faults) ++ [({ Name := o_.Name, Kind := IntKind.wrap .i64 (o_.Kind - 5), Short := o_.N } : api.Fault)]).map api.Fault.av)])]], [[(p9, .cells (mewslaw16.Op.ct o_))]], [[(p8, .cells [.sl .no 3 (d.Files.map api.File.av), .sl .no 3 (d.Faults.map api.Fault.av)])]]] [.ptr p8 0, .sl .no 3 (d.Files.map api.File.av), .sl (.own t12) 3 ((([] : List api.Fault) ++ d.Faults).map api.Fault.av), .ptr p9 1, .str o_.Name, .ptr p9 0, .i o_.Kind, .i (IntKind.wrap .i64 (o_.Kind - 5)), .ptr p9 3, .i o_.N, .agg [.str o_.Name, .i (IntKind.wrap .i64 (o_.Kind - 5)), .i o_.N], .sl .full 3 ([({ Name := o_.Name, Kind := IntKind.wrap .i64 (o_.Kind - 5), Short := o_.N } : api.Fault)].map api.Fault.av), .sl (.own p14) 3 (((([] : List api.Fault) ++ d.Faults) ++ [({ Name := o_.Name, Kind := IntKind.wrap .i64 (o_.Kind - 5), Short := o_.N } : api.Fault)]).map api.Fault.av), .agg [.sl .no 3 (d.Files.map api.File.av), .sl (.own p14) 3 (((([] : List api.Fault) ++ d.Faults) ++ [({ Name := o_.Name, Kind := IntKind.wrap .i64 (o_.Kind - 5), Short := o_.N } : api.Fault)]).map api.Fault.av)], .un] (by decide +kernel) Z Z ?_ ?_)
 ·exact ⟨yp Z (fa Z underlying25 Z sizeOf22 Z Z Z), stepg_plain Z (op_load1 (i := 0) Z isAgg22 (tm Z) Z Z ⟨Z, Z⟩), ym Z Z Z, yp Z (fa Z underlying27 Z sizeOf9 Z Z Z), stepg_plain Z (op_load1 (i := 0) Z isAgg9 (tm Z) Z Z ⟨Z, Z⟩), yp Z (fa Z underlying27 Z sizeOf3 Z Z Z), stepg_plain Z (op_load1 (i := 0) Z isAgg3 (tm Z) Z Z ⟨Z, Z⟩), yp Z (pu_int (v := .i (IntKind.wrap .i64 (o_.Kind - 5))) Z Z (tm Z) (AEv.int _ _) Z), yp Z (fa Z underlying27 Z sizeOf3 Z Z Z), stepg_plain Z (op_load1 (i := 0) Z isAgg3 (tm Z) Z Z ⟨Z, Z⟩), yp Z (pu_build (zs := [.str ([] : List UInt8), .i 0, .i 0]) (szs := [1, 1, 1]) (aparts := [(0, .str o_.Name), (1, .i (IntKind.wrap .i64 (o_.Kind - 5))), (2, .i o_.N)]) (cs := [.str o_.Name, .i (IntKind.wrap .i64 (o_.Kind - 5)), .i o_.N]) Z underlying70 zeroValue70 Z ⟨sizeOf9, sizeOf3, sizeOf3, trivial⟩ ⟨Z, (tm Z), ⟨Z, (tm Z), ⟨Z, (tm Z), trivial⟩⟩⟩ Z), stepg_plain Z (op_buildSlice (xs := ([({ Name := o_.Name, Kind := IntKind.wrap .i64 (o_.Kind - 5), Short := o_.N } : api.Fault)] : List api.Fault).map api.Fault.av) (aparts := [(0, .agg [.str o_.Name, .i (IntKind.wrap .i64 (o_.Kind - 5)), .i o_.N])]) Z underlying23 sizeOf70 zeroValue70 (by decide) (by decide) ⟨Z, (tm Z), trivial⟩ Z Z Z ⟨Z, Z⟩), stepg_plain Z (aop_settleS (op_appendOM (q := 0) Z underlying23 underlying23 (.inl Z) typeInfo70 Z Z Z (by decide) (tm Z) Z (given_sl (tm Z)) c13 fun t => ⟨t, Z, Z⟩) ⟨Z, Z⟩), yp Z (pu_build (zs := [.sl .full 3 (([] : List api.File).map api.File.av), .sl .full 3 (([] : List api.Fault).map api.Fault.av)]) (szs := [1, 1]) (aparts := [(0, .sl .no 3 (d.Files.map api.File.av)), (1, .sl (.own p14) 3 (((([] : List api.Fault) ++ d.Faults) ++ [({ Name := o_.Name, Kind := IntKind.wrap .i64 (o_.Kind - 5), Short := o_.N } : api.Fault)]).map api.Fault.av))]) (cs := [.sl .no 3 (d.Files.map api.File.av), .sl (.own p14) 3 (((([] : List api.Fault) ++ d.Faults) ++ [({ Name := o_.Name, Kind := IntKind.wrap .i64 (o_.Kind - 5), Short := o_.N } : api.Fault)]).map api.Fault.av)]) Z underlying25 zeroValue25 Z ⟨sizeOf22, sizeOf23, trivial⟩ ⟨Z, (tm Z), ⟨Z, (tm Z), trivial⟩⟩ Z), stepg_plain Z (op_store (i := 0) (cs' := [.sl .no 3 (d.Files.map api.File.av), .sl (.own p14) 3 (((([] : List api.Fault) ++ d.Faults) ++ [({ Name := o_.Name, Kind := IntKind.wrap .i64 (o_.Kind - 5), Short := o_.N } : api.Fault)]).map api.Fault.av)]) Z sizeOf25 (tm Z) (v := .agg [.sl .no 3 (d.Files.map api.File.av), .sl (.own p14) 3 (((([] : List api.Fault) ++ d.Faults) ++ [({ Name := o_.Name, Kind := IntKind.wrap .i64 (o_.Kind - 5), Short := o_.N } : api.Fault)]).map api.Fault.av)]) (tm Z) Z Z Z (nb Z) Z ⟨Z, Z⟩), trivial⟩
 refine aw_ret ?_
 obtain rfl := some_of h
 exact ⟨[.agg [.sl .no 3 (d.Files.map api.File.av), .sl (.own p14) 3 (((([] : List api.Fault) ++ d.Faults) ++ [({ Name := o_.Name, Kind := IntKind.wrap .i64 (o_.Kind - 5), Short := o_.N } : api.Fault)]).map api.Fault.av)]], _, [(p14, .spare)], ⟨(CellOk.agg 1 (tm Z) Z isAgg25 sizeOf25 (nb Z) Z), trivial⟩, vr, Weak.mkL [0] (by decide) ⟨⟨_, Z, Z⟩, trivial⟩ trivial, ⟨p14, Z, Z⟩⟩

theorem mewslaw16.does.ok {d : api.Disk} {o_ : mewslaw16.Op} {r : api.Disk × Int × Int} (h : mewslaw16.does d o_ = some r) : Go.Lift.Spec prog 8 [.agg [.sl .no 3 (d.Files.map api.File.av), .sl .no 3 (d.Faults.map api.Fault.av)], .agg (mewslaw16.Op.ct o_)] [] (fun v H => v = .tup [.agg [.sl .no 3 (r.1.Files.map api.File.av), .sl .no 3 (r.1.Faults.map api.Fault.av)], .i r.2.1, .i r.2.2] ∧ H = []) := by
 unfold mewslaw16.does at h
 refine Go.Lift.Spec.of_body (rs := [.cell 4 25, .tmp 5, .tmp 6]) func8 Z Z (nb Z) Z (xr (xc Z (op_box (cs := [.sl .no 3 (d.Files.map api.File.av), .sl .no 3 (d.Faults.map api.Fault.av)]) (v := .agg [.sl .no 3 (d.Files.map api.File.av), .sl .no 3 (d.Faults.map api.Fault.av)]) Z (tm Z) Z Z ?_)))
 intro p57
 refine xc Z (op_box (cs := (mewslaw16.Op.ct o_)) (v := .agg (mewslaw16.Op.ct o_)) Z (tm Z) Z Z ?_)
 intro p58
 refine xc Z (op_alloc (cs := [.sl .full 3 (([] : List api.File).map api.File.av), .sl .full 3 (([] : List api.Fault).map api.Fault.av)]) (v := .agg [.sl .full 3 (([] : List api.File).map api.File.av), .sl .full 3 (([] : List api.Fault).map api.Fault.av)]) Z zeroValue25 Z Z Z ?_)
 intro p59
 refine xa (.i 0) Z (pu_assign Z (AEv.int _ _)) (xa (.i 0) Z (pu_assign Z (AEv.int _ _)) (xe (xr (xa (.i 0) Z (pu_assign Z (AEv.int _ _)) (xa (.i 0) Z (pu_assign Z (AEv.int _ _)) (xe ?_))))))
 obtain ⟨s85, s85e, h86⟩ := bind_some h
 refine aw_meet (ν := Unit) (fun v => [(2, .ptr p57 0), (4, .ptr p59 0), (7, .i s85.1), (8, .i s85.2.1)]) (fun v => [(p57, .cells [.sl .no 3 (s85.2.2.1.map api.File.av), .sl .no 3 (s85.2.2.2.map api.Fault.av)]), (p59, .cells [.sl .full 3 (([] : List api.File).map api.File.av), .sl .full 3 (([] : List api.Fault).map api.Fault.av)])]) ?_ ?_
 ·have h := s85e
  refine xr (xa (.ptr p58 0) Z (fa Z underlying27 Z sizeOf3 Z Z Z) (xc Z (op_load1 (i := 1) Z isAgg3 (tm Z) Z Z (xe (aw_block (xr (xa (.bool (decide (o_.Kind = 0))) Z (pu_int (v := .bool (decide (o_.Kind = 0))) Z Z (tm Z) (AEv.int _ _) Z) (xm Z Z Z ?_))))))))
  refine xe (aw_cond (b := decide (o_.Kind = 0)) (tm Z) (fun hb112 => ?_) (fun hb112 => ?_))
  ·replace h := ite_t (dec_t hb112) h
   refine aw_region (xc Z (op_loadN (i := 2) Z isAgg25 sizeOf25 (tm Z) Z (nb Z) Z (xa (.ptr p58 1) Z (fa Z underlying27 Z sizeOf9 Z Z Z) (xc Z (op_load1 (i := 1) Z isAgg9 (tm Z) Z Z (xa (.ptr p58 2) Z (fa Z underlying27 Z sizeOf9 Z Z Z) (xc Z (op_load1 (i := 1) Z isAgg9 (tm Z) Z Z ?_))))))))
   obtain ⟨r88, r88e, h⟩ := bind_some h
   refine xc Z (op_call (vs := [.agg [.sl .no 3 (d.Files.map api.File.av), .sl .no 3 (d.Faults.map api.Fault.av)], .str o_.Name, .str o_.S]) (H := []) Z call19 ⟨(tm Z), (tm Z), (tm Z), trivial⟩ (List.Perm.refl _) (disk.Write.ok r88e) ?_)
   rintro _ _ ⟨t89, t90, rfl, rfl⟩
   refine xm Z Z Z (xa (.agg [.vec t89, .vec t90]) Z (pu_extract Z (tm Z) (nb Z) Z) (xa (.i r88.2.1) Z (pu_extract Z (tm Z) (nb Z) Z) (xa (.i r88.2.2) Z (pu_extract Z (tm Z) (nb Z) Z) (aops_pub 0 [(23, .agg [.sl .no 3 (r88.1.Files.map api.File.av), .vec t90])] Z ⟨⟨_, tm Z, (PubTo.agg ⟨PubTo.vec, (PubTo.refl _), trivial⟩)⟩, trivial⟩ (aops_pub 0 [(23, .agg [.sl .no 3 (r88.1.Files.map api.File.av), .sl .no 3 (r88.1.Faults.map api.Fault.av)])] Z ⟨⟨_, tm Z, (PubTo.agg ⟨(PubTo.refl _), PubTo.vec, trivial⟩)⟩, trivial⟩ (ac0 Z Z (op_store (i := 2) (cs' := [.sl .no 3 (r88.1.Files.map api.File.av), .sl .no 3 (r88.1.Faults.map api.Fault.av)]) Z sizeOf25 (tm Z) (v := .agg [.sl .no 3 (r88.1.Files.map api.File.av), .sl .no 3 (r88.1.Faults.map api.Fault.av)]) (tm Z) Z Z Z (nb Z) Z (xm Z Z Z (xm Z Z Z (xe ?_))))))))))
   obtain rfl := some_of h
   exact ⟨(), Weak.mkL [2, 0] (by decide) ⟨⟨_, Z, cr, Z⟩, ⟨_, Z, cr, Z⟩, trivial⟩ ⟨tm Z, tm Z, tm Z, tm Z, trivial⟩⟩
  ·replace h := ite_f (dec_f hb112) h
   refine xr (xa (.bool (decide (o_.Kind = 1))) Z (pu_int (v := .bool (decide (o_.Kind = 1))) Z Z (tm Z) (AEv.int _ _) Z) (xm Z Z Z (xe (aw_cond (b := decide (o_.Kind = 1)) (tm Z) (fun hb111 => ?_) (fun hb111 => ?_)))))
   ·replace h := ite_t (dec_t hb111) h
    refine aw_region (xc Z (op_loadN (i := 2) Z isAgg25 sizeOf25 (tm Z) Z (nb Z) Z (xa (.ptr p58 1) Z (fa Z underlying27 Z sizeOf9 Z Z Z) (xc Z (op_load1 (i := 1) Z isAgg9 (tm Z) Z Z ?_)))))
    obtain ⟨r91, r91e, h⟩ := bind_some h
    refine xc Z (op_call (vs := [.agg [.sl .no 3 (d.Files.map api.File.av), .sl .no 3 (d.Faults.map api.Fault.av)], .str o_.Name]) (H := []) Z call20 ⟨(tm Z), (tm Z), trivial⟩ (List.Perm.refl _) (disk.Sync.ok r91e) ?_)
    rintro _ _ ⟨t92, t93, rfl, rfl⟩
    refine xm Z Z Z (xa (.agg [.vec t92, .vec t93]) Z (pu_extract Z (tm Z) (nb Z) Z) (xa (.i r91.2) Z (pu_extract Z (tm Z) (nb Z) Z) (aops_pub 0 [(33, .agg [.sl .no 3 (r91.1.Files.map api.File.av), .vec t93])] Z ⟨⟨_, tm Z, (PubTo.agg ⟨PubTo.vec, (PubTo.refl _), trivial⟩)⟩, trivial⟩ (aops_pub 0 [(33, .agg [.sl .no 3 (r91.1.Files.map api.File.av), .sl .no 3 (r91.1.Faults.map api.Fault.av)])] Z ⟨⟨_, tm Z, (PubTo.agg ⟨(PubTo.refl _), PubTo.vec, trivial⟩)⟩, trivial⟩ (ac0 Z Z (op_store (i := 2) (cs' := [.sl .no 3 (r91.1.Files.map api.File.av), .sl .no 3 (r91.1.Faults.map api.Fault.av)]) Z sizeOf25 (tm Z) (v := .agg [.sl .no 3 (r91.1.Files.map api.File.av), .sl .no 3 (r91.1.Faults.map api.Fault.av)]) (tm Z) Z Z Z (nb Z) Z (xm Z Z Z (xe ?_))))))))
    obtain rfl := some_of h
    exact ⟨(), Weak.mkL [2, 0] (by decide) ⟨⟨_, Z, cr, Z⟩, ⟨_, Z, cr, Z⟩, trivial⟩ ⟨tm Z, tm Z, tm Z, tm Z, trivial⟩⟩
   ·replace h := ite_f (dec_f hb111) h
    refine xr (xa (.bool (decide (o_.Kind = 2))) Z (pu_int (v := .bool (decide (o_.Kind = 2))) Z Z (tm Z) (AEv.int _ _) Z) (xm Z Z Z (xe (aw_cond (b := decide (o_.Kind = 2)) (tm Z) (fun hb110 => ?_) (fun hb110 => ?_)))))
    ·replace h := ite_t (dec_t hb110) h
     refine aw_region (xc Z (op_loadN (i := 2) Z isAgg25 sizeOf25 (tm Z) Z (nb Z) Z (xa (.ptr p58 1) Z (fa Z underlying27 Z sizeOf9 Z Z Z) (xc Z (op_load1 (i := 1) Z isAgg9 (tm Z) Z Z (xa (.ptr p58 2) Z (fa Z underlying27 Z sizeOf9 Z Z Z) (xc Z (op_load1 (i := 1) Z isAgg9 (tm Z) Z Z ?_))))))))
     obtain ⟨r94, r94e, h⟩ := bind_some h
     refine xc Z (op_call (vs := [.agg [.sl .no 3 (d.Files.map api.File.av), .sl .no 3 (d.Faults.map api.Fault.av)], .str o_.Name, .str o_.S]) (H := []) Z call21 ⟨(tm Z), (tm Z), (tm Z), trivial⟩ (List.Perm.refl _) (disk.Rename.ok r94e) ?_)
     rintro _ _ ⟨t95, t96, rfl, rfl⟩
     refine xm Z Z Z (xa (.agg [.vec t95, .vec t96]) Z (pu_extract Z (tm Z) (nb Z) Z) (xa (.i r94.2) Z (pu_extract Z (tm Z) (nb Z) Z) (aops_pub 0 [(44, .agg [.sl .no 3 (r94.1.Files.map api.File.av), .vec t96])] Z ⟨⟨_, tm Z, (PubTo.agg ⟨PubTo.vec, (PubTo.refl _), trivial⟩)⟩, trivial⟩ (aops_pub 0 [(44, .agg [.sl .no 3 (r94.1.Files.map api.File.av), .sl .no 3 (r94.1.Faults.map api.Fault.av)])] Z ⟨⟨_, tm Z, (PubTo.agg ⟨(PubTo.refl _), PubTo.vec, trivial⟩)⟩, trivial⟩ (ac0 Z Z (op_store (i := 2) (cs' := [.sl .no 3 (r94.1.Files.map api.File.av), .sl .no 3 (r94.1.Faults.map api.Fault.av)]) Z sizeOf25 (tm Z) (v := .agg [.sl .no 3 (r94.1.Files.map api.File.av), .sl .no 3 (r94.1.Faults.map api.Fault.av)]) (tm Z) Z Z Z (nb Z) Z (xm Z Z Z (xe ?_))))))))
     obtain rfl := some_of h
     exact ⟨(), Weak.mkL [2, 0] (by decide) ⟨⟨_, Z, cr, Z⟩, ⟨_, Z, cr, Z⟩, trivial⟩ ⟨tm Z, tm Z, tm Z, tm Z, trivial⟩⟩
    ·replace h := ite_f (dec_f hb110) h
     refine xr (xa (.bool (decide (o_.Kind = 3))) Z (pu_int (v := .bool (decide (o_.Kind = 3))) Z Z (tm Z) (AEv.int _ _) Z) (xm Z Z Z (xe (aw_cond (b := decide (o_.Kind = 3)) (tm Z) (fun hb109 => ?_) (fun hb109 => ?_)))))
     ·replace h := ite_t (dec_t hb109) h
      refine aw_region (xc Z (op_loadN (i := 2) Z isAgg25 sizeOf25 (tm Z) Z (nb Z) Z (xa (.ptr p58 1) Z (fa Z underlying27 Z sizeOf9 Z Z Z) (xc Z (op_load1 (i := 1) Z isAgg9 (tm Z) Z Z ?_)))))
      obtain ⟨r97, r97e, h⟩ := bind_some h
      refine xc Z (op_call (vs := [.agg [.sl .no 3 (d.Files.map api.File.av), .sl .no 3 (d.Faults.map api.Fault.av)], .str o_.Name]) (H := []) Z call22 ⟨(tm Z), (tm Z), trivial⟩ (List.Perm.refl _) (disk.Remove.ok r97e) ?_)
      rintro _ _ ⟨t98, t99, rfl, rfl⟩
      refine aops_pub 0 [(51, .agg [.sl .no 3 (r97.Files.map api.File.av), .vec t99])] Z ⟨⟨_, tm Z, (PubTo.agg ⟨PubTo.vec, (PubTo.refl _), trivial⟩)⟩, trivial⟩ (aops_pub 0 [(51, .agg [.sl .no 3 (r97.Files.map api.File.av), .sl .no 3 (r97.Faults.map api.Fault.av)])] Z ⟨⟨_, tm Z, (PubTo.agg ⟨(PubTo.refl _), PubTo.vec, trivial⟩)⟩, trivial⟩ (ac0 Z Z (op_store (i := 2) (cs' := [.sl .no 3 (r97.Files.map api.File.av), .sl .no 3 (r97.Faults.map api.Fault.av)]) Z sizeOf25 (tm Z) (v := .agg [.sl .no 3 (r97.Files.map api.File.av), .sl .no 3 (r97.Faults.map api.Fault.av)]) (tm Z) Z Z Z (nb Z) Z (xe ?_))))
      obtain rfl := some_of h
      exact ⟨(), Weak.mkL [2, 0] (by decide) ⟨⟨_, Z, cr, Z⟩, ⟨_, Z, cr, Z⟩, trivial⟩ ⟨tm Z, tm Z, tm Z, tm Z, trivial⟩⟩
     ·replace h := ite_f (dec_f hb109) h
      refine xr (xa (.bool (decide (o_.Kind = 4))) Z (pu_int (v := .bool (decide (o_.Kind = 4))) Z Z (tm Z) (AEv.int _ _) Z) (xm Z Z Z (xe (aw_cond (b := decide (o_.Kind = 4)) (tm Z) (fun hb108 => ?_) (fun hb108 => ?_)))))
      ·replace h := ite_t (dec_t hb108) h
       refine aw_region (xc Z (op_loadN (i := 2) Z isAgg25 sizeOf25 (tm Z) Z (nb Z) Z (xa (.ptr p58 1) Z (fa Z underlying27 Z sizeOf9 Z Z Z) (xc Z (op_load1 (i := 1) Z isAgg9 (tm Z) Z Z (xa (.ptr p58 3) Z (fa Z underlying27 Z sizeOf3 Z Z Z) (xc Z (op_load1 (i := 1) Z isAgg3 (tm Z) Z Z ?_))))))))
       obtain ⟨r100, r100e, h⟩ := bind_some h
       refine xc Z (op_call (vs := [.agg [.sl .no 3 (d.Files.map api.File.av), .sl .no 3 (d.Faults.map api.Fault.av)], .str o_.Name, .i o_.N]) (H := []) Z call23 ⟨(tm Z), (tm Z), (tm Z), trivial⟩ (List.Perm.refl _) (disk.Cut.ok r100e) ?_)
       rintro _ _ ⟨t101, t102, rfl, rfl⟩
       refine xm Z Z Z (xa (.agg [.vec t101, .vec t102]) Z (pu_extract Z (tm Z) (nb Z) Z) (xa (.i r100.2) Z (pu_extract Z (tm Z) (nb Z) Z) (aops_pub 0 [(61, .agg [.sl .no 3 (r100.1.Files.map api.File.av), .vec t102])] Z ⟨⟨_, tm Z, (PubTo.agg ⟨PubTo.vec, (PubTo.refl _), trivial⟩)⟩, trivial⟩ (aops_pub 0 [(61, .agg [.sl .no 3 (r100.1.Files.map api.File.av), .sl .no 3 (r100.1.Faults.map api.Fault.av)])] Z ⟨⟨_, tm Z, (PubTo.agg ⟨(PubTo.refl _), PubTo.vec, trivial⟩)⟩, trivial⟩ (ac0 Z Z (op_store (i := 2) (cs' := [.sl .no 3 (r100.1.Files.map api.File.av), .sl .no 3 (r100.1.Faults.map api.Fault.av)]) Z sizeOf25 (tm Z) (v := .agg [.sl .no 3 (r100.1.Files.map api.File.av), .sl .no 3 (r100.1.Faults.map api.Fault.av)]) (tm Z) Z Z Z (nb Z) Z (xm Z Z Z (xe ?_))))))))
       obtain rfl := some_of h
       exact ⟨(), Weak.mkL [2, 0] (by decide) ⟨⟨_, Z, cr, Z⟩, ⟨_, Z, cr, Z⟩, trivial⟩ ⟨tm Z, tm Z, tm Z, tm Z, trivial⟩⟩
      ·replace h := ite_f (dec_f hb108) h
       refine xr (xa (.bool (decide (o_.Kind = 5))) Z (pu_int (v := .bool (decide (o_.Kind = 5))) Z Z (tm Z) (AEv.int _ _) Z) (xm Z Z Z (xe (aw_cond (b := decide (o_.Kind = 5)) (tm Z) (fun hb107 => ?_) (fun hb107 => ?_)))))
       ·replace h := ite_t (dec_t hb107) h
        refine aw_region (xc Z (op_loadN (i := 2) Z isAgg25 sizeOf25 (tm Z) Z (nb Z) Z (xa (.ptr p58 1) Z (fa Z underlying27 Z sizeOf9 Z Z Z) (xc Z (op_load1 (i := 1) Z isAgg9 (tm Z) Z Z (xa (.ptr p58 3) Z (fa Z underlying27 Z sizeOf3 Z Z Z) (xc Z (op_load1 (i := 1) Z isAgg3 (tm Z) Z Z (xa (.agg [.str o_.Name, .i o_.N]) Z (pu_build (zs := [.str ([] : List UInt8), .i 0]) (szs := [1, 1]) (aparts := [(0, .str o_.Name), (1, .i o_.N)]) (cs := [.str o_.Name, .i o_.N]) Z underlying56 zeroValue56 Z ⟨sizeOf9, sizeOf3, trivial⟩ ⟨Z, (tm Z), ⟨Z, (tm Z), trivial⟩⟩ Z) (xa (.ptr p58 1) Z (fa Z underlying27 Z sizeOf9 Z Z Z) (xc Z (op_load1 (i := 1) Z isAgg9 (tm Z) Z Z (xa (.agg [.str o_.Name, .i 1]) Z (pu_build (zs := [.str ([] : List UInt8), .i 0]) (szs := [1, 1]) (aparts := [(0, .str o_.Name), (1, .i 1)]) (cs := [.str o_.Name, .i 1]) Z underlying56 zeroValue56 Z ⟨sizeOf9, sizeOf3, trivial⟩ ⟨Z, (tm Z), ⟨Z, (AEv.int _ _), trivial⟩⟩ Z) ?_)))))))))))))
        refine xc Z (op_buildSlice (xs := ([({ Name := o_.Name, Bytes := o_.N } : api.Keep), ({ Name := o_.Name, Bytes := 1 } : api.Keep)] : List api.Keep).map api.Keep.av) (aparts := [(0, .agg [.str o_.Name, .i o_.N]), (1, .agg [.str o_.Name, .i 1])]) Z underlying38 sizeOf56 zeroValue56 (by decide) (by decide) ⟨Z, (tm Z), ⟨Z, (tm Z), trivial⟩⟩ Z Z Z ?_)
        obtain ⟨r103, r103e, h⟩ := bind_some h
        refine xc Z (op_call (vs := [.agg [.sl .no 3 (d.Files.map api.File.av), .sl .no 3 (d.Faults.map api.Fault.av)], .sl .no 2 ([({ Name := o_.Name, Bytes := o_.N } : api.Keep), ({ Name := o_.Name, Bytes := 1 } : api.Keep)].map api.Keep.av)]) (H := []) Z call11 ⟨(tm Z), (AEv.le (tm Z) (AV.Le.forget _ _ _)), trivial⟩ (List.Perm.refl _) (disk.Crash.ok r103e) ?_)
        rintro _ _ ⟨t104, rfl, rfl⟩
        refine ac0 Z Z (op_store (i := 3) (cs' := [.sl (.own t104) 3 (r103.Files.map api.File.av), .sl .full 3 (r103.Faults.map api.Fault.av)]) Z sizeOf25 (tm Z) (v := .agg [.sl (.own t104) 3 (r103.Files.map api.File.av), .sl .full 3 (r103.Faults.map api.Fault.av)]) (tm Z) Z Z Z (nb Z) Z (xe ?_))
        obtain rfl := some_of h
        exact ⟨(), Weak.mkL [3, 1] (by decide) ⟨⟨_, Z, ⟨(AV.Le.forget _ _ _), (AV.Le.forget _ _ _), trivial⟩, Z⟩, ⟨_, Z, cr, Z⟩, trivial⟩ ⟨tm Z, tm Z, tm Z, tm Z, trivial⟩⟩
       ·replace h := ite_f (dec_f hb107) h
        refine aw_region (xc Z (op_loadN (i := 2) Z isAgg25 sizeOf25 (tm Z) Z (nb Z) Z (xc Z (op_loadN (i := 1) Z isAgg27 sizeOf27 (tm Z) Z (nb Z) Z ?_))))
        obtain ⟨r105, r105e, h⟩ := bind_some h
        refine xc Z (op_call (vs := [.agg [.sl .no 3 (d.Files.map api.File.av), .sl .no 3 (d.Faults.map api.Fault.av)], .agg (mewslaw16.Op.ct o_)]) (H := []) Z call24 ⟨(tm Z), (tm Z), trivial⟩ (List.Perm.refl _) (mewslaw16.faulty.ok r105e) ?_)
        rintro _ _ ⟨t106, rfl, rfl⟩
        refine ac0 Z Z (op_store (i := 3) (cs' := [.sl .no 3 (r105.Files.map api.File.av), .sl (.own t106) 3 (r105.Faults.map api.Fault.av)]) Z sizeOf25 (tm Z) (v := .agg [.sl .no 3 (r105.Files.map api.File.av), .sl (.own t106) 3 (r105.Faults.map api.Fault.av)]) (tm Z) Z Z Z (nb Z) Z (xe ?_))
        obtain rfl := some_of h
        exact ⟨(), Weak.mkL [3, 1] (by decide) ⟨⟨_, Z, ⟨vr, (AV.Le.forget _ _ _), trivial⟩, Z⟩, ⟨_, Z, cr, Z⟩, trivial⟩ ⟨tm Z, tm Z, tm Z, tm Z, trivial⟩⟩
 ·intro _
  have h := h86
  refine xr (xc Z (op_loadN (i := 0) Z isAgg25 sizeOf25 (tm Z) Z (nb Z) Z (xm Z Z Z (xm Z Z Z (ac0 Z Z (op_store (i := 1) (cs' := [.sl .no 3 (s85.2.2.1.map api.File.av), .sl .no 3 (s85.2.2.2.map api.Fault.av)]) Z sizeOf25 (tm Z) (v := .agg [.sl .no 3 (s85.2.2.1.map api.File.av), .sl .no 3 (s85.2.2.2.map api.Fault.av)]) (tm Z) Z Z Z (nb Z) Z (xm Z Z Z (xm Z Z Z (xe (aw_ret ?_))))))))))
  obtain rfl := some_of h
  exact ⟨[.agg [.sl .no 3 (s85.2.2.1.map api.File.av), .sl .no 3 (s85.2.2.2.map api.Fault.av)], .i s85.1, .i s85.2.1], .tup [.agg [.sl .no 3 (s85.2.2.1.map api.File.av), .sl .no 3 (s85.2.2.2.map api.Fault.av)], .i s85.1, .i s85.2.1], [], ⟨(CellOk.agg 1 (tm Z) Z isAgg25 sizeOf25 (nb Z) Z), (tm Z), (tm Z), trivial⟩, (AV.Le.tup cr), Weak.mkL [] (by decide) trivial trivial, ⟨Z, Z⟩⟩

theorem slices.Sort_string.ok {x : List (List UInt8)} {r : List (List UInt8)} (h : slices.Sort_string x = some r) (o0 : Nat) : Go.Lift.Spec prog 29 [.vec o0] [(o0, .vec 1 (x.map AV.str))] (fun v H => v = .tup [] ∧ H = [(o0, .vec 1 (r.map AV.str))]) := by
 unfold slices.Sort_string at h
 obtain ⟨c, h⟩ := need_of h
 obtain rfl := some_of h
 exact spec_sortS (fun blk off cap ss w => Go.Proofs.Try.slices_Sort_string blk off cap ss w) (fun p cap w => Go.Proofs.Try.slices_Sort_string_none p cap w) c o0

theorem slices.Compact_string.ok {x : List (List UInt8)} {r : List (List UInt8)} (h : slices.Compact_string x = some r) (o0 : Nat) : Go.Lift.Spec prog 30 [.vec o0] [(o0, .vec 1 (x.map AV.str))] (fun v H => ∃ n0, v = .vec n0 ∧ H = [(n0, .vec 1 (r.map AV.str))]) := by
 unfold slices.Compact_string at h
 obtain ⟨c, h⟩ := need_of h
 obtain rfl := some_of h
 exact spec_compactS (fun blk off cap zs w => Go.Proofs.Try.slices_Compact_string blk off cap zs w) (fun p cap w => Go.Proofs.Try.slices_Compact_string_empty p cap w) c o0

theorem disk.Names.ok {d : api.Disk} {r : List (List UInt8)} (h : disk.Names d = some r) : Go.Lift.Spec prog 13 [.agg [.sl .no 3 (d.Files.map api.File.av), .sl .no 3 (d.Faults.map api.Fault.av)]] [] (fun v H => v = .sl .no 1 (r.map AV.str) ∧ H = []) := by
 unfold disk.Names at h
 refine Go.Lift.Spec.of_body (rs := [.tmp 2]) func13 Z Z (nb Z) Z (xr (xc Z (op_box (cs := [.sl .no 3 (d.Files.map api.File.av), .sl .no 3 (d.Faults.map api.Fault.av)]) (v := .agg [.sl .no 3 (d.Files.map api.File.av), .sl .no 3 (d.Faults.map api.Fault.av)]) Z (tm Z) Z Z ?_)))
 intro p57
 refine xa (.sl .full 1 (([] : List (List UInt8)).map AV.str)) Z (pu_assign Z (AEv.nil 1 (by decide))) (xe (xr (xa (.sl .full 1 (([] : List (List UInt8)).map AV.str)) Z (pu_assign Z (AEv.nil 1 (by decide))) (xe ?_))))
 obtain ⟨s82, s82e, h84⟩ := bind_some h
 refine aw_meet (ν := Nat) (fun v => [(3, .vec v)]) (fun v => [(v, .vec 1 (s82.map AV.str))]) ?_ ?_
 ·have h := s82e
  refine xr (xa (.ptr p57 0) Z (fa Z underlying25 Z sizeOf22 Z Z Z) (xc Z (op_load1 (i := 0) Z isAgg22 (tm Z) Z Z (xa (.i (d.Files.length : Int)) Z (pu_lenM Z underlying22 (tm Z)) (xa (.i 0) Z (pu_move Z (AEv.int _ _)) (xe (aw_block (aw_vecNil 3 (tm Z) fun t109 => (aw_while (σ := disk.Names.S0) (ν := Nat) (disk.Names.body0 d) (fun s99 v => [(3, .vec v), (7, .sl .no 3 (d.Files.map api.File.av)), (8, .i (d.Files.length : Int)), (9, .i s99.t9)]) (fun s99 v => [(v, .vec 1 (s99.v.map AV.str))]) ⟨0, ([] : List (List UInt8))⟩ t109 _ h (Weak.mkL [0] (by decide) ⟨⟨_, Z, Z⟩, trivial⟩ ⟨tm Z, tm Z, tm Z, tm Z, trivial⟩) ?_)))))))))
  rintro s99 n100 x102 h hx101
  unfold disk.Names.body0 at h
  refine xr (xa (.bool (decide (s99.t9 < (d.Files.length : Int)))) Z (pu_int (v := .bool (decide (s99.t9 < (d.Files.length : Int)))) Z Z (tm Z) (tm Z) Z) (xe (aw_seq (aw_cond (b := decide (s99.t9 < (d.Files.length : Int))) (tm Z) (fun hb108 => ?_) (fun hb108 => ?_)))))
  ·replace h := ite_t (dec_t hb108) h
   refine aw_skip (aw_seq (aw_block (aw_seq (aw_region ?_))))
   obtain ⟨c104, h⟩ := need_of h
   refine xa (.vptr [.str (ix d.Files s99.t9).Name, .str (ix d.Files s99.t9).Data, .i (ix d.Files s99.t9).Synced]) Z (pu_indexAddrM Z underlying22 sizeOf48 (tm Z) (tm Z) c104 Z) (xc Z (op_loadVN Z isAgg48 sizeOf48 (tm Z) (nb Z) Z (xc Z (op_alloc (cs := [.str ([] : List UInt8), .str ([] : List UInt8), .i 0]) (v := .agg [.str ([] : List UInt8), .str ([] : List UInt8), .i 0]) Z zeroValue48 Z Z Z ?_))))
   intro p105
   refine ac0 Z Z (op_store (i := 0) (cs' := [.str (ix d.Files s99.t9).Name, .str (ix d.Files s99.t9).Data, .i (ix d.Files s99.t9).Synced]) Z sizeOf48 (tm Z) (v := .agg [.str (ix d.Files s99.t9).Name, .str (ix d.Files s99.t9).Data, .i (ix d.Files s99.t9).Synced]) (tm Z) Z Z Z (nb Z) Z (xe (aw_region (xm Z Z Z (xa (.ptr p105 0) Z (fa Z underlying48 Z sizeOf9 Z Z Z) (xc Z (op_load1 (i := 0) Z isAgg9 (tm Z) Z Z (xc Z (op_buildSlice (xs := ([(ix d.Files s99.t9).Name] : List (List UInt8)).map AV.str) (aparts := [(0, .str (ix d.Files s99.t9).Name)]) Z underlying41 sizeOf9 zeroValue9 (by decide) (by decide) ⟨Z, (tm Z), trivial⟩ Z Z Z ?_)))))))))
   obtain ⟨c106, h⟩ := need_of h
   refine xc Z (op_appendVM (sz := 1) (q := 1) Z underlying41 underlying41 (.inl Z) typeInfo9 Z Z Z (by decide) (tm Z) Z (given_sl (tm Z)) c106 ?_)
   intro p107
   refine xm Z Z Z (xe (aw_region (xa (.i (IntKind.wrap .i64 (s99.t9 + 1))) Z (pu_int (v := .i (IntKind.wrap .i64 (s99.t9 + 1))) Z Z (tm Z) (AEv.int _ _) Z) (xm Z Z Z (xe ?_)))))
   obtain rfl := some_of h
   exact ⟨_, p107, Z, Weak.mkL [1] (by decide) ⟨⟨_, Z, Z⟩, trivial⟩ ⟨tm Z, tm Z, tm Z, (AEv.le (tm Z) vr), trivial⟩⟩
  ·replace h := ite_f (dec_f hb108) h
   refine aw_exit ?_
   obtain rfl := some_of h
   have h := congrArg some (hx101 _ rfl)
   obtain rfl := some_of h
   exact ⟨n100, Weak.mkL [0] (by decide) ⟨⟨_, Z, Z⟩, trivial⟩ ⟨tm Z, trivial⟩⟩
 ·intro n83
  have h := h84
  refine xr (xm Z Z Z ?_)
  obtain ⟨r110, r110e, h⟩ := bind_some h
  refine xc Z (op_call (vs := [.vec n83]) (H := [(n83, .vec 1 (s82.map AV.str))]) Z call29 ⟨(tm Z), trivial⟩ (List.Perm.refl _) (slices.Sort_string.ok r110e n83) ?_)
  rintro _ _ ⟨rfl, rfl⟩
  refine xe (xr (xm Z Z Z ?_))
  obtain ⟨r111, r111e, h⟩ := bind_some h
  refine xc Z (op_call (vs := [.vec n83]) (H := [(n83, .vec 1 (r110.map AV.str))]) Z call30 ⟨(tm Z), trivial⟩ (List.Perm.refl _) (slices.Compact_string.ok r111e n83) ?_)
  rintro _ _ ⟨t112, rfl, rfl⟩
  refine xm Z Z Z (xe (aw_publish 2 0 (tm Z) Z (aw_ret ?_)))
  obtain rfl := some_of h
  exact ⟨[.sl .no 1 (r111.map AV.str)], _, [], ⟨(tm Z), trivial⟩, vr, Weak.mkL [] (by decide) trivial trivial, ⟨Z, Z⟩⟩

def slices.SortFunc_api_File.enc (x : api.File) : List Value := [Go.Proofs.encStr x.Name, Go.Proofs.encStr x.Data, Value.int IntKind.i64 x.Synced]

theorem slices.SortFunc_api_File.closure (x y : api.File) (W : World) : Calls prog 50 (#[.agg (slices.SortFunc_api_File.enc x).toArray, .agg (slices.SortFunc_api_File.enc y).toArray] ++ #[]) W fun e w' => e = .returned (.int .i64 (Go.Lib.compareBytes x.Name y.Name)) ∧ ∃ q os', w' = Go.Sort.grow (W.drewN q) os' := by
 have hcon := fun W' => Go.Proofs.Try.strings_Compare ⟨x.Name.toArray⟩ ⟨y.Name.toArray⟩ W'
 change ∀ W', Calls prog 51 _ _ _ at hcon
 have hr : Go.Lib.compareBytes (⟨x.Name.toArray⟩ : ByteArray).data.toList (⟨y.Name.toArray⟩ : ByteArray).data.toList = Go.Lib.compareBytes x.Name y.Name := by simp
 rw [hr] at hcon
 show Calls prog 50 #[.agg (slices.SortFunc_api_File.enc x).toArray, .agg (slices.SortFunc_api_File.enc y).toArray] W _
 unfold slices.SortFunc_api_File.enc Go.Proofs.encStr
 generalize Go.Lib.compareBytes x.Name y.Name = r at hcon ⊢
 go_enter func50, ntmps50
 go_wp2_with (go_at_call 51; refine (hcon _).mono ?_; rintro e w' ⟨rfl, rfl⟩)
 go_ret
 exact ⟨Z, 0, _, by rw [Go.Sort.alloc_eq_grow, Go.Sort.alloc_eq_grow, Go.Sort.grow_grow]; rfl⟩

theorem slices.SortFunc_api_File.ok {x : List api.File} {r : List api.File} (h : slices.SortFunc_api_File x = some r) (o0 : Nat) : Go.Lift.Spec prog 49 [.vec o0, .fn 50 []] [(o0, .vec 3 (x.map api.File.av))] (fun v H => v = .tup [] ∧ H = [(o0, .vec 3 (r.map api.File.av))]) := by
 unfold slices.SortFunc_api_File at h
 obtain ⟨c, h⟩ := need_of h
 obtain rfl := some_of h
 refine spec_sortF (by decide) slices.SortFunc_api_File.enc api.File.av (Go.Proofs.ltOf fun a b : api.File => Go.Lib.compareBytes a.Name b.Name) (fun _ => Z) (fun x gh w c v hc h => ?_) (fun x gh w c hc => ?_) (fun _ => Z) (fun blk off cap d w hH hb hsz => ?_) (fun p cap fv w => Go.Proofs.AnyF.slices_SortFunc_none Go.Proofs.Try.sortF49 p cap fv w) (fun d hp hs => key_unique (fun y : api.File => y.Name) c.2 hp hs) c.1 o0
 ·rcases c with _ | _ | _ | c
  ·cases h; rfl
  ·cases h; rfl
  ·cases h; rfl
  ·omega
 ·rcases c with _ | _ | _ | c
  ·constructor
  ·constructor
  ·constructor
  ·omega
 ·exact Go.Proofs.AnyQ.slices_SortFunc Go.Proofs.Try.sortF49 3 isAgg48 sizeOf48 slices.SortFunc_api_File.enc (fun _ => Z) (fun x v hv => by simp [slices.SortFunc_api_File.enc] at hv; rcases hv with h1 | h1 | h1 <;> (subst h1; exact Eq.refl _)) (fun a b : api.File => Go.Lib.compareBytes a.Name b.Name) (swo_key fun y : api.File => y.Name) 50 #[] blk off cap d w (enters_of func50 (by kernel_rfl) Z) (fun _ _ _ _ x y => slices.SortFunc_api_File.closure x y _) hH hb hsz

theorem disk.counting.ok {d : api.Disk} {r : List api.File} (h : disk.counting d = some r) : Go.Lift.Spec prog 32 [.agg [.sl .no 3 (d.Files.map api.File.av), .sl .no 3 (d.Faults.map api.Fault.av)]] [] (fun v H => v = .sl .no 3 (r.map api.File.av) ∧ H = []) := by
 unfold disk.counting at h
 refine Go.Lift.Spec.of_body (rs := [.tmp 2]) func32 Z Z (nb Z) Z (xr (xc Z (op_box (cs := [.sl .no 3 (d.Files.map api.File.av), .sl .no 3 (d.Faults.map api.Fault.av)]) (v := .agg [.sl .no 3 (d.Files.map api.File.av), .sl .no 3 (d.Faults.map api.Fault.av)]) Z (tm Z) Z Z ?_)))
 intro p141
 refine xa (.sl .full 3 (([] : List api.File).map api.File.av)) Z (pu_assign Z (AEv.nil 3 (by decide))) (xe (xr (xa (.sl .full 3 (([] : List api.File).map api.File.av)) Z (pu_assign Z (AEv.nil 3 (by decide))) (xe ?_))))
 obtain ⟨s209, s209e, h211⟩ := bind_some h
 refine aw_meet (ν := Nat) (fun v => [(3, .vec v)]) (fun v => [(v, .vec 3 (s209.map api.File.av))]) ?_ ?_
 ·have h := s209e
  refine xr (xa (.ptr p141 0) Z (fa Z underlying25 Z sizeOf22 Z Z Z) (xc Z (op_load1 (i := 0) Z isAgg22 (tm Z) Z Z (xa (.i (d.Files.length : Int)) Z (pu_lenM Z underlying22 (tm Z)) (xa (.i 0) Z (pu_move Z (AEv.int _ _)) (xe (aw_block (aw_vecNil 3 (tm Z) fun t279 => (aw_while (σ := disk.counting.S0) (ν := Nat) (disk.counting.body0 d) (fun s255 v => [(1, .ptr p141 0), (3, .vec v), (7, .sl .no 3 (d.Files.map api.File.av)), (8, .i (d.Files.length : Int)), (9, .i s255.t9)]) (fun s255 v => [(p141, .cells [.sl .no 3 (d.Files.map api.File.av), .sl .no 3 (d.Faults.map api.Fault.av)]), (v, .vec 3 (s255.v.map api.File.av))]) ⟨0, ([] : List api.File)⟩ t279 _ h (Weak.mkL [1, 0] (by decide) ⟨⟨_, Z, cr, Z⟩, ⟨_, Z, Z⟩, trivial⟩ ⟨tm Z, tm Z, tm Z, tm Z, tm Z, trivial⟩) ?_)))))))))
  rintro s255 n256 x258 h hx257
  unfold disk.counting.body0 at h
  refine xr (xa (.bool (decide (s255.t9 < (d.Files.length : Int)))) Z (pu_int (v := .bool (decide (s255.t9 < (d.Files.length : Int)))) Z Z (tm Z) (tm Z) Z) (xe (aw_seq (aw_cond (b := decide (s255.t9 < (d.Files.length : Int))) (tm Z) (fun hb278 => ?_) (fun hb278 => ?_)))))
  ·replace h := ite_t (dec_t hb278) h
   refine aw_skip ?_
   obtain ⟨s267, s267e, h269⟩ := bind_some h
   refine aw_meet (ν := Nat) (fun v => [(1, .ptr p141 0), (3, .vec v), (7, .sl .no 3 (d.Files.map api.File.av)), (8, .i (d.Files.length : Int)), (9, .i s255.t9)]) (fun v => [(p141, .cells [.sl .no 3 (d.Files.map api.File.av), .sl .no 3 (d.Faults.map api.Fault.av)]), (v, .vec 3 (s267.map api.File.av))]) ?_ ?_
   ·have h := s267e
    refine aw_block (xr (xm Z Z Z ?_))
    obtain ⟨c271, h⟩ := need_of h
    refine xa (.vptr [.str (ix d.Files s255.t9).Name, .str (ix d.Files s255.t9).Data, .i (ix d.Files s255.t9).Synced]) Z (pu_indexAddrM Z underlying22 sizeOf48 (tm Z) (tm Z) c271 Z) (xc Z (op_loadVN Z isAgg48 sizeOf48 (tm Z) (nb Z) Z (xc Z (op_alloc (cs := [.str ([] : List UInt8), .str ([] : List UInt8), .i 0]) (v := .agg [.str ([] : List UInt8), .str ([] : List UInt8), .i 0]) Z zeroValue48 Z Z Z ?_))))
    intro p272
    refine xm Z Z Z (ac0 Z Z (op_store (i := 0) (cs' := [.str (ix d.Files s255.t9).Name, .str (ix d.Files s255.t9).Data, .i (ix d.Files s255.t9).Synced]) Z sizeOf48 (tm Z) (v := .agg [.str (ix d.Files s255.t9).Name, .str (ix d.Files s255.t9).Data, .i (ix d.Files s255.t9).Synced]) (tm Z) Z Z Z (nb Z) Z (xe (xr (xc Z (op_loadN (i := 1) Z isAgg25 sizeOf25 (tm Z) Z (nb Z) Z (xa (.ptr p272 0) Z (fa Z underlying48 Z sizeOf9 Z Z Z) (xc Z (op_load1 (i := 0) Z isAgg9 (tm Z) Z Z ?_)))))))))
    obtain ⟨r273, r273e, h⟩ := bind_some h
    refine xc Z (op_call (vs := [.agg [.sl .no 3 (d.Files.map api.File.av), .sl .no 3 (d.Faults.map api.Fault.av)], .str (ix d.Files s255.t9).Name]) (H := []) Z call25 ⟨(tm Z), (tm Z), trivial⟩ (List.Perm.refl _) (disk.find.ok r273e) ?_)
    rintro _ _ ⟨rfl, rfl⟩
    refine xm Z Z Z (xa (.bool (decide (r273 = s255.t9))) Z (pu_int (v := .bool (decide (r273 = s255.t9))) Z Z (tm Z) (tm Z) Z) (xe (aw_cond (b := decide (r273 = s255.t9)) (tm Z) (fun hb277 => ?_) (fun hb277 => ?_))))
    ·replace h := ite_t (dec_t hb277) h
     refine xr (xc Z (op_loadN (i := 0) Z isAgg48 sizeOf48 (tm Z) Z (nb Z) Z ?_))
     obtain ⟨r274, r274e, h⟩ := bind_some h
     refine xc Z (op_call (vs := [.agg [.str (ix d.Files s255.t9).Name, .str (ix d.Files s255.t9).Data, .i (ix d.Files s255.t9).Synced]]) (H := []) Z call26 ⟨(tm Z), trivial⟩ (List.Perm.refl _) (disk.safe.ok r274e) ?_)
     rintro _ _ ⟨rfl, rfl⟩
     refine xa (.ptr p272 2) Z (fa Z underlying48 Z sizeOf3 Z Z Z) (ac0 Z Z (op_store (i := 0) (cs' := [.str (ix d.Files s255.t9).Name, .str (ix d.Files s255.t9).Data, .i r274]) Z sizeOf3 (tm Z) (v := .i r274) (tm Z) Z Z Z (nb Z) Z (xe (aw_region (xm Z Z Z (xc Z (op_loadN (i := 0) Z isAgg48 sizeOf48 (tm Z) Z (nb Z) Z (xc Z (op_buildSlice (xs := ([{ (ix d.Files s255.t9) with Synced := r274 }] : List api.File).map api.File.av) (aparts := [(0, .agg [.str (ix d.Files s255.t9).Name, .str (ix d.Files s255.t9).Data, .i r274])]) Z underlying22 sizeOf48 zeroValue48 (by decide) (by decide) ⟨Z, (tm Z), trivial⟩ Z Z Z ?_)))))))))
     obtain ⟨c275, h⟩ := need_of h
     refine xc Z (op_appendVM (sz := 3) (q := 2) Z underlying22 underlying22 (.inl Z) typeInfo48 Z Z Z (by decide) (tm Z) Z (given_sl (tm Z)) c275 ?_)
     intro p276
     refine xm Z Z Z (xe ?_)
     obtain rfl := some_of h
     exact ⟨p276, Weak.mkL [1, 2] (by decide) ⟨⟨_, Z, cr, Z⟩, ⟨_, Z, Z⟩, trivial⟩ ⟨tm Z, tm Z, tm Z, tm Z, tm Z, trivial⟩⟩
    ·replace h := ite_f (dec_f hb277) h
     refine aw_skip ?_
     obtain rfl := some_of h
     exact ⟨n256, Weak.mkL [1, 2] (by decide) ⟨⟨_, Z, cr, Z⟩, ⟨_, Z, Z⟩, trivial⟩ ⟨tm Z, tm Z, tm Z, tm Z, tm Z, trivial⟩⟩
   ·intro n268
    have h := h269
    refine aw_region (xa (.i (IntKind.wrap .i64 (s255.t9 + 1))) Z (pu_int (v := .i (IntKind.wrap .i64 (s255.t9 + 1))) Z Z (tm Z) (AEv.int _ _) Z) (xm Z Z Z (xe ?_)))
    obtain rfl := some_of h
    exact ⟨_, n268, Z, Weak.mkL [0, 1] (by decide) ⟨⟨_, Z, cr, Z⟩, ⟨_, Z, Z⟩, trivial⟩ ⟨tm Z, tm Z, tm Z, tm Z, (AEv.le (tm Z) vr), trivial⟩⟩
  ·replace h := ite_f (dec_f hb278) h
   refine aw_exit ?_
   obtain rfl := some_of h
   have h := congrArg some (hx257 _ rfl)
   obtain rfl := some_of h
   exact ⟨n256, Weak.mkL [1] (by decide) ⟨⟨_, Z, Z⟩, trivial⟩ ⟨tm Z, trivial⟩⟩
 ·intro n210
  have h := h211
  refine xr (xm Z Z Z ?_)
  obtain ⟨r280, r280e, h⟩ := bind_some h
  refine xc Z (op_call (vs := [.vec n210, .fn 50 []]) (H := [(n210, .vec 3 (s209.map api.File.av))]) Z call49 ⟨(tm Z), (AEv.func _), trivial⟩ (List.Perm.refl _) (slices.SortFunc_api_File.ok r280e n210) ?_)
  rintro _ _ ⟨rfl, rfl⟩
  refine xe (xr (xm Z Z Z (xm Z Z Z (xe (aw_publish 2 0 (tm Z) Z (aw_ret ?_))))))
  obtain rfl := some_of h
  exact ⟨[.sl .no 3 (r280.map api.File.av)], _, [], ⟨(tm Z), trivial⟩, vr, Weak.mkL [] (by decide) trivial trivial, ⟨Z, Z⟩⟩

theorem slices.Equal_api_File.ok {s1_ : List api.File} {s2_ : List api.File} {r : Bool} (h : slices.Equal_api_File s1_ s2_ = some r) : Go.Lift.Spec prog 31 [.sl .no 3 (s1_.map api.File.av), .sl .no 3 (s2_.map api.File.av)] [] (fun v H => v = .bool r ∧ H = []) := by
 unfold slices.Equal_api_File at h
 refine Go.Lift.Spec.of_body (rs := [.tmp 4]) func31 Z Z (nb Z) Z (xr (xa (.bool false) Z (pu_assign Z (AEv.bool _)) (xe (aw_seq (xr (xm Z Z Z (xa (.i (s1_.length : Int)) Z (pu_lenM Z underlying22 (tm Z)) ?_)))))))
 refine xm Z Z Z (xa (.i (s2_.length : Int)) Z (pu_lenM Z underlying22 (tm Z)) (xa (.bool (!decide ((s1_.length : Int) = (s2_.length : Int)))) Z (pu_int (v := .bool (!decide ((s1_.length : Int) = (s2_.length : Int)))) Z Z (tm Z) (tm Z) Z) (xe (aw_cond (b := (!decide ((s1_.length : Int) = (s2_.length : Int)))) (tm Z) (fun hb82 => ?_) (fun hb82 => ?_)))))
 ·replace h := ite_f (ndec_t hb82) h
  refine xr (xa (.bool false) Z (pu_assign Z (AEv.bool _)) (xe (aw_ret ?_)))
  obtain rfl := some_of h
  exact ⟨[.bool false], _, [], ⟨(tm Z), trivial⟩, vr, Weak.mkL [] (by decide) trivial trivial, ⟨Z, Z⟩⟩
 ·replace h := ite_t (ndec_f hb82) h
  refine aw_skip ?_
  obtain ⟨s81, s81e, h61⟩ := bind_some h
  refine aw_join (σ := Unit) (ν := Unit) (fun u v => []) (fun u v => []) (fun u => s81 = .inl u) ?_ ?_
  ·intro s60
   intro _
   rintro rfl
   have h := onSum_inl h61
   refine xr (xa (.bool true) Z (pu_assign Z (AEv.bool _)) (xe (aw_ret ?_)))
   obtain rfl := some_of h
   exact ⟨[.bool true], _, [], ⟨(tm Z), trivial⟩, vr, Weak.mkL [] (by decide) trivial trivial, ⟨Z, Z⟩⟩
  ·have h := s81e
   refine xr (xm Z Z Z (xa (.i (s1_.length : Int)) Z (pu_lenM Z underlying22 (tm Z)) (xa (.i 0) Z (pu_move Z (AEv.int _ _)) (xe (aw_block (aw_while (σ := slices.Equal_api_File.S0) (ν := Unit) (slices.Equal_api_File.body0 s1_ s2_) (fun s73 v => [(0, .sl .no 3 (s1_.map api.File.av)), (1, .sl .no 3 (s2_.map api.File.av)), (12, .i (s1_.length : Int)), (13, .i s73.t13)]) (fun s73 v => []) ⟨0⟩ () _ h (Weak.mkL [] (by decide) trivial ⟨tm Z, tm Z, tm Z, tm Z, trivial⟩) ?_))))))
   rintro s73 _ x75 h hx74
   unfold slices.Equal_api_File.body0 at h
   refine xr (xa (.bool (decide (s73.t13 < (s1_.length : Int)))) Z (pu_int (v := .bool (decide (s73.t13 < (s1_.length : Int)))) Z Z (tm Z) (tm Z) Z) (xe (aw_seq (aw_cond (b := decide (s73.t13 < (s1_.length : Int))) (tm Z) (fun hb80 => ?_) (fun hb80 => ?_)))))
   ·replace h := ite_t (dec_t hb80) h
    refine aw_skip (aw_seq (aw_block (xr (xm Z Z Z (xm Z Z Z (xe (aw_seq ?_)))))))
    obtain ⟨c77, h⟩ := need_of h
    obtain ⟨c78, h⟩ := need_of h
    refine aw_planR (by decide +kernel) [[], [], [], [], [], [], [], [], []] [] [] [.sl .no 3 (s1_.map api.File.av), .i s73.t13, .vptr [.str (ix s1_ s73.t13).Name, .str (ix s1_ s73.t13).Data, .i (ix s1_ s73.t13).Synced], .agg [.str (ix s1_ s73.t13).Name, .str (ix s1_ s73.t13).Data, .i (ix s1_ s73.t13).Synced], .sl .no 3 (s2_.map api.File.av), .i s73.t13, .vptr [.str (ix s2_ s73.t13).Name, .str (ix s2_ s73.t13).Data, .i (ix s2_ s73.t13).Synced], .agg [.str (ix s2_ s73.t13).Name, .str (ix s2_ s73.t13).Data, .i (ix s2_ s73.t13).Synced], .bool (!decide ((ix s1_ s73.t13) = (ix s2_ s73.t13)))] (by decide +kernel) Z Z ?_ ?_
    ·exact ⟨ym Z Z Z, ym Z Z Z, yp Z (pu_indexAddrM Z underlying22 sizeOf48 (tm Z) (tm Z) c77 Z), stepg_plain Z (op_loadVN Z isAgg48 sizeOf48 (tm Z) (nb Z) Z ⟨Z, Z⟩), ym Z Z Z, ym Z Z Z, yp Z (pu_indexAddrM Z underlying22 sizeOf48 (tm Z) (tm Z) c78 Z), stepg_plain Z (op_loadVN Z isAgg48 sizeOf48 (tm Z) (nb Z) Z ⟨Z, Z⟩), yp Z (APure.eq (pu_structNe (b := (decide ((ix s1_ s73.t13).Name = (ix s2_ s73.t13).Name) && (decide ((ix s1_ s73.t13).Data = (ix s2_ s73.t13).Data) && (decide ((ix s1_ s73.t13).Synced = (ix s2_ s73.t13).Synced) && true)))) Z underlying48 (by kernel_rfl) (by kernel_rfl) (tm Z) (tm Z) ⟨_, _, _, _, ⟨by decide, isAgg9, Z, Z, CEq.str underlying9⟩, ⟨_, _, _, _, ⟨by decide, isAgg9, Z, Z, CEq.str underlying9⟩, ⟨_, _, _, _, ⟨by decide, isAgg3, Z, Z, CEq.int underlying3⟩, Z, Z⟩, Z⟩, Z⟩) (congrArg (fun b => AV.bool (!b)) (api.File.eq_iff (ix s1_ s73.t13) (ix s2_ s73.t13)).symm)), trivial⟩
    refine aw_cond (b := (!decide ((ix s1_ s73.t13) = (ix s2_ s73.t13)))) (tm Z) (fun hb79 => ?_) (fun hb79 => ?_)
    ·replace h := ite_f (ndec_t hb79) h
     refine xr (xa (.bool false) Z (pu_assign Z (AEv.bool _)) (xe (aw_ret ?_)))
     obtain rfl := some_of h
     have h := congrArg some (hx74 _ rfl)
     obtain rfl := some_of h
     have h := onSum_inr h61
     obtain rfl := some_of h
     exact ⟨[.bool false], _, [], ⟨(tm Z), trivial⟩, vr, Weak.mkL [] (by decide) trivial trivial, ⟨Z, Z⟩⟩
    ·replace h := ite_t (ndec_f hb79) h
     refine aw_skip (aw_region (xa (.i (IntKind.wrap .i64 (s73.t13 + 1))) Z (pu_int (v := .i (IntKind.wrap .i64 (s73.t13 + 1))) Z Z (tm Z) (AEv.int _ _) Z) (xm Z Z Z (xe ?_))))
     obtain rfl := some_of h
     exact ⟨_, (), Z, Weak.mkL [] (by decide) trivial ⟨tm Z, tm Z, tm Z, (AEv.le (tm Z) vr), trivial⟩⟩
   ·replace h := ite_f (dec_f hb80) h
    refine aw_exit ?_
    obtain rfl := some_of h
    have h := congrArg some (hx74 _ rfl)
    exact ⟨(), (), (some_of h).symm, Weak.mkL [] (by decide) trivial trivial⟩

theorem slices.Equal_api_Fault.ok {s1_ : List api.Fault} {s2_ : List api.Fault} {r : Bool} (h : slices.Equal_api_Fault s1_ s2_ = some r) : Go.Lift.Spec prog 33 [.sl .no 3 (s1_.map api.Fault.av), .sl .no 3 (s2_.map api.Fault.av)] [] (fun v H => v = .bool r ∧ H = []) := by
 unfold slices.Equal_api_Fault at h
 refine Go.Lift.Spec.of_body (rs := [.tmp 4]) func33 Z Z (nb Z) Z (xr (xa (.bool false) Z (pu_assign Z (AEv.bool _)) (xe (aw_seq (xr (xm Z Z Z (xa (.i (s1_.length : Int)) Z (pu_lenM Z underlying23 (tm Z)) ?_)))))))
 refine xm Z Z Z (xa (.i (s2_.length : Int)) Z (pu_lenM Z underlying23 (tm Z)) (xa (.bool (!decide ((s1_.length : Int) = (s2_.length : Int)))) Z (pu_int (v := .bool (!decide ((s1_.length : Int) = (s2_.length : Int)))) Z Z (tm Z) (tm Z) Z) (xe (aw_cond (b := (!decide ((s1_.length : Int) = (s2_.length : Int)))) (tm Z) (fun hb82 => ?_) (fun hb82 => ?_)))))
 ·replace h := ite_f (ndec_t hb82) h
  refine xr (xa (.bool false) Z (pu_assign Z (AEv.bool _)) (xe (aw_ret ?_)))
  obtain rfl := some_of h
  exact ⟨[.bool false], _, [], ⟨(tm Z), trivial⟩, vr, Weak.mkL [] (by decide) trivial trivial, ⟨Z, Z⟩⟩
 ·replace h := ite_t (ndec_f hb82) h
  refine aw_skip ?_
  obtain ⟨s81, s81e, h61⟩ := bind_some h
  refine aw_join (σ := Unit) (ν := Unit) (fun u v => []) (fun u v => []) (fun u => s81 = .inl u) ?_ ?_
  ·intro s60
   intro _
   rintro rfl
   have h := onSum_inl h61
   refine xr (xa (.bool true) Z (pu_assign Z (AEv.bool _)) (xe (aw_ret ?_)))
   obtain rfl := some_of h
   exact ⟨[.bool true], _, [], ⟨(tm Z), trivial⟩, vr, Weak.mkL [] (by decide) trivial trivial, ⟨Z, Z⟩⟩
  ·have h := s81e
   refine xr (xm Z Z Z (xa (.i (s1_.length : Int)) Z (pu_lenM Z underlying23 (tm Z)) (xa (.i 0) Z (pu_move Z (AEv.int _ _)) (xe (aw_block (aw_while (σ := slices.Equal_api_Fault.S0) (ν := Unit) (slices.Equal_api_Fault.body0 s1_ s2_) (fun s73 v => [(0, .sl .no 3 (s1_.map api.Fault.av)), (1, .sl .no 3 (s2_.map api.Fault.av)), (12, .i (s1_.length : Int)), (13, .i s73.t13)]) (fun s73 v => []) ⟨0⟩ () _ h (Weak.mkL [] (by decide) trivial ⟨tm Z, tm Z, tm Z, tm Z, trivial⟩) ?_))))))
   rintro s73 _ x75 h hx74
   unfold slices.Equal_api_Fault.body0 at h
   refine xr (xa (.bool (decide (s73.t13 < (s1_.length : Int)))) Z (pu_int (v := .bool (decide (s73.t13 < (s1_.length : Int)))) Z Z (tm Z) (tm Z) Z) (xe (aw_seq (aw_cond (b := decide (s73.t13 < (s1_.length : Int))) (tm Z) (fun hb80 => ?_) (fun hb80 => ?_)))))
   ·replace h := ite_t (dec_t hb80) h
    refine aw_skip (aw_seq (aw_block (xr (xm Z Z Z (xm Z Z Z (xe (aw_seq ?_)))))))
    obtain ⟨c77, h⟩ := need_of h
    obtain ⟨c78, h⟩ := need_of h
    refine aw_planR (by decide +kernel) [[], [], [], [], [], [], [], [], []] [] [] [.sl .no 3 (s1_.map api.Fault.av), .i s73.t13, .vptr [.str (ix s1_ s73.t13).Name, .i (ix s1_ s73.t13).Kind, .i (ix s1_ s73.t13).Short], .agg [.str (ix s1_ s73.t13).Name, .i (ix s1_ s73.t13).Kind, .i (ix s1_ s73.t13).Short], .sl .no 3 (s2_.map api.Fault.av), .i s73.t13, .vptr [.str (ix s2_ s73.t13).Name, .i (ix s2_ s73.t13).Kind, .i (ix s2_ s73.t13).Short], .agg [.str (ix s2_ s73.t13).Name, .i (ix s2_ s73.t13).Kind, .i (ix s2_ s73.t13).Short], .bool (!decide ((ix s1_ s73.t13) = (ix s2_ s73.t13)))] (by decide +kernel) Z Z ?_ ?_
    ·exact ⟨ym Z Z Z, ym Z Z Z, yp Z (pu_indexAddrM Z underlying23 sizeOf70 (tm Z) (tm Z) c77 Z), stepg_plain Z (op_loadVN Z isAgg70 sizeOf70 (tm Z) (nb Z) Z ⟨Z, Z⟩), ym Z Z Z, ym Z Z Z, yp Z (pu_indexAddrM Z underlying23 sizeOf70 (tm Z) (tm Z) c78 Z), stepg_plain Z (op_loadVN Z isAgg70 sizeOf70 (tm Z) (nb Z) Z ⟨Z, Z⟩), yp Z (APure.eq (pu_structNe (b := (decide ((ix s1_ s73.t13).Name = (ix s2_ s73.t13).Name) && (decide ((ix s1_ s73.t13).Kind = (ix s2_ s73.t13).Kind) && (decide ((ix s1_ s73.t13).Short = (ix s2_ s73.t13).Short) && true)))) Z underlying70 (by kernel_rfl) (by kernel_rfl) (tm Z) (tm Z) ⟨_, _, _, _, ⟨by decide, isAgg9, Z, Z, CEq.str underlying9⟩, ⟨_, _, _, _, ⟨by decide, isAgg3, Z, Z, CEq.int underlying3⟩, ⟨_, _, _, _, ⟨by decide, isAgg3, Z, Z, CEq.int underlying3⟩, Z, Z⟩, Z⟩, Z⟩) (congrArg (fun b => AV.bool (!b)) (api.Fault.eq_iff (ix s1_ s73.t13) (ix s2_ s73.t13)).symm)), trivial⟩
    refine aw_cond (b := (!decide ((ix s1_ s73.t13) = (ix s2_ s73.t13)))) (tm Z) (fun hb79 => ?_) (fun hb79 => ?_)
    ·replace h := ite_f (ndec_t hb79) h
     refine xr (xa (.bool false) Z (pu_assign Z (AEv.bool _)) (xe (aw_ret ?_)))
     obtain rfl := some_of h
     have h := congrArg some (hx74 _ rfl)
     obtain rfl := some_of h
     have h := onSum_inr h61
     obtain rfl := some_of h
     exact ⟨[.bool false], _, [], ⟨(tm Z), trivial⟩, vr, Weak.mkL [] (by decide) trivial trivial, ⟨Z, Z⟩⟩
    ·replace h := ite_t (ndec_f hb79) h
     refine aw_skip (aw_region (xa (.i (IntKind.wrap .i64 (s73.t13 + 1))) Z (pu_int (v := .i (IntKind.wrap .i64 (s73.t13 + 1))) Z Z (tm Z) (AEv.int _ _) Z) (xm Z Z Z (xe ?_))))
     obtain rfl := some_of h
     exact ⟨_, (), Z, Weak.mkL [] (by decide) trivial ⟨tm Z, tm Z, tm Z, (AEv.le (tm Z) vr), trivial⟩⟩
   ·replace h := ite_f (dec_f hb80) h
    refine aw_exit ?_
    obtain rfl := some_of h
    have h := congrArg some (hx74 _ rfl)
    exact ⟨(), (), (some_of h).symm, Weak.mkL [] (by decide) trivial trivial⟩

theorem disk.Same.ok {a : api.Disk} {b : api.Disk} {r : Bool} (h : disk.Same a b = some r) : Go.Lift.Spec prog 14 [.agg [.sl .no 3 (a.Files.map api.File.av), .sl .no 3 (a.Faults.map api.Fault.av)], .agg [.sl .no 3 (b.Files.map api.File.av), .sl .no 3 (b.Faults.map api.Fault.av)]] [] (fun v H => v = .bool r ∧ H = []) := by
 unfold disk.Same at h
 refine Go.Lift.Spec.of_body (rs := [.tmp 4]) func14 Z Z (nb Z) Z (xr (xc Z (op_box (cs := [.sl .no 3 (a.Files.map api.File.av), .sl .no 3 (a.Faults.map api.Fault.av)]) (v := .agg [.sl .no 3 (a.Files.map api.File.av), .sl .no 3 (a.Faults.map api.Fault.av)]) Z (tm Z) Z Z ?_)))
 intro p16
 refine xc Z (op_box (cs := [.sl .no 3 (b.Files.map api.File.av), .sl .no 3 (b.Faults.map api.Fault.av)]) (v := .agg [.sl .no 3 (b.Files.map api.File.av), .sl .no 3 (b.Faults.map api.Fault.av)]) Z (tm Z) Z Z ?_)
 intro p17
 refine xa (.bool false) Z (pu_assign Z (AEv.bool _)) (xe ?_)
 obtain ⟨s23, s23e, h24⟩ := bind_some h
 refine aw_meet (ν := Unit) (fun v => [(4, .bool s23)]) (fun v => []) ?_ ?_
 ·have h := s23e
  obtain ⟨r26, r26e, h⟩ := bind_some h
  obtain ⟨r27, r27e, h⟩ := bind_some h
  obtain ⟨r28, r28e, h⟩ := bind_some h
  rcases Bool.eq_false_or_eq_true r28 with hb29 | hb29
  ·replace h := ite_t hb29 h
   obtain ⟨r30, r30e, h⟩ := bind_some h
   refine aw_planR (by decide +kernel) [[(1, 0, false)], [], [(0, 0, false)], [], [], [], [], [(1, 0, false)], [], [(0, 0, false)], [], [], []] [[], []] [[[(p17, .cells [.sl .no 3 (b.Files.map api.File.av), .sl .no 3 (b.Faults.map api.Fault.av)])]], [[(p16, .cells [.sl .no 3 (a.Files.map api.File.av), .sl .no 3 (a.Faults.map api.Fault.av)])]]] [.agg [.sl .no 3 (a.Files.map api.File.av), .sl .no 3 (a.Faults.map api.Fault.av)], .sl .no 3 (r26.map api.File.av), .agg [.sl .no 3 (b.Files.map api.File.av), .sl .no 3 (b.Faults.map api.Fault.av)], .sl .no 3 (r27.map api.File.av), .bool r28, .bool true, .ptr p16 1, .sl .no 3 (a.Faults.map api.Fault.av), .ptr p17 1, .sl .no 3 (b.Faults.map api.Fault.av), .bool r30, .bool r30, .bool r30] (by decide +kernel) Z Z ?_ ?_
   ·exact ⟨stepg_plain Z (op_loadN (i := 0) Z isAgg25 sizeOf25 (tm Z) Z (nb Z) Z ⟨Z, Z⟩), stepg_plain Z (op_call (vs := [.agg [.sl .no 3 (a.Files.map api.File.av), .sl .no 3 (a.Faults.map api.Fault.av)]]) (H := []) Z call32 ⟨(tm Z), trivial⟩ (R := []) (List.Perm.refl _) (disk.counting.ok r26e) (by rintro _ _ ⟨rfl, rfl⟩; exact ⟨Z, Z⟩)), stepg_plain Z (op_loadN (i := 0) Z isAgg25 sizeOf25 (tm Z) Z (nb Z) Z ⟨Z, Z⟩), stepg_plain Z (op_call (vs := [.agg [.sl .no 3 (b.Files.map api.File.av), .sl .no 3 (b.Faults.map api.Fault.av)]]) (H := []) Z call32 ⟨(tm Z), trivial⟩ (R := []) (List.Perm.refl _) (disk.counting.ok r27e) (by rintro _ _ ⟨rfl, rfl⟩; exact ⟨Z, Z⟩)), stepg_plain Z (op_call (vs := [.sl .no 3 (r26.map api.File.av), .sl .no 3 (r27.map api.File.av)]) (H := []) Z call31 ⟨(tm Z), (tm Z), trivial⟩ (R := []) (List.Perm.refl _) (slices.Equal_api_File.ok r28e) (by rintro _ _ ⟨rfl, rfl⟩; exact ⟨Z, Z⟩)), AStepG.cast (ym Z Z Z) (congrArg AV.bool hb29), yq Z Z (fa Z underlying25 Z sizeOf23 Z Z Z), yg Z Z (op_load1 (i := 0) Z isAgg23 (tm Z) Z Z ⟨Z, Z⟩), yq Z Z (fa Z underlying25 Z sizeOf23 Z Z Z), yg Z Z (op_load1 (i := 0) Z isAgg23 (tm Z) Z Z ⟨Z, Z⟩), yg Z Z (op_call (vs := [.sl .no 3 (a.Faults.map api.Fault.av), .sl .no 3 (b.Faults.map api.Fault.av)]) (H := []) Z call33 ⟨(tm Z), (tm Z), trivial⟩ (R := []) (List.Perm.refl _) (slices.Equal_api_Fault.ok r30e) (by rintro _ _ ⟨rfl, rfl⟩; exact ⟨Z, Z⟩)), yp Z (pu_pick (b := true) Z (tm Z) (fun _ => (tm Z)) (fun h => nomatch h)), ym Z Z Z, trivial⟩
   obtain rfl := some_of h
   exact ⟨(), Weak.mkL [] (by decide) trivial ⟨tm Z, trivial⟩⟩
  ·replace h := ite_fb hb29 h
   refine aw_planR (by decide +kernel) [[(1, 0, false)], [], [(0, 0, false)], [], [], [], [], [], [], [], [], [], []] [[], []] [[[(p17, .cells [.sl .no 3 (b.Files.map api.File.av), .sl .no 3 (b.Faults.map api.Fault.av)])]], [[(p16, .cells [.sl .no 3 (a.Files.map api.File.av), .sl .no 3 (a.Faults.map api.Fault.av)])]]] [.agg [.sl .no 3 (a.Files.map api.File.av), .sl .no 3 (a.Faults.map api.Fault.av)], .sl .no 3 (r26.map api.File.av), .agg [.sl .no 3 (b.Files.map api.File.av), .sl .no 3 (b.Faults.map api.Fault.av)], .sl .no 3 (r27.map api.File.av), .bool r28, .bool false, .lit undef, .lit undef, .lit undef, .lit undef, .lit undef, .bool false, .bool false] (by decide +kernel) Z Z ?_ ?_
   ·exact ⟨stepg_plain Z (op_loadN (i := 0) Z isAgg25 sizeOf25 (tm Z) Z (nb Z) Z ⟨Z, Z⟩), stepg_plain Z (op_call (vs := [.agg [.sl .no 3 (a.Files.map api.File.av), .sl .no 3 (a.Faults.map api.Fault.av)]]) (H := []) Z call32 ⟨(tm Z), trivial⟩ (R := []) (List.Perm.refl _) (disk.counting.ok r26e) (by rintro _ _ ⟨rfl, rfl⟩; exact ⟨Z, Z⟩)), stepg_plain Z (op_loadN (i := 0) Z isAgg25 sizeOf25 (tm Z) Z (nb Z) Z ⟨Z, Z⟩), stepg_plain Z (op_call (vs := [.agg [.sl .no 3 (b.Files.map api.File.av), .sl .no 3 (b.Faults.map api.Fault.av)]]) (H := []) Z call32 ⟨(tm Z), trivial⟩ (R := []) (List.Perm.refl _) (disk.counting.ok r27e) (by rintro _ _ ⟨rfl, rfl⟩; exact ⟨Z, Z⟩)), stepg_plain Z (op_call (vs := [.sl .no 3 (r26.map api.File.av), .sl .no 3 (r27.map api.File.av)]) (H := []) Z call31 ⟨(tm Z), (tm Z), trivial⟩ (R := []) (List.Perm.refl _) (slices.Equal_api_File.ok r28e) (by rintro _ _ ⟨rfl, rfl⟩; exact ⟨Z, Z⟩)), AStepG.cast (ym Z Z Z) (congrArg AV.bool hb29), yx Z Z Z, yx Z Z Z, yx Z Z Z, yx Z Z Z, yx Z Z Z, yp Z (pu_pick (b := false) Z (tm Z) (fun h => nomatch h) (fun _ => (AEv.bool _))), ym Z Z Z, trivial⟩
   obtain rfl := some_of h
   exact ⟨(), Weak.mkL [] (by decide) trivial ⟨tm Z, trivial⟩⟩
 ·intro _
  have h := h24
  refine aw_ret ?_
  obtain rfl := some_of h
  exact ⟨[.bool s23], _, [], ⟨(tm Z), trivial⟩, vr, Weak.mkL [] (by decide) trivial trivial, ⟨Z, Z⟩⟩

theorem mewsref16.Meets.ok {d : api.Disk} {name : List UInt8} {kind : Int} {r : api.Disk × api.Fault × Bool} (h : mewsref16.Meets d name kind = some r) : Go.Lift.Spec prog 52 [.agg [.sl .no 3 (d.Files.map api.File.av), .sl .no 3 (d.Faults.map api.Fault.av)], .str name, .i kind] [] (fun v H => ∃ n0, v = .tup [.agg [.sl .no 3 (r.1.Files.map api.File.av), .sl (.own n0) 3 (r.1.Faults.map api.Fault.av)], .agg [.str r.2.1.Name, .i r.2.1.Kind, .i r.2.1.Short], .bool r.2.2] ∧ H = [(n0, .spare)]) := by
 unfold mewsref16.Meets at h
 refine Go.Lift.Spec.of_body (rs := [.cell 6 25, .cell 7 70, .tmp 8]) func52 Z Z (nb Z) Z (xr (xc Z (op_box (cs := [.sl .no 3 (d.Files.map api.File.av), .sl .no 3 (d.Faults.map api.Fault.av)]) (v := .agg [.sl .no 3 (d.Files.map api.File.av), .sl .no 3 (d.Faults.map api.Fault.av)]) Z (tm Z) Z Z ?_)))
 intro p198
 refine xc Z (op_alloc (cs := [.sl .full 3 (([] : List api.File).map api.File.av), .sl .full 3 (([] : List api.Fault).map api.Fault.av)]) (v := .agg [.sl .full 3 (([] : List api.File).map api.File.av), .sl .full 3 (([] : List api.Fault).map api.Fault.av)]) Z zeroValue25 Z Z Z ?_)
 intro p199
 refine xc Z (op_alloc (cs := [.str ([] : List UInt8), .i 0, .i 0]) (v := .agg [.str ([] : List UInt8), .i 0, .i 0]) Z zeroValue70 Z Z Z ?_)
 intro p200
 refine xa (.bool false) Z (pu_assign Z (AEv.bool _)) (xe (xr (xa (.ptr p198 0) Z (fa Z underlying25 Z sizeOf22 Z Z Z) (xc Z (op_load1 (i := 2) Z isAgg22 (tm Z) Z Z (xa (.agg [.sl .no 3 (d.Files.map api.File.av), .sl .full 3 (([] : List api.Fault).map api.Fault.av)]) Z (pu_build (zs := [.sl .full 3 (([] : List api.File).map api.File.av), .sl .full 3 (([] : List api.Fault).map api.Fault.av)]) (szs := [1, 1]) (aparts := [(0, .sl .no 3 (d.Files.map api.File.av))]) (cs := [.sl .no 3 (d.Files.map api.File.av), .sl .full 3 (([] : List api.Fault).map api.Fault.av)]) Z underlying25 zeroValue25 Z ⟨sizeOf22, sizeOf23, trivial⟩ ⟨Z, (tm Z), trivial⟩ Z) (xc Z (op_alloc (cs := [.sl .full 3 (([] : List api.File).map api.File.av), .sl .full 3 (([] : List api.Fault).map api.Fault.av)]) (v := .agg [.sl .full 3 (([] : List api.File).map api.File.av), .sl .full 3 (([] : List api.Fault).map api.Fault.av)]) Z zeroValue25 Z Z Z ?_))))))))
 intro p201
 refine ac0 Z Z (op_store (i := 0) (cs' := [.sl .no 3 (d.Files.map api.File.av), .sl .full 3 (([] : List api.Fault).map api.Fault.av)]) Z sizeOf25 (tm Z) (v := .agg [.sl .no 3 (d.Files.map api.File.av), .sl .full 3 (([] : List api.Fault).map api.Fault.av)]) (tm Z) Z Z Z (nb Z) Z (xe (xr (xc Z (op_alloc (cs := [.str ([] : List UInt8), .i 0, .i 0]) (v := .agg [.str ([] : List UInt8), .i 0, .i 0]) Z zeroValue70 Z Z Z ?_)))))
 intro p202
 refine xe (xr (xa (.bool false) Z (pu_assign Z (AEv.bool _)) (xe ?_)))
 obtain ⟨s297, s297e, h299⟩ := bind_some h
 refine aw_meet (ν := Nat) (fun v => [(6, .ptr p199 0), (7, .ptr p200 0), (9, .ptr p201 0), (10, .ptr p202 0), (11, .bool s297.1)]) (fun v => [(p199, .cells [.sl .full 3 (([] : List api.File).map api.File.av), .sl .full 3 (([] : List api.Fault).map api.Fault.av)]), (p200, .cells [.str ([] : List UInt8), .i 0, .i 0]), (p201, .cells [.sl .no 3 (d.Files.map api.File.av), .sl (.own v) 3 (s297.2.1.map api.Fault.av)]), (p202, .cells [.str s297.2.2.1, .i s297.2.2.2.1, .i s297.2.2.2.2]), (v, .spare)]) ?_ ?_
 ·have h := s297e
  refine xr (xa (.i 0) Z (pu_assign Z (AEv.int _ _)) (xe (aw_block (aw_claimCell 1 1 Z Z fun t394 => (aw_while (σ := mewsref16.Meets.S0) (ν := Nat) (mewsref16.Meets.body0 d name kind) (fun s360 v => [(1, .str name), (2, .i kind), (3, .ptr p198 0), (6, .ptr p199 0), (7, .ptr p200 0), (9, .ptr p201 0), (10, .ptr p202 0), (11, .bool s360.is), (12, .i s360.i)]) (fun s360 v => [(p198, .cells [.sl .no 3 (d.Files.map api.File.av), .sl .no 3 (d.Faults.map api.Fault.av)]), (p199, .cells [.sl .full 3 (([] : List api.File).map api.File.av), .sl .full 3 (([] : List api.Fault).map api.Fault.av)]), (p200, .cells [.str ([] : List UInt8), .i 0, .i 0]), (p201, .cells [.sl .no 3 (d.Files.map api.File.av), .sl (.own v) 3 (s360.c.map api.Fault.av)]), (p202, .cells [.str s360.c2, .i s360.c3, .i s360.c4]), (v, .spare)]) ⟨false, 0, ([] : List api.Fault), ([] : List UInt8), 0, 0⟩ t394 _ h (Weak.mkL [5, 4, 3, 2, 1, 0] (by decide) ⟨⟨_, Z, cr, Z⟩, ⟨_, Z, cr, Z⟩, ⟨_, Z, cr, Z⟩, ⟨_, Z, cr, Z⟩, ⟨_, Z, cr, Z⟩, ⟨_, Z, Z⟩, trivial⟩ ⟨tm Z, tm Z, tm Z, tm Z, tm Z, tm Z, tm Z, tm Z, tm Z, trivial⟩) ?_)))))
  rintro s360 n361 x363 h hx362
  unfold mewsref16.Meets.body0 at h
  refine aw_seq (xr (xm Z Z Z (xa (.ptr p198 1) Z (fa Z underlying25 Z sizeOf23 Z Z Z) (xc Z (op_load1 (i := 0) Z isAgg23 (tm Z) Z Z (xa (.i (d.Faults.length : Int)) Z (pu_lenM Z underlying23 (tm Z)) (xa (.bool (decide (s360.i < (d.Faults.length : Int)))) Z (pu_int (v := .bool (decide (s360.i < (d.Faults.length : Int)))) Z Z (tm Z) (tm Z) Z) (xe (aw_cond (b := decide (s360.i < (d.Faults.length : Int))) (tm Z) (fun hb393 => ?_) (fun hb393 => ?_))))))))))
  ·replace h := ite_t (dec_t hb393) h
   refine aw_skip ?_
   obtain ⟨s377, s377e, h379⟩ := bind_some h
   refine aw_meet (ν := Nat) (fun v => [(1, .str name), (2, .i kind), (3, .ptr p198 0), (6, .ptr p199 0), (7, .ptr p200 0), (9, .ptr p201 0), (10, .ptr p202 0), (11, .bool s377.1), (12, .i s360.i)]) (fun v => [(p198, .cells [.sl .no 3 (d.Files.map api.File.av), .sl .no 3 (d.Faults.map api.Fault.av)]), (p199, .cells [.sl .full 3 (([] : List api.File).map api.File.av), .sl .full 3 (([] : List api.Fault).map api.Fault.av)]), (p200, .cells [.str ([] : List UInt8), .i 0, .i 0]), (p201, .cells [.sl .no 3 (d.Files.map api.File.av), .sl (.own v) 3 (s377.2.1.map api.Fault.av)]), (p202, .cells [.str s377.2.2.1, .i s377.2.2.2.1, .i s377.2.2.2.2]), (v, .spare)]) ?_ ?_
   ·have h := s377e
    refine aw_block (xr (xa (.ptr p198 1) Z (fa Z underlying25 Z sizeOf23 Z Z Z) (xc Z (op_load1 (i := 0) Z isAgg23 (tm Z) Z Z (xm Z Z Z ?_)))))
    obtain ⟨c381, h⟩ := need_of h
    refine xa (.vptr [.str (ix d.Faults s360.i).Name, .i (ix d.Faults s360.i).Kind, .i (ix d.Faults s360.i).Short]) Z (pu_indexAddrM Z underlying23 sizeOf70 (tm Z) (tm Z) c381 Z) (xc Z (op_loadVN Z isAgg70 sizeOf70 (tm Z) (nb Z) Z (xc Z (op_alloc (cs := [.str ([] : List UInt8), .i 0, .i 0]) (v := .agg [.str ([] : List UInt8), .i 0, .i 0]) Z zeroValue70 Z Z Z ?_))))
    intro p382
    refine ac0 Z Z (op_store (i := 0) (cs' := [.str (ix d.Faults s360.i).Name, .i (ix d.Faults s360.i).Kind, .i (ix d.Faults s360.i).Short]) Z sizeOf70 (tm Z) (v := .agg [.str (ix d.Faults s360.i).Name, .i (ix d.Faults s360.i).Kind, .i (ix d.Faults s360.i).Short]) (tm Z) Z Z Z (nb Z) Z (xe ?_))
    obtain ⟨s385, s385e, h386⟩ := letO_of h
    refine aw_meet (ν := Unit) (fun v => [(1, .str name), (2, .i kind), (3, .ptr p198 0), (6, .ptr p199 0), (7, .ptr p200 0), (9, .ptr p201 0), (10, .ptr p202 0), (11, .bool s360.is), (12, .i s360.i), (13, .ptr p382 0), (42, .bool s385)]) (fun v => [(p198, .cells [.sl .no 3 (d.Files.map api.File.av), .sl .no 3 (d.Faults.map api.Fault.av)]), (p199, .cells [.sl .full 3 (([] : List api.File).map api.File.av), .sl .full 3 (([] : List api.Fault).map api.Fault.av)]), (p200, .cells [.str ([] : List UInt8), .i 0, .i 0]), (p201, .cells [.sl .no 3 (d.Files.map api.File.av), .sl (.own n361) 3 (s360.c.map api.Fault.av)]), (p202, .cells [.str s360.c2, .i s360.c3, .i s360.c4]), (p382, .cells [.str (ix d.Faults s360.i).Name, .i (ix d.Faults s360.i).Kind, .i (ix d.Faults s360.i).Short]), (n361, .spare)]) ?_ ?_
    ·have h := s385e.symm
     refine aw_region (xm Z Z Z (xa (.bool (!s360.is)) Z (pu_not Z (tm Z)) (xm Z Z Z ?_)))
     rcases Bool.eq_false_or_eq_true (!s360.is) with hb388 | hb388
     ·replace h := ite_t hb388 h
      refine aops_known 31 Z hb388 (xp (.ptr p382 0) Z Z (fa Z underlying70 Z sizeOf9 Z Z Z) (xg Z Z (op_load1 (i := 0) Z isAgg9 (tm Z) Z Z (xq Z Z Z Z (xp (.bool (decide ((ix d.Faults s360.i).Name = name))) Z Z (pu_str (v := .bool (decide ((ix d.Faults s360.i).Name = name))) Z Z (tm Z) (tm Z) Z) (xa (.bool (decide ((ix d.Faults s360.i).Name = name))) Z (pu_pick (b := true) Z (tm Z) (fun _ => (tm Z)) (fun h => nomatch h)) (xm Z Z Z ?_)))))))
      rcases Bool.eq_false_or_eq_true (decide ((ix d.Faults s360.i).Name = name)) with hb389 | hb389
      ·replace h := ite_t (dec_t hb389) h
       refine aops_known 37 Z hb389 (xp (.ptr p382 1) Z Z (fa Z underlying70 Z sizeOf3 Z Z Z) (xg Z Z (op_load1 (i := 0) Z isAgg3 (tm Z) Z Z (xq Z Z Z Z (xp (.bool (decide ((ix d.Faults s360.i).Kind = kind))) Z Z (pu_int (v := .bool (decide ((ix d.Faults s360.i).Kind = kind))) Z Z (tm Z) (tm Z) Z) (xa (.bool (decide ((ix d.Faults s360.i).Kind = kind))) Z (pu_pick (b := true) Z (tm Z) (fun _ => (tm Z)) (fun h => nomatch h)) (xe ?_)))))))
       subst h
       exact ⟨(), Weak.mkL [1, 2, 3, 4, 5, 0, 6] (by decide) ⟨⟨_, Z, cr, Z⟩, ⟨_, Z, cr, Z⟩, ⟨_, Z, cr, Z⟩, ⟨_, Z, cr, Z⟩, ⟨_, Z, cr, Z⟩, ⟨_, Z, cr, Z⟩, ⟨_, Z, Z⟩, trivial⟩ ⟨tm Z, tm Z, tm Z, tm Z, tm Z, tm Z, tm Z, tm Z, tm Z, tm Z, (AEv.le (tm Z) vr), trivial⟩⟩
      ·replace h := ite_f (dec_f hb389) h
       refine aops_known 37 Z hb389 (xn Z Z Z (xn Z Z Z (xn Z Z Z (xn Z Z Z (xa (.bool false) Z (pu_pick (b := false) Z (tm Z) (fun h => nomatch h) (fun _ => (AEv.bool _))) (xe ?_))))))
       subst h
       exact ⟨(), Weak.mkL [1, 2, 3, 4, 5, 0, 6] (by decide) ⟨⟨_, Z, cr, Z⟩, ⟨_, Z, cr, Z⟩, ⟨_, Z, cr, Z⟩, ⟨_, Z, cr, Z⟩, ⟨_, Z, cr, Z⟩, ⟨_, Z, cr, Z⟩, ⟨_, Z, Z⟩, trivial⟩ ⟨tm Z, tm Z, tm Z, tm Z, tm Z, tm Z, tm Z, tm Z, tm Z, tm Z, tm Z, trivial⟩⟩
     ·replace h := ite_fb hb388 h
      refine aops_known 31 Z hb388 (xn Z Z Z (xn Z Z Z (xn Z Z Z (xn Z Z Z (xa (.bool false) Z (pu_pick (b := false) Z (tm Z) (fun h => nomatch h) (fun _ => (AEv.bool _))) (xm Z Z Z (xn Z Z Z (xn Z Z Z (xn Z Z Z ?_)))))))))
      refine xn Z Z Z (xa (.bool false) Z (pu_pick (b := false) Z (tm Z) (fun h => nomatch h) (fun _ => (AEv.bool _))) (xe ?_))
      subst h
      exact ⟨(), Weak.mkL [1, 2, 3, 4, 5, 0, 6] (by decide) ⟨⟨_, Z, cr, Z⟩, ⟨_, Z, cr, Z⟩, ⟨_, Z, cr, Z⟩, ⟨_, Z, cr, Z⟩, ⟨_, Z, cr, Z⟩, ⟨_, Z, cr, Z⟩, ⟨_, Z, Z⟩, trivial⟩ ⟨tm Z, tm Z, tm Z, tm Z, tm Z, tm Z, tm Z, tm Z, tm Z, tm Z, tm Z, trivial⟩⟩
    ·intro _
     have h := h386
     refine aw_cond (b := s385) (tm Z) (fun hb392 => ?_) (fun hb392 => ?_)
     ·replace h := ite_t hb392 h
      refine aw_region (xc Z (op_loadN (i := 5) Z isAgg70 sizeOf70 (tm Z) Z (nb Z) Z (ac0 Z Z (op_store (i := 4) (cs' := [.str (ix d.Faults s360.i).Name, .i (ix d.Faults s360.i).Kind, .i (ix d.Faults s360.i).Short]) Z sizeOf70 (tm Z) (v := .agg [.str (ix d.Faults s360.i).Name, .i (ix d.Faults s360.i).Kind, .i (ix d.Faults s360.i).Short]) (tm Z) Z Z Z (nb Z) Z (xa (.bool true) Z (pu_assign Z (AEv.bool _)) (xe ?_))))))
      obtain rfl := some_of h
      exact ⟨n361, Weak.mkL [0, 1, 2, 3, 4, 6] (by decide) ⟨⟨_, Z, cr, Z⟩, ⟨_, Z, cr, Z⟩, ⟨_, Z, cr, Z⟩, ⟨_, Z, cr, Z⟩, ⟨_, Z, cr, Z⟩, ⟨_, Z, Z⟩, trivial⟩ ⟨tm Z, tm Z, tm Z, tm Z, tm Z, tm Z, tm Z, tm Z, tm Z, trivial⟩⟩
     ·replace h := ite_fb hb392 h
      refine aw_region (xa (.ptr p201 1) Z (fa Z underlying25 Z sizeOf23 Z Z Z) (xc Z (op_load1 (i := 3) Z isAgg23 (tm Z) Z Z (xc Z (op_loadN (i := 5) Z isAgg70 sizeOf70 (tm Z) Z (nb Z) Z (xc Z (op_buildSlice (xs := ([(ix d.Faults s360.i)] : List api.Fault).map api.Fault.av) (aparts := [(0, .agg [.str (ix d.Faults s360.i).Name, .i (ix d.Faults s360.i).Kind, .i (ix d.Faults s360.i).Short])]) Z underlying23 sizeOf70 zeroValue70 (by decide) (by decide) ⟨Z, (tm Z), trivial⟩ Z Z Z ?_)))))))
      obtain ⟨c390, h⟩ := need_of h
      refine xc Z (op_appendOM (q := 6) Z underlying23 underlying23 (.inl Z) typeInfo70 Z Z Z (by decide) (tm Z) Z (given_sl (tm Z)) c390 ?_)
      intro t391
      refine xa (.ptr p201 1) Z (fa Z underlying25 Z sizeOf23 Z Z Z) (ac0 Z Z (op_store (i := 3) (cs' := [.sl .no 3 (d.Files.map api.File.av), .sl (.own t391) 3 ((s360.c ++ [(ix d.Faults s360.i)]).map api.Fault.av)]) Z sizeOf23 (tm Z) (v := .sl (.own t391) 3 ((s360.c ++ [(ix d.Faults s360.i)]).map api.Fault.av)) (tm Z) Z Z Z (nb Z) Z (xe ?_)))
      obtain rfl := some_of h
      exact ⟨t391, Weak.mkL [0, 1, 2, 3, 4, 6] (by decide) ⟨⟨_, Z, cr, Z⟩, ⟨_, Z, cr, Z⟩, ⟨_, Z, cr, Z⟩, ⟨_, Z, ⟨vr, vr, trivial⟩, Z⟩, ⟨_, Z, cr, Z⟩, ⟨_, Z, Z⟩, trivial⟩ ⟨tm Z, tm Z, tm Z, tm Z, tm Z, tm Z, tm Z, tm Z, tm Z, trivial⟩⟩
   ·intro n378
    have h := h379
    refine aw_region (xm Z Z Z (xa (.i (IntKind.wrap .i64 (s360.i + 1))) Z (pu_int (v := .i (IntKind.wrap .i64 (s360.i + 1))) Z Z (tm Z) (AEv.int _ _) Z) (xm Z Z Z (xe ?_))))
    obtain rfl := some_of h
    exact ⟨_, n378, Z, Weak.mkL [0, 1, 2, 3, 4, 5] (by decide) ⟨⟨_, Z, cr, Z⟩, ⟨_, Z, cr, Z⟩, ⟨_, Z, cr, Z⟩, ⟨_, Z, cr, Z⟩, ⟨_, Z, cr, Z⟩, ⟨_, Z, Z⟩, trivial⟩ ⟨tm Z, tm Z, tm Z, tm Z, tm Z, tm Z, tm Z, tm Z, (AEv.le (tm Z) vr), trivial⟩⟩
  ·replace h := ite_f (dec_f hb393) h
   refine aw_exit ?_
   obtain rfl := some_of h
   have h := congrArg some (hx362 _ rfl)
   obtain rfl := some_of h
   exact ⟨n361, Weak.mkL [1, 2, 3, 4, 5] (by decide) ⟨⟨_, Z, cr, Z⟩, ⟨_, Z, cr, Z⟩, ⟨_, Z, cr, Z⟩, ⟨_, Z, cr, Z⟩, ⟨_, Z, Z⟩, trivial⟩ ⟨tm Z, tm Z, tm Z, tm Z, tm Z, trivial⟩⟩
 ·intro n298
  have h := h299
  refine aw_seq (aw_planR (by decide +kernel) [[(2, 0, false)], [(3, 0, false)], [], [(0, 0, true)], [(1, 0, true)], []] [[3], [4], [], [], []] [[[(p199, .cells [.sl .full 3 (([] : List api.File).map api.File.av), .sl .full 3 (([] : List api.Fault).map api.Fault.av)])], [(p199, .cells [.sl .no 3 (d.Files.map api.File.av), .sl (.own n298) 3 (s297.2.1.map api.Fault.av)])]], [[(p200, .cells [.str ([] : List UInt8), .i 0, .i 0])], [(p200, .cells [.str s297.2.2.1, .i s297.2.2.2.1, .i s297.2.2.2.2])]], [[(p201, .cells [.sl .no 3 (d.Files.map api.File.av), .sl (.own n298) 3 (s297.2.1.map api.Fault.av)])]], [[(p202, .cells [.str s297.2.2.1, .i s297.2.2.2.1, .i s297.2.2.2.2])]], [[(n298, .spare)]]] [.agg [.sl .no 3 (d.Files.map api.File.av), .sl (.own n298) 3 (s297.2.1.map api.Fault.av)], .agg [.str s297.2.2.1, .i s297.2.2.2.1, .i s297.2.2.2.2], .bool s297.1, .un, .un, .bool s297.1] (by decide +kernel) Z Z ?_ ?_)
  ·exact ⟨stepg_plain Z (op_loadN (i := 0) Z isAgg25 sizeOf25 (tm Z) Z (nb Z) Z ⟨Z, Z⟩), stepg_plain Z (op_loadN (i := 0) Z isAgg70 sizeOf70 (tm Z) Z (nb Z) Z ⟨Z, Z⟩), ym Z Z Z, stepg_plain Z (op_store (i := 0) (cs' := [.sl .no 3 (d.Files.map api.File.av), .sl (.own n298) 3 (s297.2.1.map api.Fault.av)]) Z sizeOf25 (tm Z) (v := .agg [.sl .no 3 (d.Files.map api.File.av), .sl (.own n298) 3 (s297.2.1.map api.Fault.av)]) (tm Z) Z Z Z (nb Z) Z ⟨Z, Z⟩), stepg_plain Z (op_store (i := 0) (cs' := [.str s297.2.2.1, .i s297.2.2.2.1, .i s297.2.2.2.2]) Z sizeOf70 (tm Z) (v := .agg [.str s297.2.2.1, .i s297.2.2.2.1, .i s297.2.2.2.2]) (tm Z) Z Z Z (nb Z) Z ⟨Z, Z⟩), ym Z Z Z, trivial⟩
  refine aw_ret ?_
  obtain rfl := some_of h
  exact ⟨[.agg [.sl .no 3 (d.Files.map api.File.av), .sl (.own n298) 3 (s297.2.1.map api.Fault.av)], .agg [.str s297.2.2.1, .i s297.2.2.2.1, .i s297.2.2.2.2], .bool s297.1], .tup [.agg [.sl .no 3 (d.Files.map api.File.av), .sl (.own n298) 3 (s297.2.1.map api.Fault.av)], .agg [.str s297.2.2.1, .i s297.2.2.2.1, .i s297.2.2.2.2], .bool s297.1], [(n298, .spare)], ⟨(CellOk.agg 0 (tm Z) Z isAgg25 sizeOf25 (nb Z) Z), (CellOk.agg 1 (tm Z) Z isAgg70 sizeOf70 (nb Z) Z), (tm Z), trivial⟩, (AV.Le.tup cr), Weak.mkL [4] (by decide) ⟨⟨_, Z, Z⟩, trivial⟩ trivial, ⟨n298, Z, Z⟩⟩

theorem mewsref16.between.ok {n_ : Int} {most : Int} {r : Int} (h : mewsref16.between n_ most = some r) : Go.Lift.Spec prog 40 [.i n_, .i most] [] (fun v H => v = .i r ∧ H = []) := by
 unfold mewsref16.between at h
 refine Go.Lift.Spec.of_body (rs := [.tmp 4]) func40 Z Z (nb Z) Z (xr (xa (.i 0) Z (pu_assign Z (AEv.int _ _)) (xe (aw_seq (xr (xm Z Z Z (xa (.bool (decide (n_ < 0))) Z (pu_int (v := .bool (decide (n_ < 0))) Z Z (tm Z) (AEv.int _ _) Z) ?_)))))))
 refine xe (aw_cond (b := decide (n_ < 0)) (tm Z) (fun hb4 => ?_) (fun hb4 => ?_))
 ·replace h := ite_t (dec_t hb4) h
  refine xr (xa (.i 0) Z (pu_assign Z (AEv.int _ _)) (xe (aw_ret ?_)))
  obtain rfl := some_of h
  exact ⟨[.i 0], _, [], ⟨(tm Z), trivial⟩, vr, Weak.mkL [] (by decide) trivial trivial, ⟨Z, Z⟩⟩
 ·replace h := ite_f (dec_f hb4) h
  refine aw_skip (aw_seq (xr (xm Z Z Z (xm Z Z Z (xa (.bool (decide (most < n_))) Z (pu_int (v := .bool (decide (most < n_))) Z Z (tm Z) (tm Z) Z) (xe (aw_cond (b := decide (most < n_)) (tm Z) (fun hb3 => ?_) (fun hb3 => ?_))))))))
  ·replace h := ite_t (dec_t hb3) h
   refine xr (xm Z Z Z (xm Z Z Z (xe (aw_ret ?_))))
   obtain rfl := some_of h
   exact ⟨[.i most], _, [], ⟨(tm Z), trivial⟩, vr, Weak.mkL [] (by decide) trivial trivial, ⟨Z, Z⟩⟩
  ·replace h := ite_f (dec_f hb3) h
   refine aw_skip (xr (xm Z Z Z (xm Z Z Z (xe (aw_ret ?_)))))
   obtain rfl := some_of h
   exact ⟨[.i n_], _, [], ⟨(tm Z), trivial⟩, vr, Weak.mkL [] (by decide) trivial trivial, ⟨Z, Z⟩⟩

theorem mewsref16.Find.ok {d : api.Disk} {name : List UInt8} {r : api.File × Bool} (h : mewsref16.Find d name = some r) : Go.Lift.Spec prog 16 [.agg [.sl .no 3 (d.Files.map api.File.av), .sl .no 3 (d.Faults.map api.Fault.av)], .str name] [] (fun v H => v = .tup [.agg [.str r.1.Name, .str r.1.Data, .i r.1.Synced], .bool r.2] ∧ H = []) := by
 unfold mewsref16.Find at h
 refine Go.Lift.Spec.of_body (rs := [.cell 4 48, .tmp 5]) func16 Z Z (nb Z) Z (xr (xc Z (op_box (cs := [.sl .no 3 (d.Files.map api.File.av), .sl .no 3 (d.Faults.map api.Fault.av)]) (v := .agg [.sl .no 3 (d.Files.map api.File.av), .sl .no 3 (d.Faults.map api.Fault.av)]) Z (tm Z) Z Z ?_)))
 intro p49
 refine xc Z (op_alloc (cs := [.str ([] : List UInt8), .str ([] : List UInt8), .i 0]) (v := .agg [.str ([] : List UInt8), .str ([] : List UInt8), .i 0]) Z zeroValue48 Z Z Z ?_)
 intro p50
 refine xa (.bool false) Z (pu_assign Z (AEv.bool _)) (xe ?_)
 obtain ⟨s96, s96e, h73⟩ := bind_some h
 refine aw_join (σ := Unit) (ν := Unit) (fun u v => [(4, .ptr p50 0)]) (fun u v => [(p50, .cells [.str ([] : List UInt8), .str ([] : List UInt8), .i 0])]) (fun u => s96 = .inl u) ?_ ?_
 ·intro s72
  intro _
  rintro rfl
  have h := onSum_inl h73
  refine xr (xa (.agg [.str ([] : List UInt8), .str ([] : List UInt8), .i 0]) Z (pu_build (zs := [.str ([] : List UInt8), .str ([] : List UInt8), .i 0]) (szs := [1, 1, 1]) (aparts := []) (cs := [.str ([] : List UInt8), .str ([] : List UInt8), .i 0]) Z underlying48 zeroValue48 Z ⟨sizeOf9, sizeOf9, sizeOf3, trivial⟩ trivial Z) (ac0 Z Z (op_store (i := 0) (cs' := [.str ([] : List UInt8), .str ([] : List UInt8), .i 0]) Z sizeOf48 (tm Z) (v := .agg [.str ([] : List UInt8), .str ([] : List UInt8), .i 0]) (tm Z) Z Z Z (nb Z) Z (xa (.bool false) Z (pu_assign Z (AEv.bool _)) (xe (aw_ret ?_))))))
  obtain rfl := some_of h
  exact ⟨[.agg [.str ([] : List UInt8), .str ([] : List UInt8), .i 0], .bool false], .tup [.agg [.str ([] : List UInt8), .str ([] : List UInt8), .i 0], .bool false], [], ⟨(CellOk.agg 0 (tm Z) Z isAgg48 sizeOf48 (nb Z) Z), (tm Z), trivial⟩, (AV.Le.tup cr), Weak.mkL [] (by decide) trivial trivial, ⟨Z, Z⟩⟩
 ·have h := s96e
  refine xr (xa (.i 0) Z (pu_assign Z (AEv.int _ _)) (xe (aw_block (aw_while (σ := mewsref16.Find.S0) (ν := Unit) (mewsref16.Find.body0 d name) (fun s87 v => [(1, .str name), (2, .ptr p49 0), (4, .ptr p50 0), (6, .i s87.i)]) (fun s87 v => [(p49, .cells [.sl .no 3 (d.Files.map api.File.av), .sl .no 3 (d.Faults.map api.Fault.av)]), (p50, .cells [.str ([] : List UInt8), .str ([] : List UInt8), .i 0])]) ⟨0⟩ () _ h (Weak.mkL [1, 0] (by decide) ⟨⟨_, Z, cr, Z⟩, ⟨_, Z, cr, Z⟩, trivial⟩ ⟨tm Z, tm Z, tm Z, tm Z, trivial⟩) ?_))))
  rintro s87 _ x89 h hx88
  unfold mewsref16.Find.body0 at h
  refine aw_seq (xr (xm Z Z Z (xa (.ptr p49 0) Z (fa Z underlying25 Z sizeOf22 Z Z Z) (xc Z (op_load1 (i := 0) Z isAgg22 (tm Z) Z Z (xa (.i (d.Files.length : Int)) Z (pu_lenM Z underlying22 (tm Z)) (xa (.bool (decide (s87.i < (d.Files.length : Int)))) Z (pu_int (v := .bool (decide (s87.i < (d.Files.length : Int)))) Z Z (tm Z) (tm Z) Z) (xe (aw_cond (b := decide (s87.i < (d.Files.length : Int))) (tm Z) (fun hb95 => ?_) (fun hb95 => ?_))))))))))
  ·replace h := ite_t (dec_t hb95) h
   refine aw_skip (aw_seq (aw_block (xr (xa (.ptr p49 0) Z (fa Z underlying25 Z sizeOf22 Z Z Z) (xc Z (op_load1 (i := 0) Z isAgg22 (tm Z) Z Z (xm Z Z Z ?_)))))))
   obtain ⟨c91, h⟩ := need_of h
   refine xa (.vptr [.str (ix d.Files s87.i).Name, .str (ix d.Files s87.i).Data, .i (ix d.Files s87.i).Synced]) Z (pu_indexAddrM Z underlying22 sizeOf48 (tm Z) (tm Z) c91 Z) (xc Z (op_loadVN Z isAgg48 sizeOf48 (tm Z) (nb Z) Z (xc Z (op_alloc (cs := [.str ([] : List UInt8), .str ([] : List UInt8), .i 0]) (v := .agg [.str ([] : List UInt8), .str ([] : List UInt8), .i 0]) Z zeroValue48 Z Z Z ?_))))
   intro p92
   refine ac0 Z Z (op_store (i := 0) (cs' := [.str (ix d.Files s87.i).Name, .str (ix d.Files s87.i).Data, .i (ix d.Files s87.i).Synced]) Z sizeOf48 (tm Z) (v := .agg [.str (ix d.Files s87.i).Name, .str (ix d.Files s87.i).Data, .i (ix d.Files s87.i).Synced]) (tm Z) Z Z Z (nb Z) Z (xe (xr (xa (.ptr p92 0) Z (fa Z underlying48 Z sizeOf9 Z Z Z) (xc Z (op_load1 (i := 0) Z isAgg9 (tm Z) Z Z (xm Z Z Z (xa (.bool (decide ((ix d.Files s87.i).Name = name))) Z (pu_str (v := .bool (decide ((ix d.Files s87.i).Name = name))) Z Z (tm Z) (tm Z) Z) (xe (aw_cond (b := decide ((ix d.Files s87.i).Name = name)) (tm Z) (fun hb94 => ?_) (fun hb94 => ?_)))))))))))
   ·replace h := ite_t (dec_t hb94) h
    refine xr (xa (.ptr p92 2) Z (fa Z underlying48 Z sizeOf3 Z Z Z) (xc Z (op_load1 (i := 0) Z isAgg3 (tm Z) Z Z (xa (.ptr p92 1) Z (fa Z underlying48 Z sizeOf9 Z Z Z) (xc Z (op_load1 (i := 0) Z isAgg9 (tm Z) Z Z (xa (.i ((ix d.Files s87.i).Data.length : Int)) Z (pu_strLen Z underlying9 (tm Z)) ?_)))))))
    obtain ⟨r93, r93e, h⟩ := bind_some h
    refine xc Z (op_call (vs := [.i (ix d.Files s87.i).Synced, .i ((ix d.Files s87.i).Data.length : Int)]) (H := []) Z call40 ⟨(tm Z), (tm Z), trivial⟩ (List.Perm.refl _) (mewsref16.between.ok r93e) ?_)
    rintro _ _ ⟨rfl, rfl⟩
    refine xa (.ptr p92 2) Z (fa Z underlying48 Z sizeOf3 Z Z Z) (ac0 Z Z (op_store (i := 0) (cs' := [.str (ix d.Files s87.i).Name, .str (ix d.Files s87.i).Data, .i r93]) Z sizeOf3 (tm Z) (v := .i r93) (tm Z) Z Z Z (nb Z) Z (xe (xr (xc Z (op_loadN (i := 0) Z isAgg48 sizeOf48 (tm Z) Z (nb Z) Z (ac0 Z Z (op_store (i := 2) (cs' := [.str (ix d.Files s87.i).Name, .str (ix d.Files s87.i).Data, .i r93]) Z sizeOf48 (tm Z) (v := .agg [.str (ix d.Files s87.i).Name, .str (ix d.Files s87.i).Data, .i r93]) (tm Z) Z Z Z (nb Z) Z (xa (.bool true) Z (pu_assign Z (AEv.bool _)) (xe (aw_ret ?_)))))))))))
    obtain rfl := some_of h
    have h := congrArg some (hx88 _ rfl)
    obtain rfl := some_of h
    have h := onSum_inr h73
    obtain rfl := some_of h
    exact ⟨[.agg [.str (ix d.Files s87.i).Name, .str (ix d.Files s87.i).Data, .i r93], .bool true], .tup [.agg [.str (ix d.Files s87.i).Name, .str (ix d.Files s87.i).Data, .i r93], .bool true], [], ⟨(CellOk.agg 2 (tm Z) Z isAgg48 sizeOf48 (nb Z) Z), (tm Z), trivial⟩, (AV.Le.tup cr), Weak.mkL [] (by decide) trivial trivial, ⟨Z, Z⟩⟩
   ·replace h := ite_f (dec_f hb94) h
    refine aw_skip (aw_region (xm Z Z Z (xa (.i (IntKind.wrap .i64 (s87.i + 1))) Z (pu_int (v := .i (IntKind.wrap .i64 (s87.i + 1))) Z Z (tm Z) (AEv.int _ _) Z) (xm Z Z Z (xe ?_)))))
    obtain rfl := some_of h
    exact ⟨_, (), Z, Weak.mkL [1, 2] (by decide) ⟨⟨_, Z, cr, Z⟩, ⟨_, Z, cr, Z⟩, trivial⟩ ⟨tm Z, tm Z, tm Z, (AEv.le (tm Z) vr), trivial⟩⟩
  ·replace h := ite_f (dec_f hb95) h
   refine aw_exit ?_
   obtain rfl := some_of h
   have h := congrArg some (hx88 _ rfl)
   exact ⟨(), (), (some_of h).symm, Weak.mkL [1] (by decide) ⟨⟨_, Z, cr, Z⟩, trivial⟩ ⟨tm Z, trivial⟩⟩

theorem mewsref16.Files.ok {d : api.Disk} {r : List api.File} (h : mewsref16.Files d = some r) : Go.Lift.Spec prog 18 [.agg [.sl .no 3 (d.Files.map api.File.av), .sl .no 3 (d.Faults.map api.Fault.av)]] [] (fun v H => ∃ n0, v = .sl (.own n0) 3 (r.map api.File.av) ∧ H = [(n0, .spare)]) := by
 unfold mewsref16.Files at h
 refine Go.Lift.Spec.of_body (rs := [.tmp 2]) func18 Z Z (nb Z) Z (xr (xc Z (op_box (cs := [.sl .no 3 (d.Files.map api.File.av), .sl .no 3 (d.Faults.map api.Fault.av)]) (v := .agg [.sl .no 3 (d.Files.map api.File.av), .sl .no 3 (d.Faults.map api.Fault.av)]) Z (tm Z) Z Z ?_)))
 intro p980
 refine xa (.sl .full 3 (([] : List api.File).map api.File.av)) Z (pu_assign Z (AEv.nil 3 (by decide))) (xe (xr (xa (.sl .full 3 (([] : List api.File).map api.File.av)) Z (pu_assign Z (AEv.nil 3 (by decide))) (xe ?_))))
 obtain ⟨s1468, s1468e, h1470⟩ := bind_some h
 refine aw_meet (ν := Nat) (fun v => [(3, .sl (.own v) 3 (s1468.map api.File.av))]) (fun v => [(v, .spare)]) ?_ ?_
 ·have h := s1468e
  refine xr (xa (.i 0) Z (pu_assign Z (AEv.int _ _)) (xe (aw_block (aw_claim 3 (tm Z) fun t1958 => (aw_while (σ := mewsref16.Files.S0) (ν := Nat) (mewsref16.Files.body0 d) (fun s1794 v => [(1, .ptr p980 0), (3, .sl (.own v) 3 (s1794.out.map api.File.av)), (4, .i s1794.i)]) (fun s1794 v => [(p980, .cells [.sl .no 3 (d.Files.map api.File.av), .sl .no 3 (d.Faults.map api.Fault.av)]), (v, .spare)]) ⟨([] : List api.File), 0⟩ t1958 _ h (Weak.mkL [1, 0] (by decide) ⟨⟨_, Z, cr, Z⟩, ⟨_, Z, Z⟩, trivial⟩ ⟨tm Z, tm Z, tm Z, trivial⟩) ?_)))))
  rintro s1794 n1795 x1797 h hx1796
  unfold mewsref16.Files.body0 at h
  refine aw_seq (xr (xm Z Z Z (xa (.ptr p980 0) Z (fa Z underlying25 Z sizeOf22 Z Z Z) (xc Z (op_load1 (i := 0) Z isAgg22 (tm Z) Z Z (xa (.i (d.Files.length : Int)) Z (pu_lenM Z underlying22 (tm Z)) (xa (.bool (decide (s1794.i < (d.Files.length : Int)))) Z (pu_int (v := .bool (decide (s1794.i < (d.Files.length : Int)))) Z Z (tm Z) (tm Z) Z) (xe (aw_cond (b := decide (s1794.i < (d.Files.length : Int))) (tm Z) (fun hb1957 => ?_) (fun hb1957 => ?_))))))))))
  ·replace h := ite_t (dec_t hb1957) h
   refine aw_skip ?_
   obtain ⟨s1876, s1876e, h1878⟩ := bind_some h
   refine aw_meet (ν := Nat) (fun v => [(1, .ptr p980 0), (3, .sl (.own v) 3 (s1876.map api.File.av)), (4, .i s1794.i)]) (fun v => [(p980, .cells [.sl .no 3 (d.Files.map api.File.av), .sl .no 3 (d.Faults.map api.Fault.av)]), (v, .spare)]) ?_ ?_
   ·have h := s1876e
    refine aw_block (xr (xa (.bool false) Z (pu_assign Z (AEv.bool _)) (xe ?_)))
    obtain ⟨s1914, s1914e, h1915⟩ := bind_some h
    refine aw_meet (ν := Unit) (fun v => [(1, .ptr p980 0), (3, .sl (.own n1795) 3 (s1794.out.map api.File.av)), (4, .i s1794.i), (5, .bool s1914)]) (fun v => [(p980, .cells [.sl .no 3 (d.Files.map api.File.av), .sl .no 3 (d.Faults.map api.Fault.av)]), (n1795, .spare)]) ?_ ?_
    ·have h := s1914e
     refine xr (xa (.i 0) Z (pu_assign Z (AEv.int _ _)) (xe (aw_block (aw_while (σ := mewsref16.Files.S2) (ν := Unit) (mewsref16.Files.body2 s1794 d) (fun s1937 v => [(1, .ptr p980 0), (3, .sl (.own n1795) 3 (s1794.out.map api.File.av)), (4, .i s1794.i), (5, .bool s1937.met), (6, .i s1937.k)]) (fun s1937 v => [(p980, .cells [.sl .no 3 (d.Files.map api.File.av), .sl .no 3 (d.Faults.map api.Fault.av)]), (n1795, .spare)]) ⟨false, 0⟩ () _ h (Weak.mkL [0, 1] (by decide) ⟨⟨_, Z, cr, Z⟩, ⟨_, Z, Z⟩, trivial⟩ ⟨tm Z, tm Z, tm Z, tm Z, tm Z, trivial⟩) ?_))))
     rintro s1937 _ x1939 h hx1938
     unfold mewsref16.Files.body2 at h
     refine aw_seq (xr (xm Z Z Z (xm Z Z Z (xa (.bool (decide (s1937.k < s1794.i))) Z (pu_int (v := .bool (decide (s1937.k < s1794.i))) Z Z (tm Z) (tm Z) Z) (xe (aw_cond (b := decide (s1937.k < s1794.i)) (tm Z) (fun hb1950 => ?_) (fun hb1950 => ?_)))))))
     ·replace h := ite_t (dec_t hb1950) h
      refine aw_skip ?_
      obtain ⟨s1944, s1944e, h1945⟩ := bind_some h
      refine aw_meet (ν := Unit) (fun v => [(1, .ptr p980 0), (3, .sl (.own n1795) 3 (s1794.out.map api.File.av)), (4, .i s1794.i), (5, .bool s1944), (6, .i s1937.k)]) (fun v => [(p980, .cells [.sl .no 3 (d.Files.map api.File.av), .sl .no 3 (d.Faults.map api.Fault.av)]), (n1795, .spare)]) ?_ ?_
      ·have h := s1944e
       refine aw_block ?_
       rcases Bool.eq_false_or_eq_true s1937.met with hb1947 | hb1947
       ·replace h := ite_t hb1947 h
        refine aw_planR (by decide +kernel) [[], [], [], [], [], [], [], [], [], [], [], [], [], [], [], [], []] [[], []] [[[(p980, .cells [.sl .no 3 (d.Files.map api.File.av), .sl .no 3 (d.Faults.map api.Fault.av)])]], [[(n1795, .spare)]]] [.bool s1937.met, .bool true, .lit undef, .lit undef, .lit undef, .lit undef, .lit undef, .lit undef, .lit undef, .lit undef, .lit undef, .lit undef, .lit undef, .lit undef, .lit undef, .bool true, .bool true] (by decide +kernel) Z Z ?_ ?_
        ·exact ⟨ym Z Z Z, AStepG.cast (ym Z Z Z) (congrArg AV.bool hb1947), yx Z Z Z, yx Z Z Z, yx Z Z Z, yx Z Z Z, yx Z Z Z, yx Z Z Z, yx Z Z Z, yx Z Z Z, yx Z Z Z, yx Z Z Z, yx Z Z Z, yx Z Z Z, yx Z Z Z, yp Z (pu_pick (b := true) Z (tm Z) (fun _ => (AEv.bool _)) (fun h => nomatch h)), ym Z Z Z, trivial⟩
        obtain rfl := some_of h
        exact ⟨(), Weak.mkL [0, 1] (by decide) ⟨⟨_, Z, cr, Z⟩, ⟨_, Z, Z⟩, trivial⟩ ⟨tm Z, tm Z, tm Z, tm Z, tm Z, trivial⟩⟩
       ·replace h := ite_fb hb1947 h
        obtain ⟨c1948, h⟩ := need_of h
        obtain ⟨c1949, h⟩ := need_of h
        refine aw_planR (by decide +kernel) [[], [], [], [(0, 0, false)], [], [], [], [], [], [(0, 0, false)], [], [], [], [], [], [], []] [[], []] [[[(p980, .cells [.sl .no 3 (d.Files.map api.File.av), .sl .no 3 (d.Faults.map api.Fault.av)])]], [[(n1795, .spare)]]] [.bool s1937.met, .bool false, .ptr p980 0, .sl .no 3 (d.Files.map api.File.av), .i s1937.k, .vptr [.str (ix d.Files s1937.k).Name, .str (ix d.Files s1937.k).Data, .i (ix d.Files s1937.k).Synced], .vptr [.str (ix d.Files s1937.k).Name, .str (ix d.Files s1937.k).Data, .i (ix d.Files s1937.k).Synced], .str (ix d.Files s1937.k).Name, .ptr p980 0, .sl .no 3 (d.Files.map api.File.av), .i s1794.i, .vptr [.str (ix d.Files s1794.i).Name, .str (ix d.Files s1794.i).Data, .i (ix d.Files s1794.i).Synced], .vptr [.str (ix d.Files s1794.i).Name, .str (ix d.Files s1794.i).Data, .i (ix d.Files s1794.i).Synced], .str (ix d.Files s1794.i).Name, .bool (decide ((ix d.Files s1937.k).Name = (ix d.Files s1794.i).Name)), .bool (decide ((ix d.Files s1937.k).Name = (ix d.Files s1794.i).Name)), .bool (decide ((ix d.Files s1937.k).Name = (ix d.Files s1794.i).Name))] (by decide +kernel) Z Z ?_ ?_
        ·exact ⟨ym Z Z Z, AStepG.cast (ym Z Z Z) (congrArg AV.bool hb1947), yq Z Z (fa Z underlying25 Z sizeOf22 Z Z Z), yg Z Z (op_load1 (i := 0) Z isAgg22 (tm Z) Z Z ⟨Z, Z⟩), yq Z Z (pu_move Z (tm Z)), yq Z Z (pu_indexAddrM Z underlying22 sizeOf48 (tm Z) (tm Z) c1948 Z), yq Z Z (fa Z underlying48 Z sizeOf9 Z Z Z), yg Z Z (op_loadV1 Z isAgg9 (tm Z) Z ⟨Z, Z⟩), yq Z Z (fa Z underlying25 Z sizeOf22 Z Z Z), yg Z Z (op_load1 (i := 0) Z isAgg22 (tm Z) Z Z ⟨Z, Z⟩), yq Z Z (pu_move Z (tm Z)), yq Z Z (pu_indexAddrM Z underlying22 sizeOf48 (tm Z) (tm Z) c1949 Z), yq Z Z (fa Z underlying48 Z sizeOf9 Z Z Z), yg Z Z (op_loadV1 Z isAgg9 (tm Z) Z ⟨Z, Z⟩), yq Z Z (pu_str (v := .bool (decide ((ix d.Files s1937.k).Name = (ix d.Files s1794.i).Name))) Z Z (tm Z) (tm Z) Z), yp Z (pu_pick (b := false) Z (tm Z) (fun h => nomatch h) (fun _ => (tm Z))), ym Z Z Z, trivial⟩
        obtain rfl := some_of h
        exact ⟨(), Weak.mkL [0, 1] (by decide) ⟨⟨_, Z, cr, Z⟩, ⟨_, Z, Z⟩, trivial⟩ ⟨tm Z, tm Z, tm Z, (AEv.le (tm Z) vr), tm Z, trivial⟩⟩
      ·intro _
       have h := h1945
       refine aw_region (xm Z Z Z (xa (.i (IntKind.wrap .i64 (s1937.k + 1))) Z (pu_int (v := .i (IntKind.wrap .i64 (s1937.k + 1))) Z Z (tm Z) (AEv.int _ _) Z) (xm Z Z Z (xe ?_))))
       obtain rfl := some_of h
       exact ⟨_, (), Z, Weak.mkL [0, 1] (by decide) ⟨⟨_, Z, cr, Z⟩, ⟨_, Z, Z⟩, trivial⟩ ⟨tm Z, tm Z, tm Z, tm Z, (AEv.le (tm Z) vr), trivial⟩⟩
     ·replace h := ite_f (dec_f hb1950) h
      refine aw_exit ?_
      obtain rfl := some_of h
      have h := congrArg some (hx1938 _ rfl)
      obtain rfl := some_of h
      exact ⟨(), Weak.mkL [0, 1] (by decide) ⟨⟨_, Z, cr, Z⟩, ⟨_, Z, Z⟩, trivial⟩ ⟨tm Z, tm Z, tm Z, tm Z, trivial⟩⟩
    ·intro _
     have h := h1915
     refine xr (xm Z Z Z (xa (.bool (!s1914)) Z (pu_not Z (tm Z)) (xe (aw_cond (b := (!s1914)) (tm Z) (fun hb1956 => ?_) (fun hb1956 => ?_)))))
     ·replace h := ite_t hb1956 h
      refine aw_seq ?_
      obtain ⟨c1951, h⟩ := need_of h
      obtain ⟨r1952, r1952e, h⟩ := bind_some h
      refine aw_reserve fun p1953 => (aw_planR (by decide +kernel) [[(1, 0, false)], [], [(1, 0, false)], [], [], [], [], [], [], [], [], [(0, 0, true)], [(0, 1, true)], []] [[11, 12], [], []] [[[(p1953, .resv)], [(p1953, .cells [.str ([] : List UInt8), .str ([] : List UInt8), .i 0])], [(p1953, .cells [.str r1952.1.Name, .str r1952.1.Data, .i r1952.1.Synced])]], [[(p980, .cells [.sl .no 3 (d.Files.map api.File.av), .sl .no 3 (d.Faults.map api.Fault.av)])]], [[(n1795, .spare)]]] [.agg [.sl .no 3 (d.Files.map api.File.av), .sl .no 3 (d.Faults.map api.Fault.av)], .ptr p980 0, .sl .no 3 (d.Files.map api.File.av), .i s1794.i, .vptr [.str (ix d.Files s1794.i).Name, .str (ix d.Files s1794.i).Data, .i (ix d.Files s1794.i).Synced], .vptr [.str (ix d.Files s1794.i).Name, .str (ix d.Files s1794.i).Data, .i (ix d.Files s1794.i).Synced], .str (ix d.Files s1794.i).Name, .tup [.agg [.str r1952.1.Name, .str r1952.1.Data, .i r1952.1.Synced], .bool r1952.2], .tup [.agg [.str r1952.1.Name, .str r1952.1.Data, .i r1952.1.Synced], .bool r1952.2], .agg [.str r1952.1.Name, .str r1952.1.Data, .i r1952.1.Synced], .bool r1952.2, .ptr p1953 0, .un, .bool r1952.2] (by decide +kernel) Z Z ?_ ?_)
      ·exact ⟨stepg_plain Z (op_loadN (i := 0) Z isAgg25 sizeOf25 (tm Z) Z (nb Z) Z ⟨Z, Z⟩), yp Z (fa Z underlying25 Z sizeOf22 Z Z Z), stepg_plain Z (op_load1 (i := 0) Z isAgg22 (tm Z) Z Z ⟨Z, Z⟩), ym Z Z Z, yp Z (pu_indexAddrM Z underlying22 sizeOf48 (tm Z) (tm Z) c1951 Z), yp Z (fa Z underlying48 Z sizeOf9 Z Z Z), stepg_plain Z (op_loadV1 Z isAgg9 (tm Z) Z ⟨Z, Z⟩), stepg_plain Z (op_call (vs := [.agg [.sl .no 3 (d.Files.map api.File.av), .sl .no 3 (d.Faults.map api.Fault.av)], .str (ix d.Files s1794.i).Name]) (H := []) Z call16 ⟨(tm Z), (tm Z), trivial⟩ (R := []) (List.Perm.refl _) (mewsref16.Find.ok r1952e) (by rintro _ _ ⟨rfl, rfl⟩; exact ⟨Z, Z⟩)), ym Z Z Z, yp Z (pu_extract Z (tm Z) (nb Z) Z), yp Z (pu_extract Z (tm Z) (nb Z) Z), stepg_plain Z (aop_settleP (op_alloc (cs := [.str ([] : List UInt8), .str ([] : List UInt8), .i 0]) (v := .agg [.str ([] : List UInt8), .str ([] : List UInt8), .i 0]) Z zeroValue48 Z Z Z fun t => ⟨t, Z, Z⟩) ⟨Z, Z⟩), stepg_plain Z (op_store (i := 0) (cs' := [.str r1952.1.Name, .str r1952.1.Data, .i r1952.1.Synced]) Z sizeOf48 (tm Z) (v := .agg [.str r1952.1.Name, .str r1952.1.Data, .i r1952.1.Synced]) (tm Z) Z Z Z (nb Z) Z ⟨Z, Z⟩), ym Z Z Z, trivial⟩
      refine aw_region (xm Z Z Z (xc Z (op_loadN (i := 0) Z isAgg48 sizeOf48 (tm Z) Z (nb Z) Z (xc Z (op_buildSlice (xs := ([r1952.1] : List api.File).map api.File.av) (aparts := [(0, .agg [.str r1952.1.Name, .str r1952.1.Data, .i r1952.1.Synced])]) Z underlying22 sizeOf48 zeroValue48 (by decide) (by decide) ⟨Z, (tm Z), trivial⟩ Z Z Z ?_)))))
      obtain ⟨c1954, h⟩ := need_of h
      refine xc Z (op_appendOM (q := 2) Z underlying22 underlying22 (.inl Z) typeInfo48 Z Z Z (by decide) (tm Z) Z (given_sl (tm Z)) c1954 ?_)
      intro t1955
      refine xm Z Z Z (xe ?_)
      obtain rfl := some_of h
      exact ⟨t1955, Weak.mkL [1, 2] (by decide) ⟨⟨_, Z, cr, Z⟩, ⟨_, Z, Z⟩, trivial⟩ ⟨tm Z, (AEv.le (tm Z) vr), tm Z, trivial⟩⟩
     ·replace h := ite_fb hb1956 h
      refine aw_skip ?_
      obtain rfl := some_of h
      exact ⟨n1795, Weak.mkL [0, 1] (by decide) ⟨⟨_, Z, cr, Z⟩, ⟨_, Z, Z⟩, trivial⟩ ⟨tm Z, tm Z, tm Z, trivial⟩⟩
   ·intro n1877
    have h := h1878
    refine aw_region (xm Z Z Z (xa (.i (IntKind.wrap .i64 (s1794.i + 1))) Z (pu_int (v := .i (IntKind.wrap .i64 (s1794.i + 1))) Z Z (tm Z) (AEv.int _ _) Z) (xm Z Z Z (xe ?_))))
    obtain rfl := some_of h
    exact ⟨_, n1877, Z, Weak.mkL [0, 1] (by decide) ⟨⟨_, Z, cr, Z⟩, ⟨_, Z, Z⟩, trivial⟩ ⟨tm Z, tm Z, (AEv.le (tm Z) vr), trivial⟩⟩
  ·replace h := ite_f (dec_f hb1957) h
   refine aw_exit ?_
   obtain rfl := some_of h
   have h := congrArg some (hx1796 _ rfl)
   obtain rfl := some_of h
   exact ⟨n1795, Weak.mkL [1] (by decide) ⟨⟨_, Z, Z⟩, trivial⟩ ⟨tm Z, trivial⟩⟩
 ·intro n1469
  have h := h1470
  refine xr (xm Z Z Z (xm Z Z Z (xe (aw_ret ?_))))
  obtain rfl := some_of h
  exact ⟨[.sl (.own n1469) 3 (s1468.map api.File.av)], _, [(n1469, .spare)], ⟨(tm Z), trivial⟩, vr, Weak.mkL [0] (by decide) ⟨⟨_, Z, Z⟩, trivial⟩ trivial, ⟨n1469, Z, Z⟩⟩

theorem mewsref16.with_.ok {d : api.Disk} {f : api.File} {r : api.Disk} (h : mewsref16.with_ d f = some r) : Go.Lift.Spec prog 53 [.agg [.sl .no 3 (d.Files.map api.File.av), .sl .no 3 (d.Faults.map api.Fault.av)], .agg [.str f.Name, .str f.Data, .i f.Synced]] [] (fun v H => ∃ n0, v = .agg [.sl (.own n0) 3 (r.Files.map api.File.av), .sl .no 3 (r.Faults.map api.Fault.av)] ∧ H = [(n0, .spare)]) := by
 unfold mewsref16.with_ at h
 refine Go.Lift.Spec.of_body (rs := [.cell 4 25]) func53 Z Z (nb Z) Z (xr (xc Z (op_box (cs := [.sl .no 3 (d.Files.map api.File.av), .sl .no 3 (d.Faults.map api.Fault.av)]) (v := .agg [.sl .no 3 (d.Files.map api.File.av), .sl .no 3 (d.Faults.map api.Fault.av)]) Z (tm Z) Z Z ?_)))
 intro p153
 refine xc Z (op_box (cs := [.str f.Name, .str f.Data, .i f.Synced]) (v := .agg [.str f.Name, .str f.Data, .i f.Synced]) Z (tm Z) Z Z ?_)
 intro p154
 refine xc Z (op_alloc (cs := [.sl .full 3 (([] : List api.File).map api.File.av), .sl .full 3 (([] : List api.Fault).map api.Fault.av)]) (v := .agg [.sl .full 3 (([] : List api.File).map api.File.av), .sl .full 3 (([] : List api.Fault).map api.Fault.av)]) Z zeroValue25 Z Z Z ?_)
 intro p155
 refine xe (xr (xa (.ptr p153 1) Z (fa Z underlying25 Z sizeOf23 Z Z Z) (xc Z (op_load1 (i := 2) Z isAgg23 (tm Z) Z Z (xa (.agg [.sl .full 3 (([] : List api.File).map api.File.av), .sl .no 3 (d.Faults.map api.Fault.av)]) Z (pu_build (zs := [.sl .full 3 (([] : List api.File).map api.File.av), .sl .full 3 (([] : List api.Fault).map api.Fault.av)]) (szs := [1, 1]) (aparts := [(1, .sl .no 3 (d.Faults.map api.Fault.av))]) (cs := [.sl .full 3 (([] : List api.File).map api.File.av), .sl .no 3 (d.Faults.map api.Fault.av)]) Z underlying25 zeroValue25 Z ⟨sizeOf22, sizeOf23, trivial⟩ ⟨Z, (tm Z), trivial⟩ Z) (xc Z (op_alloc (cs := [.sl .full 3 (([] : List api.File).map api.File.av), .sl .full 3 (([] : List api.Fault).map api.Fault.av)]) (v := .agg [.sl .full 3 (([] : List api.File).map api.File.av), .sl .full 3 (([] : List api.Fault).map api.Fault.av)]) Z zeroValue25 Z Z Z ?_)))))))
 intro p156
 refine ac0 Z Z (op_store (i := 0) (cs' := [.sl .full 3 (([] : List api.File).map api.File.av), .sl .no 3 (d.Faults.map api.Fault.av)]) Z sizeOf25 (tm Z) (v := .agg [.sl .full 3 (([] : List api.File).map api.File.av), .sl .no 3 (d.Faults.map api.Fault.av)]) (tm Z) Z Z Z (nb Z) Z (xe (xr (xc Z (op_loadN (i := 3) Z isAgg25 sizeOf25 (tm Z) Z (nb Z) Z ?_)))))
 obtain ⟨r157, r157e, h⟩ := bind_some h
 refine xc Z (op_call (vs := [.agg [.sl .no 3 (d.Files.map api.File.av), .sl .no 3 (d.Faults.map api.Fault.av)]]) (H := []) Z call18 ⟨(tm Z), trivial⟩ (List.Perm.refl _) (mewsref16.Files.ok r157e) ?_)
 rintro _ _ ⟨t158, rfl, rfl⟩
 refine xm Z Z Z (xe (xr (xa (.bool false) Z (pu_assign Z (AEv.bool _)) (xe ?_))))
 obtain ⟨s225, s225e, h227⟩ := bind_some h
 refine aw_meet (ν := Nat) (fun v => [(3, .ptr p154 0), (4, .ptr p155 0), (5, .ptr p156 0), (7, .bool s225.1)]) (fun v => [(p154, .cells [.str f.Name, .str f.Data, .i f.Synced]), (p155, .cells [.sl .full 3 (([] : List api.File).map api.File.av), .sl .full 3 (([] : List api.Fault).map api.Fault.av)]), (p156, .cells [.sl (.own v) 3 (s225.2.map api.File.av), .sl .no 3 (d.Faults.map api.Fault.av)]), (v, .spare)]) ?_ ?_
 ·have h := s225e
  refine xr (xa (.i 0) Z (pu_assign Z (AEv.int _ _)) (xe (aw_block (aw_claimCell 1 0 Z Z fun t294 => (aw_while (σ := mewsref16.with_.S0) (ν := Nat) (mewsref16.with_.body0 r157 f) (fun s270 v => [(3, .ptr p154 0), (4, .ptr p155 0), (5, .ptr p156 0), (6, .sl (.own t158) 3 (r157.map api.File.av)), (7, .bool s270.met), (8, .i s270.i)]) (fun s270 v => [(p154, .cells [.str f.Name, .str f.Data, .i f.Synced]), (p155, .cells [.sl .full 3 (([] : List api.File).map api.File.av), .sl .full 3 (([] : List api.Fault).map api.Fault.av)]), (p156, .cells [.sl (.own v) 3 (s270.c.map api.File.av), .sl .no 3 (d.Faults.map api.Fault.av)]), (t158, .spare), (v, .spare)]) ⟨false, 0, ([] : List api.File)⟩ t294 _ h (Weak.mkL [4, 3, 2, 1, 0] (by decide) ⟨⟨_, Z, cr, Z⟩, ⟨_, Z, cr, Z⟩, ⟨_, Z, cr, Z⟩, ⟨_, Z, Z⟩, ⟨_, Z, Z⟩, trivial⟩ ⟨tm Z, tm Z, tm Z, tm Z, tm Z, tm Z, trivial⟩) ?_)))))
  rintro s270 n271 x273 h hx272
  unfold mewsref16.with_.body0 at h
  refine aw_seq (xr (xm Z Z Z (xm Z Z Z (xa (.i (r157.length : Int)) Z (pu_lenM Z underlying22 (tm Z)) (xa (.bool (decide (s270.i < (r157.length : Int)))) Z (pu_int (v := .bool (decide (s270.i < (r157.length : Int)))) Z Z (tm Z) (tm Z) Z) (xe (aw_cond (b := decide (s270.i < (r157.length : Int))) (tm Z) (fun hb293 => ?_) (fun hb293 => ?_))))))))
  ·replace h := ite_t (dec_t hb293) h
   refine aw_skip ?_
   obtain ⟨s282, s282e, h284⟩ := bind_some h
   refine aw_meet (ν := Nat) (fun v => [(3, .ptr p154 0), (4, .ptr p155 0), (5, .ptr p156 0), (6, .sl (.own t158) 3 (r157.map api.File.av)), (7, .bool s282.1), (8, .i s270.i)]) (fun v => [(p154, .cells [.str f.Name, .str f.Data, .i f.Synced]), (p155, .cells [.sl .full 3 (([] : List api.File).map api.File.av), .sl .full 3 (([] : List api.Fault).map api.Fault.av)]), (p156, .cells [.sl (.own v) 3 (s282.2.map api.File.av), .sl .no 3 (d.Faults.map api.Fault.av)]), (t158, .spare), (v, .spare)]) ?_ ?_
   ·have h := s282e
    refine aw_block (aw_seq ?_)
    obtain ⟨c286, h⟩ := need_of h
    refine aw_planR (by decide +kernel) [[], [], [], [], [], [], [(0, 0, false)], []] [[], [], [], [], []] [[[(p154, .cells [.str f.Name, .str f.Data, .i f.Synced])]], [[(p155, .cells [.sl .full 3 (([] : List api.File).map api.File.av), .sl .full 3 (([] : List api.Fault).map api.Fault.av)])]], [[(p156, .cells [.sl (.own n271) 3 (s270.c.map api.File.av), .sl .no 3 (d.Faults.map api.Fault.av)])]], [[(t158, .spare)]], [[(n271, .spare)]]] [.sl (.own t158) 3 (r157.map api.File.av), .i s270.i, .vptr [.str (ix r157 s270.i).Name, .str (ix r157 s270.i).Data, .i (ix r157 s270.i).Synced], .vptr [.str (ix r157 s270.i).Name, .str (ix r157 s270.i).Data, .i (ix r157 s270.i).Synced], .str (ix r157 s270.i).Name, .ptr p154 0, .str f.Name, .bool (decide ((ix r157 s270.i).Name = f.Name))] (by decide +kernel) Z Z ?_ ?_
    ·exact ⟨ym Z Z Z, ym Z Z Z, yp Z (pu_indexAddrM Z underlying22 sizeOf48 (tm Z) (tm Z) c286 Z), yp Z (fa Z underlying48 Z sizeOf9 Z Z Z), stepg_plain Z (op_loadV1 Z isAgg9 (tm Z) Z ⟨Z, Z⟩), yp Z (fa Z underlying48 Z sizeOf9 Z Z Z), stepg_plain Z (op_load1 (i := 0) Z isAgg9 (tm Z) Z Z ⟨Z, Z⟩), yp Z (pu_str (v := .bool (decide ((ix r157 s270.i).Name = f.Name))) Z Z (tm Z) (tm Z) Z), trivial⟩
    refine aw_cond (b := decide ((ix r157 s270.i).Name = f.Name)) (tm Z) (fun hb292 => ?_) (fun hb292 => ?_)
    ·replace h := ite_t (dec_t hb292) h
     refine xr (xa (.ptr p156 0) Z (fa Z underlying25 Z sizeOf22 Z Z Z) (xc Z (op_load1 (i := 2) Z isAgg22 (tm Z) Z Z (xc Z (op_loadN (i := 0) Z isAgg48 sizeOf48 (tm Z) Z (nb Z) Z (xc Z (op_buildSlice (xs := ([f] : List api.File).map api.File.av) (aparts := [(0, .agg [.str f.Name, .str f.Data, .i f.Synced])]) Z underlying22 sizeOf48 zeroValue48 (by decide) (by decide) ⟨Z, (tm Z), trivial⟩ Z Z Z ?_)))))))
     obtain ⟨c287, h⟩ := need_of h
     refine xc Z (op_appendOM (q := 4) Z underlying22 underlying22 (.inl Z) typeInfo48 Z Z Z (by decide) (tm Z) Z (given_sl (tm Z)) c287 ?_)
     intro t288
     refine xa (.ptr p156 0) Z (fa Z underlying25 Z sizeOf22 Z Z Z) (ac0 Z Z (op_store (i := 2) (cs' := [.sl (.own t288) 3 ((s270.c ++ [f]).map api.File.av), .sl .no 3 (d.Faults.map api.Fault.av)]) Z sizeOf22 (tm Z) (v := .sl (.own t288) 3 ((s270.c ++ [f]).map api.File.av)) (tm Z) Z Z Z (nb Z) Z (xe (aw_region (xa (.bool true) Z (pu_assign Z (AEv.bool _)) (xe ?_))))))
     obtain rfl := some_of h
     exact ⟨t288, Weak.mkL [0, 1, 2, 3, 4] (by decide) ⟨⟨_, Z, cr, Z⟩, ⟨_, Z, cr, Z⟩, ⟨_, Z, ⟨vr, vr, trivial⟩, Z⟩, ⟨_, Z, Z⟩, ⟨_, Z, Z⟩, trivial⟩ ⟨tm Z, tm Z, tm Z, tm Z, tm Z, tm Z, trivial⟩⟩
    ·replace h := ite_f (dec_f hb292) h
     obtain ⟨c289, h⟩ := need_of h
     obtain ⟨c290, h⟩ := need_of h
     refine aw_reserve fun p291 => (aw_planR (by decide +kernel) [[], [(3, 0, false)], [], [], [], [], [], [(5, 0, true), (0, 0, true)], [], [(3, 0, true)]] [[7], [], [], [9], [], [7]] [[[(p291, .resv)], [(p291, .spare)]], [[(p154, .cells [.str f.Name, .str f.Data, .i f.Synced])]], [[(p155, .cells [.sl .full 3 (([] : List api.File).map api.File.av), .sl .full 3 (([] : List api.Fault).map api.Fault.av)])]], [[(p156, .cells [.sl (.own n271) 3 (s270.c.map api.File.av), .sl .no 3 (d.Faults.map api.Fault.av)])], [(p156, .cells [.sl (.own p291) 3 ((s270.c ++ [(ix r157 s270.i)]).map api.File.av), .sl .no 3 (d.Faults.map api.Fault.av)])]], [[(t158, .spare)]], [[(n271, .spare)], []]] [.ptr p156 0, .sl (.own n271) 3 (s270.c.map api.File.av), .sl (.own t158) 3 (r157.map api.File.av), .i s270.i, .vptr [.str (ix r157 s270.i).Name, .str (ix r157 s270.i).Data, .i (ix r157 s270.i).Synced], .agg [.str (ix r157 s270.i).Name, .str (ix r157 s270.i).Data, .i (ix r157 s270.i).Synced], .sl .full 3 ([(ix r157 s270.i)].map api.File.av), .sl (.own p291) 3 ((s270.c ++ [(ix r157 s270.i)]).map api.File.av), .ptr p156 0, .un] (by decide +kernel) Z Z ?_ ?_)
     ·exact ⟨yp Z (fa Z underlying25 Z sizeOf22 Z Z Z), stepg_plain Z (op_load1 (i := 0) Z isAgg22 (tm Z) Z Z ⟨Z, Z⟩), ym Z Z Z, ym Z Z Z, yp Z (pu_indexAddrM Z underlying22 sizeOf48 (tm Z) (tm Z) c289 Z), stepg_plain Z (op_loadVN Z isAgg48 sizeOf48 (tm Z) (nb Z) Z ⟨Z, Z⟩), stepg_plain Z (op_buildSlice (xs := ([(ix r157 s270.i)] : List api.File).map api.File.av) (aparts := [(0, .agg [.str (ix r157 s270.i).Name, .str (ix r157 s270.i).Data, .i (ix r157 s270.i).Synced])]) Z underlying22 sizeOf48 zeroValue48 (by decide) (by decide) ⟨Z, (tm Z), trivial⟩ Z Z Z ⟨Z, Z⟩), stepg_plain Z (aop_settleS (op_appendOM (q := 0) Z underlying22 underlying22 (.inl Z) typeInfo48 Z Z Z (by decide) (tm Z) Z (given_sl (tm Z)) c290 fun t => ⟨t, Z, Z⟩) ⟨Z, Z⟩), yp Z (fa Z underlying25 Z sizeOf22 Z Z Z), stepg_plain Z (op_store (i := 0) (cs' := [.sl (.own p291) 3 ((s270.c ++ [(ix r157 s270.i)]).map api.File.av), .sl .no 3 (d.Faults.map api.Fault.av)]) Z sizeOf22 (tm Z) (v := .sl (.own p291) 3 ((s270.c ++ [(ix r157 s270.i)]).map api.File.av)) (tm Z) Z Z Z (nb Z) Z ⟨Z, Z⟩), trivial⟩
     obtain rfl := some_of h
     exact ⟨p291, Weak.mkL [1, 2, 3, 4, 0] (by decide) ⟨⟨_, Z, cr, Z⟩, ⟨_, Z, cr, Z⟩, ⟨_, Z, ⟨vr, vr, trivial⟩, Z⟩, ⟨_, Z, Z⟩, ⟨_, Z, Z⟩, trivial⟩ ⟨tm Z, tm Z, tm Z, tm Z, tm Z, tm Z, trivial⟩⟩
   ·intro n283
    have h := h284
    refine aw_region (xm Z Z Z (xa (.i (IntKind.wrap .i64 (s270.i + 1))) Z (pu_int (v := .i (IntKind.wrap .i64 (s270.i + 1))) Z Z (tm Z) (AEv.int _ _) Z) (xm Z Z Z (xe ?_))))
    obtain rfl := some_of h
    exact ⟨_, n283, Z, Weak.mkL [0, 1, 2, 3, 4] (by decide) ⟨⟨_, Z, cr, Z⟩, ⟨_, Z, cr, Z⟩, ⟨_, Z, cr, Z⟩, ⟨_, Z, Z⟩, ⟨_, Z, Z⟩, trivial⟩ ⟨tm Z, tm Z, tm Z, tm Z, tm Z, (AEv.le (tm Z) vr), trivial⟩⟩
  ·replace h := ite_f (dec_f hb293) h
   refine aw_exit ?_
   obtain rfl := some_of h
   have h := congrArg some (hx272 _ rfl)
   obtain rfl := some_of h
   exact ⟨n271, Weak.mkL [0, 1, 2, 4] (by decide) ⟨⟨_, Z, cr, Z⟩, ⟨_, Z, cr, Z⟩, ⟨_, Z, cr, Z⟩, ⟨_, Z, Z⟩, trivial⟩ ⟨tm Z, tm Z, tm Z, tm Z, trivial⟩⟩
 ·intro n226
  have h := h227
  obtain ⟨s298, s298e, h300⟩ := bind_some h
  refine aw_meet (ν := Nat) (fun v => [(4, .ptr p155 0), (5, .ptr p156 0)]) (fun v => [(p155, .cells [.sl .full 3 (([] : List api.File).map api.File.av), .sl .full 3 (([] : List api.Fault).map api.Fault.av)]), (p156, .cells [.sl (.own v) 3 (s298.map api.File.av), .sl .no 3 (d.Faults.map api.Fault.av)]), (v, .spare)]) ?_ ?_
  ·have h := s298e
   refine xr (xm Z Z Z (xa (.bool (!s225.1)) Z (pu_not Z (tm Z)) (xe (aw_cond (b := (!s225.1)) (tm Z) (fun hb304 => ?_) (fun hb304 => ?_)))))
   ·replace h := ite_t hb304 h
    refine aw_region (xa (.ptr p156 0) Z (fa Z underlying25 Z sizeOf22 Z Z Z) (xc Z (op_load1 (i := 2) Z isAgg22 (tm Z) Z Z (xc Z (op_loadN (i := 0) Z isAgg48 sizeOf48 (tm Z) Z (nb Z) Z (xc Z (op_buildSlice (xs := ([f] : List api.File).map api.File.av) (aparts := [(0, .agg [.str f.Name, .str f.Data, .i f.Synced])]) Z underlying22 sizeOf48 zeroValue48 (by decide) (by decide) ⟨Z, (tm Z), trivial⟩ Z Z Z ?_)))))))
    obtain ⟨c302, h⟩ := need_of h
    refine xc Z (op_appendOM (q := 3) Z underlying22 underlying22 (.inl Z) typeInfo48 Z Z Z (by decide) (tm Z) Z (given_sl (tm Z)) c302 ?_)
    intro t303
    refine xa (.ptr p156 0) Z (fa Z underlying25 Z sizeOf22 Z Z Z) (ac0 Z Z (op_store (i := 2) (cs' := [.sl (.own t303) 3 ((s225.2 ++ [f]).map api.File.av), .sl .no 3 (d.Faults.map api.Fault.av)]) Z sizeOf22 (tm Z) (v := .sl (.own t303) 3 ((s225.2 ++ [f]).map api.File.av)) (tm Z) Z Z Z (nb Z) Z (xe ?_)))
    obtain rfl := some_of h
    exact ⟨t303, Weak.mkL [1, 2, 3] (by decide) ⟨⟨_, Z, cr, Z⟩, ⟨_, Z, ⟨vr, vr, trivial⟩, Z⟩, ⟨_, Z, Z⟩, trivial⟩ ⟨tm Z, tm Z, trivial⟩⟩
   ·replace h := ite_fb hb304 h
    refine aw_skip ?_
    obtain rfl := some_of h
    exact ⟨n226, Weak.mkL [1, 2, 3] (by decide) ⟨⟨_, Z, cr, Z⟩, ⟨_, Z, cr, Z⟩, ⟨_, Z, Z⟩, trivial⟩ ⟨tm Z, tm Z, trivial⟩⟩
  ·intro n299
   have h := h300
   refine xr (xc Z (op_loadN (i := 1) Z isAgg25 sizeOf25 (tm Z) Z (nb Z) Z (ac0 Z Z (op_store (i := 0) (cs' := [.sl (.own n299) 3 (s298.map api.File.av), .sl .no 3 (d.Faults.map api.Fault.av)]) Z sizeOf25 (tm Z) (v := .agg [.sl (.own n299) 3 (s298.map api.File.av), .sl .no 3 (d.Faults.map api.Fault.av)]) (tm Z) Z Z Z (nb Z) Z (xe (aw_ret ?_))))))
   obtain rfl := some_of h
   exact ⟨[.agg [.sl (.own n299) 3 (s298.map api.File.av), .sl .no 3 (d.Faults.map api.Fault.av)]], _, [(n299, .spare)], ⟨(CellOk.agg 0 (tm Z) Z isAgg25 sizeOf25 (nb Z) Z), trivial⟩, vr, Weak.mkL [2] (by decide) ⟨⟨_, Z, Z⟩, trivial⟩ trivial, ⟨n299, Z, Z⟩⟩

theorem mewsref16.Write.ok {d : api.Disk} {name : List UInt8} {s_ : List UInt8} {r : api.Disk × Int × Int} (h : mewsref16.Write d name s_ = some r) : Go.Lift.Spec prog 34 [.agg [.sl .no 3 (d.Files.map api.File.av), .sl .no 3 (d.Faults.map api.Fault.av)], .str name, .str s_] [] (fun v H => ∃ n0, v = .tup [.agg [.sl (.own n0) 3 (r.1.Files.map api.File.av), .sl .no 3 (r.1.Faults.map api.Fault.av)], .i r.2.1, .i r.2.2] ∧ H = [(n0, .spare)]) := by
 unfold mewsref16.Write at h
 refine Go.Lift.Spec.of_body (rs := [.cell 6 25, .tmp 7, .tmp 8]) func34 Z Z (nb Z) Z (xr (xc Z (op_box (cs := [.sl .no 3 (d.Files.map api.File.av), .sl .no 3 (d.Faults.map api.Fault.av)]) (v := .agg [.sl .no 3 (d.Files.map api.File.av), .sl .no 3 (d.Faults.map api.Fault.av)]) Z (tm Z) Z Z ?_)))
 intro p20
 refine xc Z (op_alloc (cs := [.sl .full 3 (([] : List api.File).map api.File.av), .sl .full 3 (([] : List api.Fault).map api.Fault.av)]) (v := .agg [.sl .full 3 (([] : List api.File).map api.File.av), .sl .full 3 (([] : List api.Fault).map api.Fault.av)]) Z zeroValue25 Z Z Z ?_)
 intro p21
 refine xa (.i 0) Z (pu_assign Z (AEv.int _ _)) (xa (.i 0) Z (pu_assign Z (AEv.int _ _)) (xe (xr (xc Z (op_loadN (i := 1) Z isAgg25 sizeOf25 (tm Z) Z (nb Z) Z (xm Z Z Z ?_))))))
 obtain ⟨r22, r22e, h⟩ := bind_some h
 refine xc Z (op_call (vs := [.agg [.sl .no 3 (d.Files.map api.File.av), .sl .no 3 (d.Faults.map api.Fault.av)], .str name, .i 1]) (H := []) Z call52 ⟨(tm Z), (tm Z), (AEv.int _ _), trivial⟩ (List.Perm.refl _) (mewsref16.Meets.ok r22e) ?_)
 rintro _ _ ⟨t23, rfl, rfl⟩
 refine xm Z Z Z (xa (.agg [.sl .no 3 (r22.1.Files.map api.File.av), .sl (.own t23) 3 (r22.1.Faults.map api.Fault.av)]) Z (pu_extract Z (tm Z) (nb Z) Z) (xa (.agg [.str r22.2.1.Name, .i r22.2.1.Kind, .i r22.2.1.Short]) Z (pu_extract Z (tm Z) (nb Z) Z) (xa (.bool r22.2.2) Z (pu_extract Z (tm Z) (nb Z) Z) (xc Z (op_alloc (cs := [.str ([] : List UInt8), .i 0, .i 0]) (v := .agg [.str ([] : List UInt8), .i 0, .i 0]) Z zeroValue70 Z Z Z ?_)))))
 intro p24
 refine ac0 Z Z (op_store (i := 3) (cs' := [.sl .no 3 (r22.1.Files.map api.File.av), .sl (.own t23) 3 (r22.1.Faults.map api.Fault.av)]) Z sizeOf25 (tm Z) (v := .agg [.sl .no 3 (r22.1.Files.map api.File.av), .sl (.own t23) 3 (r22.1.Faults.map api.Fault.av)]) (tm Z) Z Z Z (nb Z) Z (ac0 Z Z (op_store (i := 0) (cs' := [.str r22.2.1.Name, .i r22.2.1.Kind, .i r22.2.1.Short]) Z sizeOf70 (tm Z) (v := .agg [.str r22.2.1.Name, .i r22.2.1.Kind, .i r22.2.1.Short]) (tm Z) Z Z Z (nb Z) Z (xm Z Z Z (xe (xr (xa (.i 0) Z (pu_assign Z (AEv.int _ _)) (xe ?_))))))))
 obtain ⟨s28, s28e, h29⟩ := bind_some h
 refine aw_meet (ν := Unit) (fun v => [(1, .str name), (2, .str s28.1), (3, .ptr p20 0), (6, .ptr p21 0), (11, .i s28.2)]) (fun v => [(p20, .cells [.sl .no 3 (r22.1.Files.map api.File.av), .sl (.own t23) 3 (r22.1.Faults.map api.Fault.av)]), (p21, .cells [.sl .full 3 (([] : List api.File).map api.File.av), .sl .full 3 (([] : List api.Fault).map api.Fault.av)]), (t23, .spare)]) ?_ ?_
 ·have h := s28e
  refine xr (xm Z Z Z (xe (aw_cond (b := r22.2.2) (tm Z) (fun hb33 => ?_) (fun hb33 => ?_))))
  ·replace h := ite_t hb33 h
   refine xr (xm Z Z Z (xa (.ptr p24 2) Z (fa Z underlying70 Z sizeOf3 Z Z Z) (xc Z (op_load1 (i := 0) Z isAgg3 (tm Z) Z Z (xm Z Z Z (xa (.i (s_.length : Int)) Z (pu_strLen Z underlying9 (tm Z)) ?_))))))
   obtain ⟨r31, r31e, h⟩ := bind_some h
   refine xc Z (op_call (vs := [.i r22.2.1.Short, .i (s_.length : Int)]) (H := []) Z call40 ⟨(tm Z), (tm Z), trivial⟩ (List.Perm.refl _) (mewsref16.between.ok r31e) ?_)
   rintro _ _ ⟨rfl, rfl⟩
   obtain ⟨c32, h⟩ := need_of h
   refine xa (.str (sub s_ 0 r31)) Z (pu_strSliceM Z underlying9 (tm Z) Z ⟨_, (tm Z)⟩ c32) (xm Z Z Z (xe (aw_region (xa (.i 15) Z (pu_assign Z (AEv.int _ _)) (xe ?_)))))
   obtain rfl := some_of h
   exact ⟨(), Weak.mkL [3, 2, 1] (by decide) ⟨⟨_, Z, cr, Z⟩, ⟨_, Z, cr, Z⟩, ⟨_, Z, Z⟩, trivial⟩ ⟨tm Z, (AEv.le (tm Z) vr), tm Z, tm Z, tm Z, trivial⟩⟩
  ·replace h := ite_fb hb33 h
   refine aw_skip ?_
   obtain rfl := some_of h
   exact ⟨(), Weak.mkL [3, 2, 1] (by decide) ⟨⟨_, Z, cr, Z⟩, ⟨_, Z, cr, Z⟩, ⟨_, Z, Z⟩, trivial⟩ ⟨tm Z, tm Z, tm Z, tm Z, tm Z, trivial⟩⟩
 ·intro _
  have h := h29
  refine xr (xc Z (op_loadN (i := 0) Z isAgg25 sizeOf25 (tm Z) Z (nb Z) Z (xm Z Z Z ?_)))
  obtain ⟨r34, r34e, h⟩ := bind_some h
  refine xc Z (op_call (vs := [.agg [.sl .no 3 (r22.1.Files.map api.File.av), .sl .no 3 (r22.1.Faults.map api.Fault.av)], .str name]) (H := []) Z call16 ⟨(AEv.le (tm Z) (AV.Le.agg ⟨vr, (AV.Le.forget _ _ _), trivial⟩)), (tm Z), trivial⟩ (List.Perm.refl _) (mewsref16.Find.ok r34e) ?_)
  rintro _ _ ⟨rfl, rfl⟩
  refine xm Z Z Z (xa (.agg [.str r34.1.Name, .str r34.1.Data, .i r34.1.Synced]) Z (pu_extract Z (tm Z) (nb Z) Z) (xa (.bool r34.2) Z (pu_extract Z (tm Z) (nb Z) Z) (xc Z (op_alloc (cs := [.str ([] : List UInt8), .str ([] : List UInt8), .i 0]) (v := .agg [.str ([] : List UInt8), .str ([] : List UInt8), .i 0]) Z zeroValue48 Z Z Z ?_))))
  intro p35
  refine ac0 Z Z (op_store (i := 0) (cs' := [.str r34.1.Name, .str r34.1.Data, .i r34.1.Synced]) Z sizeOf48 (tm Z) (v := .agg [.str r34.1.Name, .str r34.1.Data, .i r34.1.Synced]) (tm Z) Z Z Z (nb Z) Z (xm Z Z Z (xe (xr (xm Z Z Z (xa (.ptr p35 0) Z (fa Z underlying48 Z sizeOf9 Z Z Z) (ac0 Z Z (op_store (i := 0) (cs' := [.str name, .str r34.1.Data, .i r34.1.Synced]) Z sizeOf9 (tm Z) (v := .str name) (tm Z) Z Z Z (nb Z) Z (xe (aw_seq ?_))))))))))
  refine aw_region (xa (.ptr p35 1) Z (fa Z underlying48 Z sizeOf9 Z Z Z) (xc Z (op_load1 (i := 0) Z isAgg9 (tm Z) Z Z (xm Z Z Z ?_))))
  obtain ⟨c36, h⟩ := need_of h
  refine xa (.str (r34.1.Data ++ s28.1)) Z (pu_strAdd Z (tm Z) (tm Z) c36) (xa (.ptr p35 1) Z (fa Z underlying48 Z sizeOf9 Z Z Z) (ac0 Z Z (op_store (i := 0) (cs' := [.str name, .str (r34.1.Data ++ s28.1), .i r34.1.Synced]) Z sizeOf9 (tm Z) (v := .str (r34.1.Data ++ s28.1)) (tm Z) Z Z Z (nb Z) Z (xe (xr (xc Z (op_loadN (i := 1) Z isAgg25 sizeOf25 (tm Z) Z (nb Z) Z (xc Z (op_loadN (i := 0) Z isAgg48 sizeOf48 (tm Z) Z (nb Z) Z ?_)))))))))
  obtain ⟨r37, r37e, h⟩ := bind_some h
  refine xc Z (op_call (vs := [.agg [.sl .no 3 (r22.1.Files.map api.File.av), .sl .no 3 (r22.1.Faults.map api.Fault.av)], .agg [.str name, .str (r34.1.Data ++ s28.1), .i r34.1.Synced]]) (H := []) Z call53 ⟨(AEv.le (tm Z) (AV.Le.agg ⟨vr, (AV.Le.forget _ _ _), trivial⟩)), (tm Z), trivial⟩ (List.Perm.refl _) (mewsref16.with_.ok r37e) ?_)
  rintro _ _ ⟨t38, rfl, rfl⟩
  refine xm Z Z Z (xa (.i (s28.1.length : Int)) Z (pu_strLen Z underlying9 (tm Z)) (xm Z Z Z (ac0 Z Z (op_store (i := 3) (cs' := [.sl (.own t38) 3 (r37.Files.map api.File.av), .sl .no 3 (r37.Faults.map api.Fault.av)]) Z sizeOf25 (tm Z) (v := .agg [.sl (.own t38) 3 (r37.Files.map api.File.av), .sl .no 3 (r37.Faults.map api.Fault.av)]) (tm Z) Z Z Z (nb Z) Z (xm Z Z Z (xm Z Z Z (xe (aw_ret ?_))))))))
  obtain rfl := some_of h
  exact ⟨[.agg [.sl (.own t38) 3 (r37.Files.map api.File.av), .sl .no 3 (r37.Faults.map api.Fault.av)], .i (s28.1.length : Int), .i s28.2], .tup [.agg [.sl (.own t38) 3 (r37.Files.map api.File.av), .sl .no 3 (r37.Faults.map api.Fault.av)], .i (s28.1.length : Int), .i s28.2], [(t38, .spare)], ⟨(CellOk.agg 3 (tm Z) Z isAgg25 sizeOf25 (nb Z) Z), (tm Z), (tm Z), trivial⟩, (AV.Le.tup cr), Weak.mkL [0] (by decide) ⟨⟨_, Z, Z⟩, trivial⟩ trivial, ⟨t38, Z, Z⟩⟩

end Go.Pu
