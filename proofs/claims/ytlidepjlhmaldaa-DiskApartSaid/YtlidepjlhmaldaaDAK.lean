/- Printed by lift.py: the functions come to them. -/
import Derived.Test.YtlidepjlhmaldaaLiftW
import Derived.Test.YtlidepjlhmaldaaDAK0
set_option maxRecDepth 100000
set_option maxHeartbeats 0
namespace Go.Pu
open Go.Lift Go.Proofs.Try

theorem slices.DeleteFunc_api_File_v_disk_Remove_1.ok {s_ : List api.File} {b1_ : List UInt8} {r : List api.File} (h : slices.DeleteFunc_api_File_v_disk_Remove_1 s_ b1_ = some r) (o0 o1 : Nat) : Go.Lift.Spec prog 43 [.vec o0, .fn 44 [.ptr o1 0]] [(o0, .vec 3 (s_.map api.File.av)), (o1, .cells [.str b1_])] (fun v H => ∃ n0, v = .vec n0 ∧ H = [(o1, .cells [.str b1_]), (n0, .vec 3 (r.map api.File.av))]) := by
 unfold slices.DeleteFunc_api_File_v_disk_Remove_1 at h
 refine Go.Lift.Spec.of_body (rs := [.tmp 4]) func43 Z Z (nb Z) Z (xr (xa (.sl .full 3 (([] : List api.File).map api.File.av)) Z (pu_assign Z (AEv.nil 3 (by decide))) (xe (xr (xm Z Z Z (xm Z Z Z ?_))))))
 obtain ⟨r129, r129e, h⟩ := bind_some h
 refine xc Z (op_call (vs := [.vec o0, .fn 44 [.ptr o1 0]]) (H := [(o0, .vec 3 (s_.map api.File.av)), (o1, .cells [.str b1_])]) Z call45 ⟨(tm Z), (tm Z), trivial⟩ (List.Perm.refl _) (slices.IndexFunc_api_File_v_disk_Remove_1.ok r129e o0 o1) ?_)
 rintro _ _ ⟨rfl, rfl⟩
 refine xm Z Z Z (xe (aw_seq (xr (xm Z Z Z (xa (.bool (decide (r129 = (-1)))) Z (pu_int (v := .bool (decide (r129 = (-1)))) Z Z (tm Z) (AEv.int _ _) Z) (xe (aw_cond (b := decide (r129 = (-1))) (tm Z) (fun hb258 => ?_) (fun hb258 => ?_))))))))
 ·replace h := ite_t (dec_t hb258) h
  refine xr (xm Z Z Z (xm Z Z Z (xe (aw_ret ?_))))
  obtain rfl := some_of h
  exact ⟨[.vec o0], _, [(o1, .cells [.str b1_]), (o0, .vec 3 (s_.map api.File.av))], ⟨(tm Z), trivial⟩, vr, Weak.mkL [1, 0] (by decide) ⟨⟨_, Z, ⟨vr, trivial⟩, Z⟩, ⟨_, Z, Z⟩, trivial⟩ trivial, ⟨o0, Z, Z⟩⟩
 ·replace h := ite_f (dec_f hb258) h
  refine aw_skip ?_
  obtain ⟨s190, s190e, h191⟩ := bind_some h
  refine aw_meet (ν := Unit) (fun v => [(0, .vec o0), (5, .i s190.1)]) (fun v => [(o0, .vec 3 (s190.2.map api.File.av)), (o1, .cells [.str b1_])]) ?_ ?_
  ·have h := s190e
   refine xr (xm Z Z Z (xa (.i (IntKind.wrap .i64 (r129 + 1))) Z (pu_int (v := .i (IntKind.wrap .i64 (r129 + 1))) Z Z (tm Z) (AEv.int _ _) Z) (xm Z Z Z (xe (aw_block (aw_while (σ := slices.DeleteFunc_api_File_v_disk_Remove_1.S0) (ν := Unit) (slices.DeleteFunc_api_File_v_disk_Remove_1.body0 b1_) (fun s231 v => [(0, .vec o0), (1, .fn 44 [.ptr o1 0]), (5, .i s231.i), (6, .i s231.j)]) (fun s231 v => [(o0, .vec 3 (s231.v.map api.File.av)), (o1, .cells [.str b1_])]) ⟨r129, IntKind.wrap .i64 (r129 + 1), s_⟩ () _ h (Weak.mkL [0, 1] (by decide) ⟨⟨_, Z, Z⟩, ⟨_, Z, ⟨vr, trivial⟩, Z⟩, trivial⟩ ⟨tm Z, tm Z, tm Z, (AEv.le (tm Z) vr), trivial⟩) ?_))))))
   rintro s231 _ x233 h hx232
   unfold slices.DeleteFunc_api_File_v_disk_Remove_1.body0 at h
   refine aw_seq (xr (xm Z Z Z (xm Z Z Z (xc Z (op_lenVecM (i := 0) Z underlying22 (tm Z) Z (xa (.bool (decide (s231.j < (s231.v.length : Int)))) Z (pu_int (v := .bool (decide (s231.j < (s231.v.length : Int)))) Z Z (tm Z) (tm Z) Z) (xe (aw_cond (b := decide (s231.j < (s231.v.length : Int))) (tm Z) (fun hb252 => ?_) (fun hb252 => ?_)))))))))
   ·replace h := ite_t (dec_t hb252) h
    refine aw_skip ?_
    obtain ⟨s242, s242e, h243⟩ := bind_some h
    refine aw_meet (ν := Unit) (fun v => [(0, .vec o0), (1, .fn 44 [.ptr o1 0]), (5, .i s242.1), (6, .i s231.j)]) (fun v => [(o0, .vec 3 (s242.2.map api.File.av)), (o1, .cells [.str b1_])]) ?_ ?_
    ·have h := s242e
     refine aw_block (xr (xm Z Z Z (xm Z Z Z ?_)))
     obtain ⟨c245, h⟩ := need_of h
     refine xc Z (op_indexAddrVecM Z underlying22 sizeOf48 (tm Z) (j := 0) Z (tm Z) c245 ?_)
     obtain ⟨c246, h⟩ := need_of h
     refine xc Z (op_loadENM (i := 0) (sz := 3) Z isAgg48 sizeOf48 (tm Z) Z c246 (by decide) Z (xc Z (op_alloc (cs := [.str ([] : List UInt8), .str ([] : List UInt8), .i 0]) (v := .agg [.str ([] : List UInt8), .str ([] : List UInt8), .i 0]) Z zeroValue48 Z Z Z ?_)))
     intro p247
     refine ac0 Z Z (op_store (i := 0) (cs' := [.str (ix s231.v s231.j).Name, .str (ix s231.v s231.j).Data, .i (ix s231.v s231.j).Synced]) Z sizeOf48 (tm Z) (v := .agg [.str (ix s231.v s231.j).Name, .str (ix s231.v s231.j).Data, .i (ix s231.v s231.j).Synced]) (tm Z) Z Z Z (nb Z) Z (xe (xr (xm Z Z Z (xc Z (op_loadN (i := 0) Z isAgg48 sizeOf48 (tm Z) Z (nb Z) Z ?_))))))
     obtain ⟨r248, r248e, h⟩ := bind_some h
     refine aops_weak (weak_pick [2, 0, 1] (by decide) Z) (xc Z (op_callV (vs := [.agg [.str (ix s231.v s231.j).Name, .str (ix s231.v s231.j).Data, .i (ix s231.v s231.j).Synced]]) (H := [(o1, .cells [.str b1_])]) Z (tm Z) call44 ⟨(tm Z), trivial⟩ (List.Perm.refl _) (disk.Remove_1.ok r248e o1) ?_))
     rintro _ _ ⟨rfl, rfl⟩
     refine xa (.bool (!r248)) Z (pu_not Z (tm Z)) (xe (aw_cond (b := (!r248)) (tm Z) (fun hb251 => ?_) (fun hb251 => ?_)))
     ·replace h := ite_t hb251 h
      refine xr (xm Z Z Z (xm Z Z Z (xc Z (op_loadN (i := 1) Z isAgg48 sizeOf48 (tm Z) Z (nb Z) Z ?_))))
      obtain ⟨c249, h⟩ := need_of h
      refine xc Z (op_indexAddrVecM Z underlying22 sizeOf48 (tm Z) (j := 2) Z (tm Z) c249 ?_)
      obtain ⟨c250, h⟩ := need_of h
      refine ac0 Z Z (op_storeEM (i := 2) (sz := 3) (y' := (ix s231.v s231.j)) Z sizeOf48 (tm Z) (v := .agg [.str (ix s231.v s231.j).Name, .str (ix s231.v s231.j).Data, .i (ix s231.v s231.j).Synced]) (tm Z) Z c250 Z Z (by decide) Z (xe (aw_region (xm Z Z Z (xa (.i (IntKind.wrap .i64 (s231.i + 1))) Z (pu_int (v := .i (IntKind.wrap .i64 (s231.i + 1))) Z Z (tm Z) (AEv.int _ _) Z) (xm Z Z Z (xe ?_)))))))
      obtain rfl := some_of h
      exact ⟨(), Weak.mkL [2, 0] (by decide) ⟨⟨_, Z, Z⟩, ⟨_, Z, ⟨vr, trivial⟩, Z⟩, trivial⟩ ⟨tm Z, tm Z, (AEv.le (tm Z) vr), tm Z, trivial⟩⟩
     ·replace h := ite_fb hb251 h
      refine aw_skip ?_
      obtain rfl := some_of h
      exact ⟨(), Weak.mkL [2, 0] (by decide) ⟨⟨_, Z, Z⟩, ⟨_, Z, ⟨vr, trivial⟩, Z⟩, trivial⟩ ⟨tm Z, tm Z, tm Z, tm Z, trivial⟩⟩
    ·intro _
     have h := h243
     refine aw_region (xm Z Z Z (xa (.i (IntKind.wrap .i64 (s231.j + 1))) Z (pu_int (v := .i (IntKind.wrap .i64 (s231.j + 1))) Z Z (tm Z) (AEv.int _ _) Z) (xm Z Z Z (xe ?_))))
     obtain rfl := some_of h
     exact ⟨_, (), Z, Weak.mkL [0, 1] (by decide) ⟨⟨_, Z, Z⟩, ⟨_, Z, ⟨vr, trivial⟩, Z⟩, trivial⟩ ⟨tm Z, tm Z, tm Z, (AEv.le (tm Z) vr), trivial⟩⟩
   ·replace h := ite_f (dec_f hb252) h
    refine aw_exit ?_
    obtain rfl := some_of h
    have h := congrArg some (hx232 _ rfl)
    obtain rfl := some_of h
    exact ⟨(), Weak.mkL [0, 1] (by decide) ⟨⟨_, Z, Z⟩, ⟨_, Z, ⟨vr, trivial⟩, Z⟩, trivial⟩ ⟨tm Z, tm Z, trivial⟩⟩
  ·intro _
   have h := h191
   refine xr (xm Z Z Z (xm Z Z Z ?_))
   obtain ⟨c253, h⟩ := need_of h
   refine xc Z (op_sliceVecM Z underlying22 sizeOf48 (tm Z) (q := 0) Z ⟨_, (tm Z)⟩ Z c253 ?_)
   obtain ⟨c254, h⟩ := need_of h
   refine ac0 Z Z (op_clearVM (q := 0) api.File.av (({ Name := ([] : List UInt8), Data := ([] : List UInt8), Synced := 0 } : api.File) : api.File) Z underlying22 zeroValue48 Z Z (tm Z) Z c254 (xe (xr (xm Z Z Z (xm Z Z Z ?_)))))
   obtain ⟨c255, h⟩ := need_of h
   refine xc Z (op_sliceVecM Z underlying22 sizeOf48 (tm Z) (q := 0) Z Z ⟨_, (tm Z)⟩ c255 (xm Z Z Z (xe ?_)))
   obtain ⟨c256, h⟩ := need_of h
   refine aw_shrinkM 4 0 (tm Z) Z c256 fun p257 => (aw_ret ?_)
   obtain rfl := some_of h
   exact ⟨[.vec p257], _, [(o1, .cells [.str b1_]), (p257, .vec 3 ((List.take (Int.toNat s190.1) (clrL s190.2 (Int.toNat s190.1) (Int.toNat (s190.2.length : Int)) (({ Name := ([] : List UInt8), Data := ([] : List UInt8), Synced := 0 } : api.File) : api.File))).map api.File.av))], ⟨(tm Z), trivial⟩, vr, Weak.mkL [1, 0] (by decide) ⟨⟨_, Z, ⟨vr, trivial⟩, Z⟩, ⟨_, Z, Z⟩, trivial⟩ trivial, ⟨p257, Z, Z⟩⟩

theorem disk.Remove.ok {d : api.Disk} {name : List UInt8} {r : api.Disk} (h : disk.Remove d name = some r) : Go.Lift.Spec prog 22 [.agg [.sl .no 3 (d.Files.map api.File.av), .sl .no 3 (d.Faults.map api.Fault.av)], .str name] [] (fun v H => ∃ n0 n1, v = .agg [.vec n0, .vec n1] ∧ H = [(n0, .vec 3 (r.Files.map api.File.av)), (n1, .vec 3 (r.Faults.map api.Fault.av))]) := by
 unfold disk.Remove at h
 refine Go.Lift.Spec.of_body (rs := [.cell 4 25]) func22 Z Z (nb Z) Z (xr (xc Z (op_box (cs := [.sl .no 3 (d.Files.map api.File.av), .sl .no 3 (d.Faults.map api.Fault.av)]) (v := .agg [.sl .no 3 (d.Files.map api.File.av), .sl .no 3 (d.Faults.map api.Fault.av)]) Z (tm Z) Z Z ?_)))
 intro p9
 refine xc Z (op_box (cs := [.str name]) (v := .str name) Z (tm Z) Z Z ?_)
 intro p10
 refine xc Z (op_alloc (cs := [.sl .full 3 (([] : List api.File).map api.File.av), .sl .full 3 (([] : List api.Fault).map api.Fault.av)]) (v := .agg [.sl .full 3 (([] : List api.File).map api.File.av), .sl .full 3 (([] : List api.Fault).map api.Fault.av)]) Z zeroValue25 Z Z Z ?_)
 intro p11
 refine xe (xr (xc Z (op_loadN (i := 2) Z isAgg25 sizeOf25 (tm Z) Z (nb Z) Z ?_)))
 obtain ⟨r12, r12e, h⟩ := bind_some h
 refine xc Z (op_call (vs := [.agg [.sl .no 3 (d.Files.map api.File.av), .sl .no 3 (d.Faults.map api.Fault.av)]]) (H := []) Z call41 ⟨(tm Z), trivial⟩ (List.Perm.refl _) (disk.own.ok r12e) ?_)
 rintro _ _ ⟨t13, t14, rfl, rfl⟩
 refine ac0 Z Z (op_store (i := 4) (cs' := [.vec t13, .vec t14]) Z sizeOf25 (tm Z) (v := .agg [.vec t13, .vec t14]) (tm Z) Z Z Z (nb Z) Z (xe (xr (xa (.ptr p9 0) Z (fa Z underlying25 Z sizeOf22 Z Z Z) (xc Z (op_load1 (i := 4) Z isAgg22 (tm Z) Z Z (xa (.fn 44 [.ptr p10 0]) Z (pu_makeFunc Z ⟨(tm Z), trivial⟩) ?_)))))))
 obtain ⟨r15, r15e, h⟩ := bind_some h
 refine aops_weak (weak_pick [0, 3, 1, 2, 4] (by decide) Z) (xc Z (op_call (vs := [.vec t13, .fn 44 [.ptr p10 0]]) (H := [(t13, .vec 3 (r12.Files.map api.File.av)), (p10, .cells [.str name])]) Z call43 ⟨(tm Z), (tm Z), trivial⟩ (List.Perm.refl _) (slices.DeleteFunc_api_File_v_disk_Remove_1.ok r15e t13 p10) ?_))
 rintro _ _ ⟨t16, rfl, rfl⟩
 refine xa (.ptr p9 0) Z (fa Z underlying25 Z sizeOf22 Z Z Z) (ac0 Z Z (op_store (i := 4) (cs' := [.vec t16, .vec t14]) Z sizeOf22 (tm Z) (v := .vec t16) (tm Z) Z Z Z (nb Z) Z (xe (xr (xc Z (op_loadN (i := 4) Z isAgg25 sizeOf25 (tm Z) Z (nb Z) Z (ac0 Z Z (op_store (i := 3) (cs' := [.vec t16, .vec t14]) Z sizeOf25 (tm Z) (v := .agg [.vec t16, .vec t14]) (tm Z) Z Z Z (nb Z) Z (xe (aw_ret ?_))))))))))
 obtain rfl := some_of h
 exact ⟨[.agg [.vec t16, .vec t14]], _, [(t16, .vec 3 (r15.map api.File.av)), (t14, .vec 3 (r12.Faults.map api.Fault.av))], ⟨(CellOk.agg 3 (tm Z) Z isAgg25 sizeOf25 (nb Z) Z), trivial⟩, vr, Weak.mkL [1, 2] (by decide) ⟨⟨_, Z, Z⟩, ⟨_, Z, Z⟩, trivial⟩ trivial, ⟨t16, t14, Z, Z⟩⟩

theorem disk.Cut.ok {d : api.Disk} {name : List UInt8} {n_ : Int} {r : api.Disk × Int} (h : disk.Cut d name n_ = some r) : Go.Lift.Spec prog 23 [.agg [.sl .no 3 (d.Files.map api.File.av), .sl .no 3 (d.Faults.map api.Fault.av)], .str name, .i n_] [] (fun v H => ∃ n0 n1, v = .tup [.agg [.vec n0, .vec n1], .i r.2] ∧ H = [(n0, .vec 3 (r.1.Files.map api.File.av)), (n1, .vec 3 (r.1.Faults.map api.Fault.av))]) := by
 unfold disk.Cut at h
 refine Go.Lift.Spec.of_body (rs := [.cell 6 25, .tmp 7]) func23 Z Z (nb Z) Z (xr (xc Z (op_box (cs := [.sl .no 3 (d.Files.map api.File.av), .sl .no 3 (d.Faults.map api.Fault.av)]) (v := .agg [.sl .no 3 (d.Files.map api.File.av), .sl .no 3 (d.Faults.map api.Fault.av)]) Z (tm Z) Z Z ?_)))
 intro p16
 refine xc Z (op_alloc (cs := [.sl .full 3 (([] : List api.File).map api.File.av), .sl .full 3 (([] : List api.Fault).map api.Fault.av)]) (v := .agg [.sl .full 3 (([] : List api.File).map api.File.av), .sl .full 3 (([] : List api.Fault).map api.Fault.av)]) Z zeroValue25 Z Z Z ?_)
 intro p17
 refine xa (.i 0) Z (pu_assign Z (AEv.int _ _)) (xe (xr (xc Z (op_loadN (i := 1) Z isAgg25 sizeOf25 (tm Z) Z (nb Z) Z ?_))))
 obtain ⟨r18, r18e, h⟩ := bind_some h
 refine xc Z (op_call (vs := [.agg [.sl .no 3 (d.Files.map api.File.av), .sl .no 3 (d.Faults.map api.Fault.av)]]) (H := []) Z call41 ⟨(tm Z), trivial⟩ (List.Perm.refl _) (disk.own.ok r18e) ?_)
 rintro _ _ ⟨t19, t20, rfl, rfl⟩
 refine ac0 Z Z (op_store (i := 3) (cs' := [.vec t19, .vec t20]) Z sizeOf25 (tm Z) (v := .agg [.vec t19, .vec t20]) (tm Z) Z Z Z (nb Z) Z (xe (xr (xc Z (op_loadN (i := 3) Z isAgg25 sizeOf25 (tm Z) Z (nb Z) Z (xm Z Z Z ?_))))))
 obtain ⟨r21, r21e, h⟩ := bind_some h
 refine xc Z (op_call (vs := [.agg [.vec t19, .vec t20], .str name]) (H := [(t19, .vec 3 (r18.Files.map api.File.av)), (t20, .vec 3 (r18.Faults.map api.Fault.av))]) Z call25 ⟨(tm Z), (tm Z), trivial⟩ (List.Perm.refl _) (disk.find_v.ok r21e t19 t20) ?_)
 rintro _ _ ⟨rfl, rfl⟩
 refine xm Z Z Z (xe (aw_seq (xr (xm Z Z Z (xa (.bool (decide (r21 < 0))) Z (pu_int (v := .bool (decide (r21 < 0))) Z Z (tm Z) (AEv.int _ _) Z) (xe (aw_cond (b := decide (r21 < 0)) (tm Z) (fun hb30 => ?_) (fun hb30 => ?_))))))))
 ·replace h := ite_t (dec_t hb30) h
  refine xr (xc Z (op_loadN (i := 3) Z isAgg25 sizeOf25 (tm Z) Z (nb Z) Z (ac0 Z Z (op_store (i := 2) (cs' := [.vec t19, .vec t20]) Z sizeOf25 (tm Z) (v := .agg [.vec t19, .vec t20]) (tm Z) Z Z Z (nb Z) Z (xa (.i 8) Z (pu_assign Z (AEv.int _ _)) (xe (aw_ret ?_)))))))
  obtain rfl := some_of h
  exact ⟨[.agg [.vec t19, .vec t20], .i 8], .tup [.agg [.vec t19, .vec t20], .i 8], [(t19, .vec 3 (r18.Files.map api.File.av)), (t20, .vec 3 (r18.Faults.map api.Fault.av))], ⟨(CellOk.agg 2 (tm Z) Z isAgg25 sizeOf25 (nb Z) Z), (tm Z), trivial⟩, (AV.Le.tup cr), Weak.mkL [0, 1] (by decide) ⟨⟨_, Z, Z⟩, ⟨_, Z, Z⟩, trivial⟩ trivial, ⟨t19, t20, Z, Z⟩⟩
 ·replace h := ite_f (dec_f hb30) h
  refine aw_skip (xr (xa (.ptr p16 0) Z (fa Z underlying25 Z sizeOf22 Z Z Z) (xc Z (op_load1 (i := 3) Z isAgg22 (tm Z) Z Z (xm Z Z Z ?_)))))
  obtain ⟨c22, h⟩ := need_of h
  refine xc Z (op_indexAddrVecM Z underlying22 sizeOf48 (tm Z) (j := 0) Z (tm Z) c22 (xm Z Z Z (xe (aw_seq ?_))))
  obtain ⟨c23, h⟩ := need_of h
  obtain ⟨c24, h⟩ := need_of h
  obtain ⟨c25, h⟩ := need_of h
  obtain ⟨c26, h⟩ := need_of h
  refine aw_planR (by decide +kernel) [[], [], [], [], [(0, 0, false)], [], [], [], [], [], [(0, 0, false)], [], [], [], [], [], [(0, 0, true)]] [[16], [], [], []] [[[(t19, .vec 3 (r18.Files.map api.File.av))], [(t19, .vec 3 ((upd r18.Files r21 { (ix r18.Files r21) with Data := sub (ix r18.Files r21).Data 0 (if ((ix r18.Files r21).Data.length : Int) < (if n_ < 0 then 0 else n_) then ((ix r18.Files r21).Data.length : Int) else (if n_ < 0 then 0 else n_)) }).map api.File.av))]], [[(t20, .vec 3 (r18.Faults.map api.Fault.av))]], [[(p17, .cells [.sl .full 3 (([] : List api.File).map api.File.av), .sl .full 3 (([] : List api.Fault).map api.Fault.av)])]], [[(p16, .cells [.vec t19, .vec t20])]]] [.eptr t19 (r21).toNat 0, .eptr t19 (r21).toNat 0, .eptr t19 (r21).toNat 0, .eptr t19 (r21).toNat 1, .str (ix r18.Files r21).Data, .i n_, .i (if n_ < 0 then 0 else n_), .eptr t19 (r21).toNat 0, .eptr t19 (r21).toNat 0, .eptr t19 (r21).toNat 1, .str (ix r18.Files r21).Data, .i ((ix r18.Files r21).Data.length : Int), .i (if ((ix r18.Files r21).Data.length : Int) < (if n_ < 0 then 0 else n_) then ((ix r18.Files r21).Data.length : Int) else (if n_ < 0 then 0 else n_)), .str (sub (ix r18.Files r21).Data 0 (if ((ix r18.Files r21).Data.length : Int) < (if n_ < 0 then 0 else n_) then ((ix r18.Files r21).Data.length : Int) else (if n_ < 0 then 0 else n_))), .eptr t19 (r21).toNat 0, .eptr t19 (r21).toNat 1, .un] (by decide +kernel) Z Z ?_ ?_
  ·exact ⟨ym Z Z Z, ym Z Z Z, yp Z (pu_nilCheck Z (tm Z) Z), yp Z (fa Z underlying48 Z sizeOf9 Z Z Z), stepg_plain Z (op_loadE1M (i := 0) (sz := 3) Z isAgg9 (tm Z) Z c23 (by decide) Z ⟨Z, Z⟩), ym Z Z Z, yp Z (pu_max2 Z (tm Z) (AEv.int _ _)), ym Z Z Z, yp Z (pu_nilCheck Z (tm Z) Z), yp Z (fa Z underlying48 Z sizeOf9 Z Z Z), stepg_plain Z (op_loadE1M (i := 0) (sz := 3) Z isAgg9 (tm Z) Z c24 (by decide) Z ⟨Z, Z⟩), yp Z (pu_strLen Z underlying9 (tm Z)), yp Z (pu_min2 Z (tm Z) (tm Z)), yp Z (pu_strSliceM Z underlying9 (tm Z) Z ⟨_, (tm Z)⟩ c25), yp Z (pu_nilCheck Z (tm Z) Z), yp Z (fa Z underlying48 Z sizeOf9 Z Z Z), stepg_plain Z (op_storeEM (i := 0) (sz := 3) (y' := { (ix r18.Files r21) with Data := sub (ix r18.Files r21).Data 0 (if ((ix r18.Files r21).Data.length : Int) < (if n_ < 0 then 0 else n_) then ((ix r18.Files r21).Data.length : Int) else (if n_ < 0 then 0 else n_)) }) Z sizeOf9 (tm Z) (v := .str (sub (ix r18.Files r21).Data 0 (if ((ix r18.Files r21).Data.length : Int) < (if n_ < 0 then 0 else n_) then ((ix r18.Files r21).Data.length : Int) else (if n_ < 0 then 0 else n_)))) (tm Z) Z c26 Z Z (by decide) Z ⟨Z, Z⟩), trivial⟩
  refine xr (xm Z Z Z (xm Z Z Z (xa (.eptr t19 (r21).toNat 0) Z (pu_nilCheck Z (tm Z) Z) ?_)))
  obtain ⟨c27, h⟩ := need_of h
  refine xc Z (op_loadENM (i := 0) (sz := 3) Z isAgg48 sizeOf48 (tm Z) Z c27 (by decide) Z ?_)
  obtain ⟨r28, r28e, h⟩ := bind_some h
  refine xc Z (op_call (vs := [.agg [.str (ix (upd r18.Files r21 { (ix r18.Files r21) with Data := sub (ix r18.Files r21).Data 0 (if ((ix r18.Files r21).Data.length : Int) < (if n_ < 0 then 0 else n_) then ((ix r18.Files r21).Data.length : Int) else (if n_ < 0 then 0 else n_)) }) r21).Name, .str (ix (upd r18.Files r21 { (ix r18.Files r21) with Data := sub (ix r18.Files r21).Data 0 (if ((ix r18.Files r21).Data.length : Int) < (if n_ < 0 then 0 else n_) then ((ix r18.Files r21).Data.length : Int) else (if n_ < 0 then 0 else n_)) }) r21).Data, .i (ix (upd r18.Files r21 { (ix r18.Files r21) with Data := sub (ix r18.Files r21).Data 0 (if ((ix r18.Files r21).Data.length : Int) < (if n_ < 0 then 0 else n_) then ((ix r18.Files r21).Data.length : Int) else (if n_ < 0 then 0 else n_)) }) r21).Synced]]) (H := []) Z call26 ⟨(tm Z), trivial⟩ (List.Perm.refl _) (disk.safe.ok r28e) ?_)
  rintro _ _ ⟨rfl, rfl⟩
  refine xa (.eptr t19 (r21).toNat 0) Z (pu_nilCheck Z (tm Z) Z) (xa (.eptr t19 (r21).toNat 2) Z (fa Z underlying48 Z sizeOf3 Z Z Z) ?_)
  obtain ⟨c29, h⟩ := need_of h
  refine ac0 Z Z (op_storeEM (i := 0) (sz := 3) (y' := ({ Name := (ix (upd r18.Files r21 { (ix r18.Files r21) with Data := sub (ix r18.Files r21).Data 0 (if ((ix r18.Files r21).Data.length : Int) < (if n_ < 0 then 0 else n_) then ((ix r18.Files r21).Data.length : Int) else (if n_ < 0 then 0 else n_)) }) r21).Name, Data := (ix (upd r18.Files r21 { (ix r18.Files r21) with Data := sub (ix r18.Files r21).Data 0 (if ((ix r18.Files r21).Data.length : Int) < (if n_ < 0 then 0 else n_) then ((ix r18.Files r21).Data.length : Int) else (if n_ < 0 then 0 else n_)) }) r21).Data, Synced := r28 } : api.File)) Z sizeOf3 (tm Z) (v := .i r28) (tm Z) Z c29 Z Z (by decide) Z (xe (xr (xc Z (op_loadN (i := 3) Z isAgg25 sizeOf25 (tm Z) Z (nb Z) Z (ac0 Z Z (op_store (i := 2) (cs' := [.vec t19, .vec t20]) Z sizeOf25 (tm Z) (v := .agg [.vec t19, .vec t20]) (tm Z) Z Z Z (nb Z) Z (xa (.i 0) Z (pu_assign Z (AEv.int _ _)) (xe (aw_ret ?_))))))))))
  obtain rfl := some_of h
  exact ⟨[.agg [.vec t19, .vec t20], .i 0], .tup [.agg [.vec t19, .vec t20], .i 0], [(t19, .vec 3 ((upd (upd r18.Files r21 { (ix r18.Files r21) with Data := sub (ix r18.Files r21).Data 0 (if ((ix r18.Files r21).Data.length : Int) < (if n_ < 0 then 0 else n_) then ((ix r18.Files r21).Data.length : Int) else (if n_ < 0 then 0 else n_)) }) r21 ({ Name := (ix (upd r18.Files r21 { (ix r18.Files r21) with Data := sub (ix r18.Files r21).Data 0 (if ((ix r18.Files r21).Data.length : Int) < (if n_ < 0 then 0 else n_) then ((ix r18.Files r21).Data.length : Int) else (if n_ < 0 then 0 else n_)) }) r21).Name, Data := (ix (upd r18.Files r21 { (ix r18.Files r21) with Data := sub (ix r18.Files r21).Data 0 (if ((ix r18.Files r21).Data.length : Int) < (if n_ < 0 then 0 else n_) then ((ix r18.Files r21).Data.length : Int) else (if n_ < 0 then 0 else n_)) }) r21).Data, Synced := r28 } : api.File)).map api.File.av)), (t20, .vec 3 (r18.Faults.map api.Fault.av))], ⟨(CellOk.agg 2 (tm Z) Z isAgg25 sizeOf25 (nb Z) Z), (tm Z), trivial⟩, (AV.Le.tup cr), Weak.mkL [0, 1] (by decide) ⟨⟨_, Z, Z⟩, ⟨_, Z, Z⟩, trivial⟩ trivial, ⟨t19, t20, Z, Z⟩⟩

theorem mewslaw16.faulty.ok {d : api.Disk} {o_ : mewslaw16.Op} {r : api.Disk} (h : mewslaw16.faulty d o_ = some r) : Go.Lift.Spec prog 24 [.agg [.sl .no 3 (d.Files.map api.File.av), .sl .no 3 (d.Faults.map api.Fault.av)], .agg (mewslaw16.Op.ct o_)] [] (fun v H => ∃ n0, v = .agg [.sl .no 3 (r.Files.map api.File.av), .sl (.own n0) 3 (r.Faults.map api.Fault.av)] ∧ H = [(n0, .spare)]) := by
 unfold mewslaw16.faulty at h
 refine Go.Lift.Spec.of_body (rs := [.cell 4 25]) func24 Z Z (nb Z) Z (xr (xc Z (op_box (cs := [.sl .no 3 (d.Files.map api.File.av), .sl .no 3 (d.Faults.map api.Fault.av)]) (v := .agg [.sl .no 3 (d.Files.map api.File.av), .sl .no 3 (d.Faults.map api.Fault.av)]) Z (tm Z) Z Z ?_)))
 intro p8
 refine xc Z (op_box (cs := (mewslaw16.Op.ct o_)) (v := .agg (mewslaw16.Op.ct o_)) Z (tm Z) Z Z ?_)
 intro p9
 refine xc Z (op_alloc (cs := [.sl .full 3 (([] : List api.File).map api.File.av), .sl .full 3 (([] : List api.Fault).map api.Fault.av)]) (v := .agg [.sl .full 3 (([] : List api.File).map api.File.av), .sl .full 3 (([] : List api.Fault).map api.Fault.av)]) Z zeroValue25 Z Z Z ?_)
 intro p10
 refine xe (xr (xc Z (op_buildSlice (xs := (([] : List api.Fault) : List api.Fault).map api.Fault.av) (aparts := []) Z underlying23 sizeOf70 zeroValue70 (by decide) (by decide) trivial Z Z Z (xa (.ptr p8 1) Z (fa Z underlying25 Z sizeOf23 Z Z Z) (xc Z (op_load1 (i := 2) Z isAgg23 (tm Z) Z Z ?_))))))
 obtain ⟨c11, h⟩ := need_of h
 refine xc Z (op_appendFM Z underlying23 underlying23 (.inl Z) typeInfo70 Z Z Z (by decide) (tm Z) (given_sl (tm Z)) c11 ?_)
 intro t12
 refine xm Z Z Z (xe (aw_seq ?_))
 obtain ⟨c13, h⟩ := need_of h
 refine aw_reserve fun p14 => (aw_planR (by decide +kernel) [[], [(4, 0, false)], [], [], [(3, 0, false)], [], [(3, 0, false)], [], [], [(3, 0, false)], [], [], [(1, 0, true), (0, 0, true)], [], [(2, 0, true)]] [[12], [12], [14], [], []] [[[(p14, .resv)], [(p14, .spare)]], [[(t12, .spare)], []], [[(p10, .cells [.sl .full 3 (([] : List api.File).map api.File.av), .sl .full 3 (([] : List api.Fault).map api.Fault.av)])], [(p10, .cells [.sl .no 3 (d.Files.map api.File.av), .sl (.own p14) 3 (((([] : List api.Fault) ++ d.Faults) ++ [({ Name := o_.Name, Kind := IntKind.wrap .i64 (o_.Kind - 5), Short := o_.N } : api.Fault)]).map api.Fault.av)])]], [[(p9, .cells (mewslaw16.Op.ct o_))]], [[(p8, .cells [.sl .no 3 (d.Files.map api.File.av), .sl .no 3 (d.Faults.map api.Fault.av)])]]] [.ptr p8 0, .sl .no 3 (d.Files.map api.File.av), .sl (.own t12) 3 ((([] : List api.Fault) ++ d.Faults).map api.Fault.av), .ptr p9 1, .str o_.Name, .ptr p9 0, .i o_.Kind, .i (IntKind.wrap .i64 (o_.Kind - 5)), .ptr p9 3, .i o_.N, .agg [.str o_.Name, .i (IntKind.wrap .i64 (o_.Kind - 5)), .i o_.N], .sl .full 3 ([({ Name := o_.Name, Kind := IntKind.wrap .i64 (o_.Kind - 5), Short := o_.N } : api.Fault)].map api.Fault.av), .sl (.own p14) 3 (((([] : List api.Fault) ++ d.Faults) ++ [({ Name := o_.Name, Kind := IntKind.wrap .i64 (o_.Kind - 5), Short := o_.N } : api.Fault)]).map api.Fault.av), .agg [.sl .no 3 (d.Files.map api.File.av), .sl (.own p14) 3 (((([] : List api.Fault) ++ d.Faults) ++ [({ Name := o_.Name, Kind := IntKind.wrap .i64 (o_.Kind - 5), Short := o_.N } : api.Fault)]).map api.Fault.av)], .un] (by decide +kernel) Z Z ?_ ?_)
 ·exact ⟨yp Z (fa Z underlying25 Z sizeOf22 Z Z Z), stepg_plain Z (op_load1 (i := 0) Z isAgg22 (tm Z) Z Z ⟨Z, Z⟩), ym Z Z Z, yp Z (fa Z underlying27 Z sizeOf9 Z Z Z), stepg_plain Z (op_load1 (i := 0) Z isAgg9 (tm Z) Z Z ⟨Z, Z⟩), yp Z (fa Z underlying27 Z sizeOf3 Z Z Z), stepg_plain Z (op_load1 (i := 0) Z isAgg3 (tm Z) Z Z ⟨Z, Z⟩), yp Z (pu_int (v := .i (IntKind.wrap .i64 (o_.Kind - 5))) Z Z (tm Z) (AEv.int _ _) Z), yp Z (fa Z underlying27 Z sizeOf3 Z Z Z), stepg_plain Z (op_load1 (i := 0) Z isAgg3 (tm Z) Z Z ⟨Z, Z⟩), yp Z (pu_build (zs := [.str ([] : List UInt8), .i 0, .i 0]) (szs := [1, 1, 1]) (aparts := [(0, .str o_.Name), (1, .i (IntKind.wrap .i64 (o_.Kind - 5))), (2, .i o_.N)]) (cs := [.str o_.Name, .i (IntKind.wrap .i64 (o_.Kind - 5)), .i o_.N]) Z underlying70 zeroValue70 Z ⟨sizeOf9, sizeOf3, sizeOf3, trivial⟩ ⟨Z, (tm Z), ⟨Z, (tm Z), ⟨Z, (tm Z), trivial⟩⟩⟩ Z), stepg_plain Z (op_buildSlice (xs := ([({ Name := o_.Name, Kind := IntKind.wrap .i64 (o_.Kind - 5), Short := o_.N } : api.Fault)] : List api.Fault).map api.Fault.av) (aparts := [(0, .agg [.str o_.Name, .i (IntKind.wrap .i64 (o_.Kind - 5)), .i o_.N])]) Z underlying23 sizeOf70 zeroValue70 (by decide) (by decide) ⟨Z, (tm Z), trivial⟩ Z Z Z ⟨Z, Z⟩), stepg_plain Z (aop_settleS (op_appendOM (q := 0) Z underlying23 underlying23 (.inl Z) typeInfo70 Z Z Z (by decide) (tm Z) Z (given_sl (tm Z)) c13 fun t => ⟨t, Z, Z⟩) ⟨Z, Z⟩), yp Z (pu_build (zs := [.sl .full 3 (([] : List api.File).map api.File.av), .sl .full 3 (([] : List api.Fault).map api.Fault.av)]) (szs := [1, 1]) (aparts := [(0, .sl .no 3 (d.Files.map api.File.av)), (1, .sl (.own p14) 3 (((([] : List api.Fault) ++ d.Faults) ++ [({ Name := o_.Name, Kind := IntKind.wrap .i64 (o_.Kind - 5), Short := o_.N } : api.Fault)]).map api.Fault.av))]) (cs := [.sl .no 3 (d.Files.map api.File.av), .sl (.own p14) 3 (((([] : List api.Fault) ++ d.Faults) ++ [({ Name := o_.Name, Kind := IntKind.wrap .i64 (o_.Kind - 5), Short := o_.N } : api.Fault)]).map api.Fault.av)]) Z underlying25 zeroValue25 Z ⟨sizeOf22, sizeOf23, trivial⟩ ⟨Z, (tm Z), ⟨Z, (tm Z), trivial⟩⟩ Z), stepg_plain Z (op_store (i := 0) (cs' := [.sl .no 3 (d.Files.map api.File.av), .sl (.own p14) 3 (((([] : List api.Fault) ++ d.Faults) ++ [({ Name := o_.Name, Kind := IntKind.wrap .i64 (o_.Kind - 5), Short := o_.N } : api.Fault)]).map api.Fault.av)]) Z sizeOf25 (tm Z) (v := .agg [.sl .no 3 (d.Files.map api.File.av), .sl (.own p14) 3 (((([] : List api.Fault) ++ d.Faults) ++ [({ Name := o_.Name, Kind := IntKind.wrap .i64 (o_.Kind - 5), Short := o_.N } : api.Fault)]).map api.Fault.av)]) (tm Z) Z Z Z (nb Z) Z ⟨Z, Z⟩), trivial⟩
 refine aw_ret ?_
 obtain rfl := some_of h
 exact ⟨[.agg [.sl .no 3 (d.Files.map api.File.av), .sl (.own p14) 3 (((([] : List api.Fault) ++ d.Faults) ++ [({ Name := o_.Name, Kind := IntKind.wrap .i64 (o_.Kind - 5), Short := o_.N } : api.Fault)]).map api.Fault.av)]], _, [(p14, .spare)], ⟨(CellOk.agg 1 (tm Z) Z isAgg25 sizeOf25 (nb Z) Z), trivial⟩, vr, Weak.mkL [0] (by decide) ⟨⟨_, Z, Z⟩, trivial⟩ trivial, ⟨p14, Z, Z⟩⟩

theorem mewslaw16.does.ok {d : api.Disk} {o_ : mewslaw16.Op} {r : api.Disk × Int × Int} (h : mewslaw16.does d o_ = some r) : Go.Lift.Spec prog 8 [.agg [.sl .no 3 (d.Files.map api.File.av), .sl .no 3 (d.Faults.map api.Fault.av)], .agg (mewslaw16.Op.ct o_)] [] (fun v H => v = .tup [.agg [.sl .no 3 (r.1.Files.map api.File.av), .sl .no 3 (r.1.Faults.map api.Fault.av)], .i r.2.1, .i r.2.2] ∧ H = []) := by
 unfold mewslaw16.does at h
 refine Go.Lift.Spec.of_body (rs := [.cell 4 25, .tmp 5, .tmp 6]) func8 Z Z (nb Z) Z (xr (xc Z (op_box (cs := [.sl .no 3 (d.Files.map api.File.av), .sl .no 3 (d.Faults.map api.Fault.av)]) (v := .agg [.sl .no 3 (d.Files.map api.File.av), .sl .no 3 (d.Faults.map api.Fault.av)]) Z (tm Z) Z Z ?_)))
 intro p57
 refine xc Z (op_box (cs := (mewslaw16.Op.ct o_)) (v := .agg (mewslaw16.Op.ct o_)) Z (tm Z) Z Z ?_)
 intro p58
 refine xc Z (op_alloc (cs := [.sl .full 3 (([] : List api.File).map api.File.av), .sl .full 3 (([] : List api.Fault).map api.Fault.av)]) (v := .agg [.sl .full 3 (([] : List api.File).map api.File.av), .sl .full 3 (([] : List api.Fault).map api.Fault.av)]) Z zeroValue25 Z Z Z ?_)
 intro p59
 refine xa (.i 0) Z (pu_assign Z (AEv.int _ _)) (xa (.i 0) Z (pu_assign Z (AEv.int _ _)) (xe (xr (xa (.i 0) Z (pu_assign Z (AEv.int _ _)) (xa (.i 0) Z (pu_assign Z (AEv.int _ _)) (xe ?_))))))
 obtain ⟨s85, s85e, h86⟩ := bind_some h
 refine aw_meet (ν := Unit) (fun v => [(2, .ptr p57 0), (4, .ptr p59 0), (7, .i s85.1), (8, .i s85.2.1)]) (fun v => [(p57, .cells [.sl .no 3 (s85.2.2.1.map api.File.av), .sl .no 3 (s85.2.2.2.map api.Fault.av)]), (p59, .cells [.sl .full 3 (([] : List api.File).map api.File.av), .sl .full 3 (([] : List api.Fault).map api.Fault.av)])]) ?_ ?_
 ·have h := s85e
  refine xr (xa (.ptr p58 0) Z (fa Z underlying27 Z sizeOf3 Z Z Z) (xc Z (op_load1 (i := 1) Z isAgg3 (tm Z) Z Z (xe (aw_block (xr (xa (.bool (decide (o_.Kind = 0))) Z (pu_int (v := .bool (decide (o_.Kind = 0))) Z Z (tm Z) (AEv.int _ _) Z) (xm Z Z Z ?_))))))))
  refine xe (aw_cond (b := decide (o_.Kind = 0)) (tm Z) (fun hb112 => ?_) (fun hb112 => ?_))
  ·replace h := ite_t (dec_t hb112) h
   refine aw_region (xc Z (op_loadN (i := 2) Z isAgg25 sizeOf25 (tm Z) Z (nb Z) Z (xa (.ptr p58 1) Z (fa Z underlying27 Z sizeOf9 Z Z Z) (xc Z (op_load1 (i := 1) Z isAgg9 (tm Z) Z Z (xa (.ptr p58 2) Z (fa Z underlying27 Z sizeOf9 Z Z Z) (xc Z (op_load1 (i := 1) Z isAgg9 (tm Z) Z Z ?_))))))))
   obtain ⟨r88, r88e, h⟩ := bind_some h
   refine xc Z (op_call (vs := [.agg [.sl .no 3 (d.Files.map api.File.av), .sl .no 3 (d.Faults.map api.Fault.av)], .str o_.Name, .str o_.S]) (H := []) Z call19 ⟨(tm Z), (tm Z), (tm Z), trivial⟩ (List.Perm.refl _) (disk.Write.ok r88e) ?_)
   rintro _ _ ⟨t89, t90, rfl, rfl⟩
   refine xm Z Z Z (xa (.agg [.vec t89, .vec t90]) Z (pu_extract Z (tm Z) (nb Z) Z) (xa (.i r88.2.1) Z (pu_extract Z (tm Z) (nb Z) Z) (xa (.i r88.2.2) Z (pu_extract Z (tm Z) (nb Z) Z) (aops_pub 0 [(23, .agg [.sl .no 3 (r88.1.Files.map api.File.av), .vec t90])] Z ⟨⟨_, tm Z, (PubTo.agg ⟨PubTo.vec, (PubTo.refl _), trivial⟩)⟩, trivial⟩ (aops_pub 0 [(23, .agg [.sl .no 3 (r88.1.Files.map api.File.av), .sl .no 3 (r88.1.Faults.map api.Fault.av)])] Z ⟨⟨_, tm Z, (PubTo.agg ⟨(PubTo.refl _), PubTo.vec, trivial⟩)⟩, trivial⟩ (ac0 Z Z (op_store (i := 2) (cs' := [.sl .no 3 (r88.1.Files.map api.File.av), .sl .no 3 (r88.1.Faults.map api.Fault.av)]) Z sizeOf25 (tm Z) (v := .agg [.sl .no 3 (r88.1.Files.map api.File.av), .sl .no 3 (r88.1.Faults.map api.Fault.av)]) (tm Z) Z Z Z (nb Z) Z (xm Z Z Z (xm Z Z Z (xe ?_))))))))))
   obtain rfl := some_of h
   exact ⟨(), Weak.mkL [2, 0] (by decide) ⟨⟨_, Z, cr, Z⟩, ⟨_, Z, cr, Z⟩, trivial⟩ ⟨tm Z, tm Z, tm Z, tm Z, trivial⟩⟩
  ·replace h := ite_f (dec_f hb112) h
   refine xr (xa (.bool (decide (o_.Kind = 1))) Z (pu_int (v := .bool (decide (o_.Kind = 1))) Z Z (tm Z) (AEv.int _ _) Z) (xm Z Z Z (xe (aw_cond (b := decide (o_.Kind = 1)) (tm Z) (fun hb111 => ?_) (fun hb111 => ?_)))))
   ·replace h := ite_t (dec_t hb111) h
    refine aw_region (xc Z (op_loadN (i := 2) Z isAgg25 sizeOf25 (tm Z) Z (nb Z) Z (xa (.ptr p58 1) Z (fa Z underlying27 Z sizeOf9 Z Z Z) (xc Z (op_load1 (i := 1) Z isAgg9 (tm Z) Z Z ?_)))))
    obtain ⟨r91, r91e, h⟩ := bind_some h
    refine xc Z (op_call (vs := [.agg [.sl .no 3 (d.Files.map api.File.av), .sl .no 3 (d.Faults.map api.Fault.av)], .str o_.Name]) (H := []) Z call20 ⟨(tm Z), (tm Z), trivial⟩ (List.Perm.refl _) (disk.Sync.ok r91e) ?_)
    rintro _ _ ⟨t92, t93, rfl, rfl⟩
    refine xm Z Z Z (xa (.agg [.vec t92, .vec t93]) Z (pu_extract Z (tm Z) (nb Z) Z) (xa (.i r91.2) Z (pu_extract Z (tm Z) (nb Z) Z) (aops_pub 0 [(33, .agg [.sl .no 3 (r91.1.Files.map api.File.av), .vec t93])] Z ⟨⟨_, tm Z, (PubTo.agg ⟨PubTo.vec, (PubTo.refl _), trivial⟩)⟩, trivial⟩ (aops_pub 0 [(33, .agg [.sl .no 3 (r91.1.Files.map api.File.av), .sl .no 3 (r91.1.Faults.map api.Fault.av)])] Z ⟨⟨_, tm Z, (PubTo.agg ⟨(PubTo.refl _), PubTo.vec, trivial⟩)⟩, trivial⟩ (ac0 Z Z (op_store (i := 2) (cs' := [.sl .no 3 (r91.1.Files.map api.File.av), .sl .no 3 (r91.1.Faults.map api.Fault.av)]) Z sizeOf25 (tm Z) (v := .agg [.sl .no 3 (r91.1.Files.map api.File.av), .sl .no 3 (r91.1.Faults.map api.Fault.av)]) (tm Z) Z Z Z (nb Z) Z (xm Z Z Z (xe ?_))))))))
    obtain rfl := some_of h
    exact ⟨(), Weak.mkL [2, 0] (by decide) ⟨⟨_, Z, cr, Z⟩, ⟨_, Z, cr, Z⟩, trivial⟩ ⟨tm Z, tm Z, tm Z, tm Z, trivial⟩⟩
   ·replace h := ite_f (dec_f hb111) h
    refine xr (xa (.bool (decide (o_.Kind = 2))) Z (pu_int (v := .bool (decide (o_.Kind = 2))) Z Z (tm Z) (AEv.int _ _) Z) (xm Z Z Z (xe (aw_cond (b := decide (o_.Kind = 2)) (tm Z) (fun hb110 => ?_) (fun hb110 => ?_)))))
    ·replace h := ite_t (dec_t hb110) h
     refine aw_region (xc Z (op_loadN (i := 2) Z isAgg25 sizeOf25 (tm Z) Z (nb Z) Z (xa (.ptr p58 1) Z (fa Z underlying27 Z sizeOf9 Z Z Z) (xc Z (op_load1 (i := 1) Z isAgg9 (tm Z) Z Z (xa (.ptr p58 2) Z (fa Z underlying27 Z sizeOf9 Z Z Z) (xc Z (op_load1 (i := 1) Z isAgg9 (tm Z) Z Z ?_))))))))
     obtain ⟨r94, r94e, h⟩ := bind_some h
     refine xc Z (op_call (vs := [.agg [.sl .no 3 (d.Files.map api.File.av), .sl .no 3 (d.Faults.map api.Fault.av)], .str o_.Name, .str o_.S]) (H := []) Z call21 ⟨(tm Z), (tm Z), (tm Z), trivial⟩ (List.Perm.refl _) (disk.Rename.ok r94e) ?_)
     rintro _ _ ⟨t95, t96, rfl, rfl⟩
     refine xm Z Z Z (xa (.agg [.vec t95, .vec t96]) Z (pu_extract Z (tm Z) (nb Z) Z) (xa (.i r94.2) Z (pu_extract Z (tm Z) (nb Z) Z) (aops_pub 0 [(44, .agg [.sl .no 3 (r94.1.Files.map api.File.av), .vec t96])] Z ⟨⟨_, tm Z, (PubTo.agg ⟨PubTo.vec, (PubTo.refl _), trivial⟩)⟩, trivial⟩ (aops_pub 0 [(44, .agg [.sl .no 3 (r94.1.Files.map api.File.av), .sl .no 3 (r94.1.Faults.map api.Fault.av)])] Z ⟨⟨_, tm Z, (PubTo.agg ⟨(PubTo.refl _), PubTo.vec, trivial⟩)⟩, trivial⟩ (ac0 Z Z (op_store (i := 2) (cs' := [.sl .no 3 (r94.1.Files.map api.File.av), .sl .no 3 (r94.1.Faults.map api.Fault.av)]) Z sizeOf25 (tm Z) (v := .agg [.sl .no 3 (r94.1.Files.map api.File.av), .sl .no 3 (r94.1.Faults.map api.Fault.av)]) (tm Z) Z Z Z (nb Z) Z (xm Z Z Z (xe ?_))))))))
     obtain rfl := some_of h
     exact ⟨(), Weak.mkL [2, 0] (by decide) ⟨⟨_, Z, cr, Z⟩, ⟨_, Z, cr, Z⟩, trivial⟩ ⟨tm Z, tm Z, tm Z, tm Z, trivial⟩⟩
    ·replace h := ite_f (dec_f hb110) h
     refine xr (xa (.bool (decide (o_.Kind = 3))) Z (pu_int (v := .bool (decide (o_.Kind = 3))) Z Z (tm Z) (AEv.int _ _) Z) (xm Z Z Z (xe (aw_cond (b := decide (o_.Kind = 3)) (tm Z) (fun hb109 => ?_) (fun hb109 => ?_)))))
     ·replace h := ite_t (dec_t hb109) h
      refine aw_region (xc Z (op_loadN (i := 2) Z isAgg25 sizeOf25 (tm Z) Z (nb Z) Z (xa (.ptr p58 1) Z (fa Z underlying27 Z sizeOf9 Z Z Z) (xc Z (op_load1 (i := 1) Z isAgg9 (tm Z) Z Z ?_)))))
      obtain ⟨r97, r97e, h⟩ := bind_some h
      refine xc Z (op_call (vs := [.agg [.sl .no 3 (d.Files.map api.File.av), .sl .no 3 (d.Faults.map api.Fault.av)], .str o_.Name]) (H := []) Z call22 ⟨(tm Z), (tm Z), trivial⟩ (List.Perm.refl _) (disk.Remove.ok r97e) ?_)
      rintro _ _ ⟨t98, t99, rfl, rfl⟩
      refine aops_pub 0 [(51, .agg [.sl .no 3 (r97.Files.map api.File.av), .vec t99])] Z ⟨⟨_, tm Z, (PubTo.agg ⟨PubTo.vec, (PubTo.refl _), trivial⟩)⟩, trivial⟩ (aops_pub 0 [(51, .agg [.sl .no 3 (r97.Files.map api.File.av), .sl .no 3 (r97.Faults.map api.Fault.av)])] Z ⟨⟨_, tm Z, (PubTo.agg ⟨(PubTo.refl _), PubTo.vec, trivial⟩)⟩, trivial⟩ (ac0 Z Z (op_store (i := 2) (cs' := [.sl .no 3 (r97.Files.map api.File.av), .sl .no 3 (r97.Faults.map api.Fault.av)]) Z sizeOf25 (tm Z) (v := .agg [.sl .no 3 (r97.Files.map api.File.av), .sl .no 3 (r97.Faults.map api.Fault.av)]) (tm Z) Z Z Z (nb Z) Z (xe ?_))))
      obtain rfl := some_of h
      exact ⟨(), Weak.mkL [2, 0] (by decide) ⟨⟨_, Z, cr, Z⟩, ⟨_, Z, cr, Z⟩, trivial⟩ ⟨tm Z, tm Z, tm Z, tm Z, trivial⟩⟩
     ·replace h := ite_f (dec_f hb109) h
      refine xr (xa (.bool (decide (o_.Kind = 4))) Z (pu_int (v := .bool (decide (o_.Kind = 4))) Z Z (tm Z) (AEv.int _ _) Z) (xm Z Z Z (xe (aw_cond (b := decide (o_.Kind = 4)) (tm Z) (fun hb108 => ?_) (fun hb108 => ?_)))))
      ·replace h := ite_t (dec_t hb108) h
       refine aw_region (xc Z (op_loadN (i := 2) Z isAgg25 sizeOf25 (tm Z) Z (nb Z) Z (xa (.ptr p58 1) Z (fa Z underlying27 Z sizeOf9 Z Z Z) (xc Z (op_load1 (i := 1) Z isAgg9 (tm Z) Z Z (xa (.ptr p58 3) Z (fa Z underlying27 Z sizeOf3 Z Z Z) (xc Z (op_load1 (i := 1) Z isAgg3 (tm Z) Z Z ?_))))))))
       obtain ⟨r100, r100e, h⟩ := bind_some h
       refine xc Z (op_call (vs := [.agg [.sl .no 3 (d.Files.map api.File.av), .sl .no 3 (d.Faults.map api.Fault.av)], .str o_.Name, .i o_.N]) (H := []) Z call23 ⟨(tm Z), (tm Z), (tm Z), trivial⟩ (List.Perm.refl _) (disk.Cut.ok r100e) ?_)
       rintro _ _ ⟨t101, t102, rfl, rfl⟩
       refine xm Z Z Z (xa (.agg [.vec t101, .vec t102]) Z (pu_extract Z (tm Z) (nb Z) Z) (xa (.i r100.2) Z (pu_extract Z (tm Z) (nb Z) Z) (aops_pub 0 [(61, .agg [.sl .no 3 (r100.1.Files.map api.File.av), .vec t102])] Z ⟨⟨_, tm Z, (PubTo.agg ⟨PubTo.vec, (PubTo.refl _), trivial⟩)⟩, trivial⟩ (aops_pub 0 [(61, .agg [.sl .no 3 (r100.1.Files.map api.File.av), .sl .no 3 (r100.1.Faults.map api.Fault.av)])] Z ⟨⟨_, tm Z, (PubTo.agg ⟨(PubTo.refl _), PubTo.vec, trivial⟩)⟩, trivial⟩ (ac0 Z Z (op_store (i := 2) (cs' := [.sl .no 3 (r100.1.Files.map api.File.av), .sl .no 3 (r100.1.Faults.map api.Fault.av)]) Z sizeOf25 (tm Z) (v := .agg [.sl .no 3 (r100.1.Files.map api.File.av), .sl .no 3 (r100.1.Faults.map api.Fault.av)]) (tm Z) Z Z Z (nb Z) Z (xm Z Z Z (xe ?_))))))))
       obtain rfl := some_of h
       exact ⟨(), Weak.mkL [2, 0] (by decide) ⟨⟨_, Z, cr, Z⟩, ⟨_, Z, cr, Z⟩, trivial⟩ ⟨tm Z, tm Z, tm Z, tm Z, trivial⟩⟩
      ·replace h := ite_f (dec_f hb108) h
       refine xr (xa (.bool (decide (o_.Kind = 5))) Z (pu_int (v := .bool (decide (o_.Kind = 5))) Z Z (tm Z) (AEv.int _ _) Z) (xm Z Z Z (xe (aw_cond (b := decide (o_.Kind = 5)) (tm Z) (fun hb107 => ?_) (fun hb107 => ?_)))))
       ·replace h := ite_t (dec_t hb107) h
        refine aw_region (xc Z (op_loadN (i := 2) Z isAgg25 sizeOf25 (tm Z) Z (nb Z) Z (xa (.ptr p58 1) Z (fa Z underlying27 Z sizeOf9 Z Z Z) (xc Z (op_load1 (i := 1) Z isAgg9 (tm Z) Z Z (xa (.ptr p58 3) Z (fa Z underlying27 Z sizeOf3 Z Z Z) (xc Z (op_load1 (i := 1) Z isAgg3 (tm Z) Z Z (xa (.agg [.str o_.Name, .i o_.N]) Z (pu_build (zs := [.str ([] : List UInt8), .i 0]) (szs := [1, 1]) (aparts := [(0, .str o_.Name), (1, .i o_.N)]) (cs := [.str o_.Name, .i o_.N]) Z underlying56 zeroValue56 Z ⟨sizeOf9, sizeOf3, trivial⟩ ⟨Z, (tm Z), ⟨Z, (tm Z), trivial⟩⟩ Z) (xa (.ptr p58 1) Z (fa Z underlying27 Z sizeOf9 Z Z Z) (xc Z (op_load1 (i := 1) Z isAgg9 (tm Z) Z Z (xa (.agg [.str o_.Name, .i 1]) Z (pu_build (zs := [.str ([] : List UInt8), .i 0]) (szs := [1, 1]) (aparts := [(0, .str o_.Name), (1, .i 1)]) (cs := [.str o_.Name, .i 1]) Z underlying56 zeroValue56 Z ⟨sizeOf9, sizeOf3, trivial⟩ ⟨Z, (tm Z), ⟨Z, (AEv.int _ _), trivial⟩⟩ Z) ?_)))))))))))))
        refine xc Z (op_buildSlice (xs := ([({ Name := o_.Name, Bytes := o_.N } : api.Keep), ({ Name := o_.Name, Bytes := 1 } : api.Keep)] : List api.Keep).map api.Keep.av) (aparts := [(0, .agg [.str o_.Name, .i o_.N]), (1, .agg [.str o_.Name, .i 1])]) Z underlying38 sizeOf56 zeroValue56 (by decide) (by decide) ⟨Z, (tm Z), ⟨Z, (tm Z), trivial⟩⟩ Z Z Z ?_)
        obtain ⟨r103, r103e, h⟩ := bind_some h
        refine xc Z (op_call (vs := [.agg [.sl .no 3 (d.Files.map api.File.av), .sl .no 3 (d.Faults.map api.Fault.av)], .sl .no 2 ([({ Name := o_.Name, Bytes := o_.N } : api.Keep), ({ Name := o_.Name, Bytes := 1 } : api.Keep)].map api.Keep.av)]) (H := []) Z call11 ⟨(tm Z), (AEv.le (tm Z) (AV.Le.forget _ _ _)), trivial⟩ (List.Perm.refl _) (disk.Crash.ok r103e) ?_)
        rintro _ _ ⟨t104, rfl, rfl⟩
        refine ac0 Z Z (op_store (i := 3) (cs' := [.sl (.own t104) 3 (r103.Files.map api.File.av), .sl .full 3 (r103.Faults.map api.Fault.av)]) Z sizeOf25 (tm Z) (v := .agg [.sl (.own t104) 3 (r103.Files.map api.File.av), .sl .full 3 (r103.Faults.map api.Fault.av)]) (tm Z) Z Z Z (nb Z) Z (xe ?_))
        obtain rfl := some_of h
        exact ⟨(), Weak.mkL [3, 1] (by decide) ⟨⟨_, Z, ⟨(AV.Le.forget _ _ _), (AV.Le.forget _ _ _), trivial⟩, Z⟩, ⟨_, Z, cr, Z⟩, trivial⟩ ⟨tm Z, tm Z, tm Z, tm Z, trivial⟩⟩
       ·replace h := ite_f (dec_f hb107) h
        refine aw_region (xc Z (op_loadN (i := 2) Z isAgg25 sizeOf25 (tm Z) Z (nb Z) Z (xc Z (op_loadN (i := 1) Z isAgg27 sizeOf27 (tm Z) Z (nb Z) Z ?_))))
        obtain ⟨r105, r105e, h⟩ := bind_some h
        refine xc Z (op_call (vs := [.agg [.sl .no 3 (d.Files.map api.File.av), .sl .no 3 (d.Faults.map api.Fault.av)], .agg (mewslaw16.Op.ct o_)]) (H := []) Z call24 ⟨(tm Z), (tm Z), trivial⟩ (List.Perm.refl _) (mewslaw16.faulty.ok r105e) ?_)
        rintro _ _ ⟨t106, rfl, rfl⟩
        refine ac0 Z Z (op_store (i := 3) (cs' := [.sl .no 3 (r105.Files.map api.File.av), .sl (.own t106) 3 (r105.Faults.map api.Fault.av)]) Z sizeOf25 (tm Z) (v := .agg [.sl .no 3 (r105.Files.map api.File.av), .sl (.own t106) 3 (r105.Faults.map api.Fault.av)]) (tm Z) Z Z Z (nb Z) Z (xe ?_))
        obtain rfl := some_of h
        exact ⟨(), Weak.mkL [3, 1] (by decide) ⟨⟨_, Z, ⟨vr, (AV.Le.forget _ _ _), trivial⟩, Z⟩, ⟨_, Z, cr, Z⟩, trivial⟩ ⟨tm Z, tm Z, tm Z, tm Z, trivial⟩⟩
 ·intro _
  have h := h86
  refine xr (xc Z (op_loadN (i := 0) Z isAgg25 sizeOf25 (tm Z) Z (nb Z) Z (xm Z Z Z (xm Z Z Z (ac0 Z Z (op_store (i := 1) (cs' := [.sl .no 3 (s85.2.2.1.map api.File.av), .sl .no 3 (s85.2.2.2.map api.Fault.av)]) Z sizeOf25 (tm Z) (v := .agg [.sl .no 3 (s85.2.2.1.map api.File.av), .sl .no 3 (s85.2.2.2.map api.Fault.av)]) (tm Z) Z Z Z (nb Z) Z (xm Z Z Z (xm Z Z Z (xe (aw_ret ?_))))))))))
  obtain rfl := some_of h
  exact ⟨[.agg [.sl .no 3 (s85.2.2.1.map api.File.av), .sl .no 3 (s85.2.2.2.map api.Fault.av)], .i s85.1, .i s85.2.1], .tup [.agg [.sl .no 3 (s85.2.2.1.map api.File.av), .sl .no 3 (s85.2.2.2.map api.Fault.av)], .i s85.1, .i s85.2.1], [], ⟨(CellOk.agg 1 (tm Z) Z isAgg25 sizeOf25 (nb Z) Z), (tm Z), (tm Z), trivial⟩, (AV.Le.tup cr), Weak.mkL [] (by decide) trivial trivial, ⟨Z, Z⟩⟩

theorem mewslaw16.DiskApart.ok {d : api.Disk} {o_ : mewslaw16.Op} {other : List UInt8} {r : Bool} (h : mewslaw16.DiskApart d o_ other = some r) : Go.Lift.Spec prog 3 [.agg [.sl .no 3 (d.Files.map api.File.av), .sl .no 3 (d.Faults.map api.Fault.av)], .agg (mewslaw16.Op.ct o_), .str other] [] (fun v H => v = .bool r ∧ H = []) := by
 unfold mewslaw16.DiskApart at h
 refine Go.Lift.Spec.of_body (rs := [.tmp 6]) func3 Z Z (nb Z) Z (xr (xc Z (op_box (cs := [.sl .no 3 (d.Files.map api.File.av), .sl .no 3 (d.Faults.map api.Fault.av)]) (v := .agg [.sl .no 3 (d.Files.map api.File.av), .sl .no 3 (d.Faults.map api.Fault.av)]) Z (tm Z) Z Z ?_)))
 intro p63
 refine xc Z (op_box (cs := (mewslaw16.Op.ct o_)) (v := .agg (mewslaw16.Op.ct o_)) Z (tm Z) Z Z ?_)
 intro p64
 refine xa (.bool false) Z (pu_assign Z (AEv.bool _)) (xe (aw_seq ?_))
 obtain ⟨s71, s71e, h72⟩ := bind_some h
 refine aw_meet (ν := Unit) (fun v => [(2, .str other), (3, .ptr p63 0), (4, .ptr p64 0), (48, .bool s71)]) (fun v => [(p63, .cells [.sl .no 3 (d.Files.map api.File.av), .sl .no 3 (d.Faults.map api.Fault.av)]), (p64, .cells (mewslaw16.Op.ct o_))]) ?_ ?_
 ·have h := s71e
  refine aw_region (xc Z (op_loadN (i := 1) Z isAgg25 sizeOf25 (tm Z) Z (nb Z) Z (xc Z (op_loadN (i := 0) Z isAgg27 sizeOf27 (tm Z) Z (nb Z) Z (xc Z (op_buildSlice (xs := ([o_] : List mewslaw16.Op).map mewslaw16.Op.av) (aparts := [(0, .agg (mewslaw16.Op.ct o_))]) Z underlying29 sizeOf27 zeroValue27 (by decide) (by decide) ⟨Z, (tm Z), trivial⟩ Z Z Z ?_))))))
  obtain ⟨r74, r74e, h⟩ := bind_some h
  refine xc Z (op_call (vs := [.agg [.sl .no 3 (d.Files.map api.File.av), .sl .no 3 (d.Faults.map api.Fault.av)], .sl .no 4 ([o_].map mewslaw16.Op.av)]) (H := []) Z call6 ⟨(tm Z), (AEv.le (tm Z) (AV.Le.forget _ _ _)), trivial⟩ (List.Perm.refl _) (mewslaw16.Far.ok r74e) ?_)
  rintro _ _ ⟨rfl, rfl⟩
  refine xm Z Z Z ?_
  rcases Bool.eq_false_or_eq_true r74 with hb75 | hb75
  ·replace h := ite_t hb75 h
   refine aops_known 22 Z hb75 (xn Z Z Z (xn Z Z Z (xn Z Z Z (xa (.bool true) Z (pu_pick (b := true) Z (tm Z) (fun _ => (AEv.bool _)) (fun h => nomatch h)) (xm Z Z Z (xn Z Z Z (xn Z Z Z (xn Z Z Z (xa (.bool true) Z (pu_pick (b := true) Z (tm Z) (fun _ => (AEv.bool _)) (fun h => nomatch h)) ?_)))))))))
   refine xm Z Z Z (xn Z Z Z (xn Z Z Z (xn Z Z Z (xn Z Z Z (xa (.bool true) Z (pu_pick (b := true) Z (tm Z) (fun _ => (AEv.bool _)) (fun h => nomatch h)) (xm Z Z Z (xn Z Z Z (xn Z Z Z (xn Z Z Z ?_)))))))))
   refine xn Z Z Z (xv Z Z (xv Z Z (xv Z Z (xv Z Z (xn Z Z Z (xa (.bool true) Z (pu_pick (b := true) Z (tm Z) (fun _ => (AEv.bool _)) (fun h => nomatch h)) (xe ?_)))))))
   obtain rfl := some_of h
   exact ⟨(), Weak.mkL [1, 0] (by decide) ⟨⟨_, Z, cr, Z⟩, ⟨_, Z, cr, Z⟩, trivial⟩ ⟨tm Z, tm Z, tm Z, tm Z, trivial⟩⟩
  ·replace h := ite_fb hb75 h
   refine aops_known 22 Z hb75 (xq Z Z Z Z (xp (.i (other.length : Int)) Z Z (pu_strLen Z underlying9 (tm Z)) (xp (.bool (decide (1000 < (other.length : Int)))) Z Z (pu_int (v := .bool (decide (1000 < (other.length : Int)))) Z Z (tm Z) (AEv.int _ _) Z) (xa (.bool (decide (1000 < (other.length : Int)))) Z (pu_pick (b := false) Z (tm Z) (fun h => nomatch h) (fun _ => (tm Z))) (xm Z Z Z ?_)))))
   rcases Bool.eq_false_or_eq_true (decide (1000 < (other.length : Int))) with hb76 | hb76
   ·replace h := ite_t (dec_t hb76) h
    refine aops_known 27 Z hb76 (xn Z Z Z (xn Z Z Z (xn Z Z Z (xa (.bool true) Z (pu_pick (b := true) Z (tm Z) (fun _ => (AEv.bool _)) (fun h => nomatch h)) (xm Z Z Z (xn Z Z Z (xn Z Z Z (xn Z Z Z (xn Z Z Z ?_)))))))))
    refine xa (.bool true) Z (pu_pick (b := true) Z (tm Z) (fun _ => (AEv.bool _)) (fun h => nomatch h)) (xm Z Z Z (xn Z Z Z (xn Z Z Z (xn Z Z Z (xn Z Z Z (xv Z Z (xv Z Z (xv Z Z (xv Z Z ?_)))))))))
    refine xn Z Z Z (xa (.bool true) Z (pu_pick (b := true) Z (tm Z) (fun _ => (AEv.bool _)) (fun h => nomatch h)) (xe ?_))
    obtain rfl := some_of h
    exact ⟨(), Weak.mkL [1, 0] (by decide) ⟨⟨_, Z, cr, Z⟩, ⟨_, Z, cr, Z⟩, trivial⟩ ⟨tm Z, tm Z, tm Z, tm Z, trivial⟩⟩
   ·replace h := ite_f (dec_f hb76) h
    refine aops_known 27 Z hb76 (xp (.ptr p64 0) Z Z (fa Z underlying27 Z sizeOf3 Z Z Z) (xg Z Z (op_load1 (i := 0) Z isAgg3 (tm Z) Z Z (xp (.bool (decide (o_.Kind = 5))) Z Z (pu_int (v := .bool (decide (o_.Kind = 5))) Z Z (tm Z) (AEv.int _ _) Z) (xa (.bool (decide (o_.Kind = 5))) Z (pu_pick (b := false) Z (tm Z) (fun h => nomatch h) (fun _ => (tm Z))) (xm Z Z Z ?_))))))
    rcases Bool.eq_false_or_eq_true (decide (o_.Kind = 5)) with hb77 | hb77
    ·replace h := ite_t (dec_t hb77) h
     refine aops_known 32 Z hb77 (xn Z Z Z (xn Z Z Z (xn Z Z Z (xn Z Z Z (xa (.bool true) Z (pu_pick (b := true) Z (tm Z) (fun _ => (AEv.bool _)) (fun h => nomatch h)) (xm Z Z Z (xn Z Z Z (xn Z Z Z (xn Z Z Z ?_)))))))))
     refine xn Z Z Z (xv Z Z (xv Z Z (xv Z Z (xv Z Z (xn Z Z Z (xa (.bool true) Z (pu_pick (b := true) Z (tm Z) (fun _ => (AEv.bool _)) (fun h => nomatch h)) (xe ?_)))))))
     obtain rfl := some_of h
     exact ⟨(), Weak.mkL [1, 0] (by decide) ⟨⟨_, Z, cr, Z⟩, ⟨_, Z, cr, Z⟩, trivial⟩ ⟨tm Z, tm Z, tm Z, tm Z, trivial⟩⟩
    ·replace h := ite_f (dec_f hb77) h
     refine aops_known 32 Z hb77 (xp (.ptr p64 1) Z Z (fa Z underlying27 Z sizeOf9 Z Z Z) (xg Z Z (op_load1 (i := 0) Z isAgg9 (tm Z) Z Z (xq Z Z Z Z (xp (.bool (decide (o_.Name = other))) Z Z (pu_str (v := .bool (decide (o_.Name = other))) Z Z (tm Z) (tm Z) Z) (xa (.bool (decide (o_.Name = other))) Z (pu_pick (b := false) Z (tm Z) (fun h => nomatch h) (fun _ => (tm Z))) (xm Z Z Z ?_)))))))
     rcases Bool.eq_false_or_eq_true (decide (o_.Name = other)) with hb78 | hb78
     ·replace h := ite_t (dec_t hb78) h
      refine aops_known 38 Z hb78 (xn Z Z Z (xn Z Z Z (xn Z Z Z (xn Z Z Z (xv Z Z (xv Z Z (xv Z Z (xv Z Z (xn Z Z Z ?_)))))))))
      refine xa (.bool true) Z (pu_pick (b := true) Z (tm Z) (fun _ => (AEv.bool _)) (fun h => nomatch h)) (xe ?_)
      obtain rfl := some_of h
      exact ⟨(), Weak.mkL [1, 0] (by decide) ⟨⟨_, Z, cr, Z⟩, ⟨_, Z, cr, Z⟩, trivial⟩ ⟨tm Z, tm Z, tm Z, tm Z, trivial⟩⟩
     ·replace h := ite_f (dec_f hb78) h
      refine aops_known 38 Z hb78 (xp (.ptr p64 0) Z Z (fa Z underlying27 Z sizeOf3 Z Z Z) (xg Z Z (op_load1 (i := 0) Z isAgg3 (tm Z) Z Z (xp (.bool (decide (o_.Kind = 2))) Z Z (pu_int (v := .bool (decide (o_.Kind = 2))) Z Z (tm Z) (AEv.int _ _) Z) (xq Z Z Z Z ?_)))))
      rcases Bool.eq_false_or_eq_true (decide (o_.Kind = 2)) with hb79 | hb79
      ·replace h := ite_t (dec_t hb79) h
       refine aops_known 42 Z hb79 (xp (.ptr p64 2) Z Z (fa Z underlying27 Z sizeOf9 Z Z Z) (xg Z Z (op_load1 (i := 0) Z isAgg9 (tm Z) Z Z (xq Z Z Z Z (xp (.bool (decide (o_.S = other))) Z Z (pu_str (v := .bool (decide (o_.S = other))) Z Z (tm Z) (tm Z) Z) (xp (.bool (decide (o_.S = other))) Z Z (pu_pick (b := true) Z (tm Z) (fun _ => (tm Z)) (fun h => nomatch h)) (xa (.bool (decide (o_.S = other))) Z (pu_pick (b := false) Z (tm Z) (fun h => nomatch h) (fun _ => (tm Z))) (xe ?_))))))))
       obtain rfl := some_of h
       exact ⟨(), Weak.mkL [1, 0] (by decide) ⟨⟨_, Z, cr, Z⟩, ⟨_, Z, cr, Z⟩, trivial⟩ ⟨tm Z, tm Z, tm Z, (AEv.le (tm Z) vr), trivial⟩⟩
      ·replace h := ite_f (dec_f hb79) h
       refine aops_known 42 Z hb79 (xn Z Z Z (xn Z Z Z (xn Z Z Z (xn Z Z Z (xp (.bool false) Z Z (pu_pick (b := false) Z (tm Z) (fun h => nomatch h) (fun _ => (AEv.bool _))) (xa (.bool false) Z (pu_pick (b := false) Z (tm Z) (fun h => nomatch h) (fun _ => (tm Z))) (xe ?_)))))))
       obtain rfl := some_of h
       exact ⟨(), Weak.mkL [1, 0] (by decide) ⟨⟨_, Z, cr, Z⟩, ⟨_, Z, cr, Z⟩, trivial⟩ ⟨tm Z, tm Z, tm Z, tm Z, trivial⟩⟩
 ·intro _
  have h := h72
  refine aw_cond (b := s71) (tm Z) (fun hb124 => ?_) (fun hb124 => ?_)
  ·replace h := ite_t hb124 h
   refine aw_seq (aw_region ?_)
   obtain ⟨r80, r80e, h⟩ := bind_some h
   refine xc Z (op_call (vs := []) (H := []) Z call7 trivial (List.Perm.refl _) (mewslaw16.alive.ok r80e) ?_)
   rintro _ _ ⟨rfl, rfl⟩
   refine xm Z Z Z (xe (aw_ret ?_))
   obtain rfl := some_of h
   exact ⟨[.bool r80], _, [], ⟨(tm Z), trivial⟩, vr, Weak.mkL [] (by decide) trivial trivial, ⟨Z, Z⟩⟩
  ·replace h := ite_fb hb124 h
   refine aw_skip (xr (xc Z (op_loadN (i := 0) Z isAgg25 sizeOf25 (tm Z) Z (nb Z) Z (xc Z (op_loadN (i := 1) Z isAgg27 sizeOf27 (tm Z) Z (nb Z) Z ?_)))))
   obtain ⟨r81, r81e, h⟩ := bind_some h
   refine xc Z (op_call (vs := [.agg [.sl .no 3 (d.Files.map api.File.av), .sl .no 3 (d.Faults.map api.Fault.av)], .agg (mewslaw16.Op.ct o_)]) (H := []) Z call8 ⟨(tm Z), (tm Z), trivial⟩ (List.Perm.refl _) (mewslaw16.does.ok r81e) ?_)
   rintro _ _ ⟨rfl, rfl⟩
   refine xm Z Z Z (xa (.agg [.sl .no 3 (r81.1.Files.map api.File.av), .sl .no 3 (r81.1.Faults.map api.Fault.av)]) Z (pu_extract Z (tm Z) (nb Z) Z) (xa (.i r81.2.1) Z (pu_extract Z (tm Z) (nb Z) Z) (xa (.i r81.2.2) Z (pu_extract Z (tm Z) (nb Z) Z) (xc Z (op_alloc (cs := [.sl .full 3 (([] : List api.File).map api.File.av), .sl .full 3 (([] : List api.Fault).map api.Fault.av)]) (v := .agg [.sl .full 3 (([] : List api.File).map api.File.av), .sl .full 3 (([] : List api.Fault).map api.Fault.av)]) Z zeroValue25 Z Z Z ?_)))))
   intro p82
   refine ac0 Z Z (op_store (i := 0) (cs' := [.sl .no 3 (r81.1.Files.map api.File.av), .sl .no 3 (r81.1.Faults.map api.Fault.av)]) Z sizeOf25 (tm Z) (v := .agg [.sl .no 3 (r81.1.Files.map api.File.av), .sl .no 3 (r81.1.Faults.map api.Fault.av)]) (tm Z) Z Z Z (nb Z) Z (xm Z Z Z (xm Z Z Z (xe (xr (xc Z (op_loadN (i := 1) Z isAgg25 sizeOf25 (tm Z) Z (nb Z) Z (xm Z Z Z ?_))))))))
   obtain ⟨r83, r83e, h⟩ := bind_some h
   refine xc Z (op_call (vs := [.agg [.sl .no 3 (d.Files.map api.File.av), .sl .no 3 (d.Faults.map api.Fault.av)], .str other]) (H := []) Z call9 ⟨(tm Z), (tm Z), trivial⟩ (List.Perm.refl _) (disk.Read.ok r83e) ?_)
   rintro _ _ ⟨rfl, rfl⟩
   refine xm Z Z Z (xa (.str r83.1) Z (pu_extract Z (tm Z) (nb Z) Z) (xa (.i r83.2) Z (pu_extract Z (tm Z) (nb Z) Z) (xm Z Z Z (xm Z Z Z (xe (xr (xc Z (op_loadN (i := 0) Z isAgg25 sizeOf25 (tm Z) Z (nb Z) Z (xm Z Z Z ?_)))))))))
   obtain ⟨r84, r84e, h⟩ := bind_some h
   refine xc Z (op_call (vs := [.agg [.sl .no 3 (r81.1.Files.map api.File.av), .sl .no 3 (r81.1.Faults.map api.Fault.av)], .str other]) (H := []) Z call9 ⟨(tm Z), (tm Z), trivial⟩ (List.Perm.refl _) (disk.Read.ok r84e) ?_)
   rintro _ _ ⟨rfl, rfl⟩
   refine xm Z Z Z (xa (.str r84.1) Z (pu_extract Z (tm Z) (nb Z) Z) (xa (.i r84.2) Z (pu_extract Z (tm Z) (nb Z) Z) (xm Z Z Z (xm Z Z Z (xe (aw_seq ?_))))))
   obtain ⟨s89, s89e, h90⟩ := bind_some h
   refine aw_meet (ν := Unit) (fun v => [(3, .ptr p63 0), (4, .ptr p64 0), (7, .ptr p82 0), (8, .i r81.2.1), (85, .bool s89)]) (fun v => [(p63, .cells [.sl .no 3 (d.Files.map api.File.av), .sl .no 3 (d.Faults.map api.Fault.av)]), (p64, .cells (mewslaw16.Op.ct o_)), (p82, .cells [.sl .no 3 (r81.1.Files.map api.File.av), .sl .no 3 (r81.1.Faults.map api.Fault.av)])]) ?_ ?_
   ·have h := s89e
    rcases Bool.eq_false_or_eq_true (!decide (r83.1 = r84.1)) with hb92 | hb92
    ·replace h := ite_f (ndec_t hb92) h
     refine aw_planR (by decide +kernel) [[], [], [], [], [], [], [], [], [], [], [], [], [], [], [], [], []] [[], [], []] [[[(p82, .cells [.sl .no 3 (r81.1.Files.map api.File.av), .sl .no 3 (r81.1.Faults.map api.Fault.av)])]], [[(p63, .cells [.sl .no 3 (d.Files.map api.File.av), .sl .no 3 (d.Faults.map api.Fault.av)])]], [[(p64, .cells (mewslaw16.Op.ct o_))]]] [.str r83.1, .str r84.1, .bool (!decide (r83.1 = r84.1)), .bool true, .lit undef, .lit undef, .lit undef, .bool true, .bool true, .lit undef, .lit undef, .lit undef, .lit undef, .lit undef, .lit undef, .lit undef, .bool true] (by decide +kernel) Z Z ?_ ?_
     ·exact ⟨ym Z Z Z, ym Z Z Z, yp Z (pu_str (v := .bool (!decide (r83.1 = r84.1))) Z Z (tm Z) (tm Z) Z), AStepG.cast (ym Z Z Z) (congrArg AV.bool hb92), yx Z Z Z, yx Z Z Z, yx Z Z Z, yp Z (pu_pick (b := true) Z (tm Z) (fun _ => (AEv.bool _)) (fun h => nomatch h)), ym Z Z Z, yx Z Z Z, yx Z Z Z, yx Z Z Z, yx Z Z Z, yx Z Z Z, yx Z Z Z, yx Z Z Z, yp Z (pu_pick (b := true) Z (tm Z) (fun _ => (AEv.bool _)) (fun h => nomatch h)), trivial⟩
     obtain rfl := some_of h
     exact ⟨(), Weak.mkL [1, 2, 0] (by decide) ⟨⟨_, Z, cr, Z⟩, ⟨_, Z, cr, Z⟩, ⟨_, Z, cr, Z⟩, trivial⟩ ⟨tm Z, tm Z, tm Z, tm Z, tm Z, trivial⟩⟩
    ·replace h := ite_t (ndec_f hb92) h
     rcases Bool.eq_false_or_eq_true (!decide (r83.2 = r84.2)) with hb93 | hb93
     ·replace h := ite_f (ndec_t hb93) h
      refine aw_planR (by decide +kernel) [[], [], [], [], [], [], [], [], [], [], [], [], [], [], [], [], []] [[], [], []] [[[(p82, .cells [.sl .no 3 (r81.1.Files.map api.File.av), .sl .no 3 (r81.1.Faults.map api.Fault.av)])]], [[(p63, .cells [.sl .no 3 (d.Files.map api.File.av), .sl .no 3 (d.Faults.map api.Fault.av)])]], [[(p64, .cells (mewslaw16.Op.ct o_))]]] [.str r83.1, .str r84.1, .bool (!decide (r83.1 = r84.1)), .bool false, .i r83.2, .i r84.2, .bool (!decide (r83.2 = r84.2)), .bool (!decide (r83.2 = r84.2)), .bool true, .lit undef, .lit undef, .lit undef, .lit undef, .lit undef, .lit undef, .lit undef, .bool true] (by decide +kernel) Z Z ?_ ?_
      ·exact ⟨ym Z Z Z, ym Z Z Z, yp Z (pu_str (v := .bool (!decide (r83.1 = r84.1))) Z Z (tm Z) (tm Z) Z), AStepG.cast (ym Z Z Z) (congrArg AV.bool hb92), yq Z Z (pu_move Z (tm Z)), yq Z Z (pu_move Z (tm Z)), yq Z Z (pu_int (v := .bool (!decide (r83.2 = r84.2))) Z Z (tm Z) (tm Z) Z), yp Z (pu_pick (b := false) Z (tm Z) (fun h => nomatch h) (fun _ => (tm Z))), AStepG.cast (ym Z Z Z) (congrArg AV.bool hb93), yx Z Z Z, yx Z Z Z, yx Z Z Z, yx Z Z Z, yx Z Z Z, yx Z Z Z, yx Z Z Z, yp Z (pu_pick (b := true) Z (tm Z) (fun _ => (AEv.bool _)) (fun h => nomatch h)), trivial⟩
      obtain rfl := some_of h
      exact ⟨(), Weak.mkL [1, 2, 0] (by decide) ⟨⟨_, Z, cr, Z⟩, ⟨_, Z, cr, Z⟩, ⟨_, Z, cr, Z⟩, trivial⟩ ⟨tm Z, tm Z, tm Z, tm Z, tm Z, trivial⟩⟩
     ·replace h := ite_t (ndec_f hb93) h
      obtain ⟨r94, r94e, h⟩ := bind_some h
      obtain ⟨r95, r95e, h⟩ := bind_some h
      refine aw_planR (by decide +kernel) [[], [], [], [], [], [], [], [], [], [(1, 0, false)], [], [], [(0, 0, false)], [], [], [], []] [[], [], []] [[[(p82, .cells [.sl .no 3 (r81.1.Files.map api.File.av), .sl .no 3 (r81.1.Faults.map api.Fault.av)])]], [[(p63, .cells [.sl .no 3 (d.Files.map api.File.av), .sl .no 3 (d.Faults.map api.Fault.av)])]], [[(p64, .cells (mewslaw16.Op.ct o_))]]] [.str r83.1, .str r84.1, .bool (!decide (r83.1 = r84.1)), .bool false, .i r83.2, .i r84.2, .bool (!decide (r83.2 = r84.2)), .bool (!decide (r83.2 = r84.2)), .bool false, .agg [.sl .no 3 (d.Files.map api.File.av), .sl .no 3 (d.Faults.map api.Fault.av)], .str other, .str r94, .agg [.sl .no 3 (r81.1.Files.map api.File.av), .sl .no 3 (r81.1.Faults.map api.Fault.av)], .str other, .str r95, .bool (!decide (r94 = r95)), .bool (!decide (r94 = r95))] (by decide +kernel) Z Z ?_ ?_
      ·exact ⟨ym Z Z Z, ym Z Z Z, yp Z (pu_str (v := .bool (!decide (r83.1 = r84.1))) Z Z (tm Z) (tm Z) Z), AStepG.cast (ym Z Z Z) (congrArg AV.bool hb92), yq Z Z (pu_move Z (tm Z)), yq Z Z (pu_move Z (tm Z)), yq Z Z (pu_int (v := .bool (!decide (r83.2 = r84.2))) Z Z (tm Z) (tm Z) Z), yp Z (pu_pick (b := false) Z (tm Z) (fun h => nomatch h) (fun _ => (tm Z))), AStepG.cast (ym Z Z Z) (congrArg AV.bool hb93), yg Z Z (op_loadN (i := 0) Z isAgg25 sizeOf25 (tm Z) Z (nb Z) Z ⟨Z, Z⟩), yq Z Z (pu_move Z (tm Z)), yg Z Z (op_call (vs := [.agg [.sl .no 3 (d.Files.map api.File.av), .sl .no 3 (d.Faults.map api.Fault.av)], .str other]) (H := []) Z call10 ⟨(tm Z), (tm Z), trivial⟩ (R := []) (List.Perm.refl _) (disk.Safe.ok r94e) (by rintro _ _ ⟨rfl, rfl⟩; exact ⟨Z, Z⟩)), yg Z Z (op_loadN (i := 0) Z isAgg25 sizeOf25 (tm Z) Z (nb Z) Z ⟨Z, Z⟩), yq Z Z (pu_move Z (tm Z)), yg Z Z (op_call (vs := [.agg [.sl .no 3 (r81.1.Files.map api.File.av), .sl .no 3 (r81.1.Faults.map api.Fault.av)], .str other]) (H := []) Z call10 ⟨(tm Z), (tm Z), trivial⟩ (R := []) (List.Perm.refl _) (disk.Safe.ok r95e) (by rintro _ _ ⟨rfl, rfl⟩; exact ⟨Z, Z⟩)), yq Z Z (pu_str (v := .bool (!decide (r94 = r95))) Z Z (tm Z) (tm Z) Z), yp Z (pu_pick (b := false) Z (tm Z) (fun h => nomatch h) (fun _ => (tm Z))), trivial⟩
      obtain rfl := some_of h
      exact ⟨(), Weak.mkL [1, 2, 0] (by decide) ⟨⟨_, Z, cr, Z⟩, ⟨_, Z, cr, Z⟩, ⟨_, Z, cr, Z⟩, trivial⟩ ⟨tm Z, tm Z, tm Z, tm Z, tm Z, trivial⟩⟩
   ·intro _
    have h := h90
    refine aw_cond (b := s89) (tm Z) (fun hb123 => ?_) (fun hb123 => ?_)
    ·replace h := ite_t hb123 h
     refine xr (xa (.bool false) Z (pu_assign Z (AEv.bool _)) (xe (aw_ret ?_)))
     obtain rfl := some_of h
     exact ⟨[.bool false], _, [], ⟨(tm Z), trivial⟩, vr, Weak.mkL [] (by decide) trivial trivial, ⟨Z, Z⟩⟩
    ·replace h := ite_fb hb123 h
     refine aw_skip (aw_seq (xr (xa (.ptr p64 0) Z (fa Z underlying27 Z sizeOf3 Z Z Z) (xc Z (op_load1 (i := 1) Z isAgg3 (tm Z) Z Z (xa (.bool (decide (o_.Kind = 0))) Z (pu_int (v := .bool (decide (o_.Kind = 0))) Z Z (tm Z) (AEv.int _ _) Z) (xe (aw_cond (b := decide (o_.Kind = 0)) (tm Z) (fun hb122 => ?_) (fun hb122 => ?_)))))))))
     ·replace h := ite_t (dec_t hb122) h
      refine xr (xc Z (op_loadN (i := 0) Z isAgg25 sizeOf25 (tm Z) Z (nb Z) Z (xa (.ptr p64 1) Z (fa Z underlying27 Z sizeOf9 Z Z Z) (xc Z (op_load1 (i := 1) Z isAgg9 (tm Z) Z Z ?_)))))
      obtain ⟨r96, r96e, h⟩ := bind_some h
      refine xc Z (op_call (vs := [.agg [.sl .no 3 (d.Files.map api.File.av), .sl .no 3 (d.Faults.map api.Fault.av)], .str o_.Name]) (H := []) Z call9 ⟨(tm Z), (tm Z), trivial⟩ (List.Perm.refl _) (disk.Read.ok r96e) ?_)
      rintro _ _ ⟨rfl, rfl⟩
      refine xm Z Z Z (xa (.str r96.1) Z (pu_extract Z (tm Z) (nb Z) Z) (xa (.i r96.2) Z (pu_extract Z (tm Z) (nb Z) Z) (xm Z Z Z (xm Z Z Z (xe (xr (xc Z (op_loadN (i := 2) Z isAgg25 sizeOf25 (tm Z) Z (nb Z) Z (xa (.ptr p64 1) Z (fa Z underlying27 Z sizeOf9 Z Z Z) ?_)))))))))
      refine xc Z (op_load1 (i := 1) Z isAgg9 (tm Z) Z Z ?_)
      obtain ⟨r97, r97e, h⟩ := bind_some h
      refine xc Z (op_call (vs := [.agg [.sl .no 3 (r81.1.Files.map api.File.av), .sl .no 3 (r81.1.Faults.map api.Fault.av)], .str o_.Name]) (H := []) Z call9 ⟨(tm Z), (tm Z), trivial⟩ (List.Perm.refl _) (disk.Read.ok r97e) ?_)
      rintro _ _ ⟨rfl, rfl⟩
      refine xm Z Z Z (xa (.str r97.1) Z (pu_extract Z (tm Z) (nb Z) Z) (xa (.i r97.2) Z (pu_extract Z (tm Z) (nb Z) Z) (xm Z Z Z (xm Z Z Z (xe ?_)))))
      obtain ⟨s108, s108e, h109⟩ := bind_some h
      refine aw_meet (ν := Unit) (fun v => [(6, .bool s108)]) (fun v => []) ?_ ?_
      ·have h := s108e
       rcases Bool.eq_false_or_eq_true (decide (r97.2 = 0)) with hb111 | hb111
       ·replace h := ite_t (dec_t hb111) h
        rcases Bool.eq_false_or_eq_true (decide (0 ≤ r81.2.1)) with hb112 | hb112
        ·replace h := ite_t (dec_t hb112) h
         rcases Bool.eq_false_or_eq_true (decide (r81.2.1 ≤ (o_.S.length : Int))) with hb113 | hb113
         ·replace h := ite_t (dec_t hb113) h
          obtain ⟨c114, h⟩ := need_of h
          obtain ⟨c115, h⟩ := need_of h
          rcases Bool.eq_false_or_eq_true (decide (r97.1 = (r96.1 ++ (sub o_.S 0 r81.2.1)))) with hb116 | hb116
          ·replace h := ite_t (dec_t hb116) h
           obtain ⟨r117, r117e, h⟩ := bind_some h
           obtain ⟨r118, r118e, h⟩ := bind_some h
           rcases Bool.eq_false_or_eq_true (decide (r117 = r118)) with hb119 | hb119
           ·replace h := ite_t (dec_t hb119) h
            obtain ⟨r120, r120e, h⟩ := bind_some h
            refine aw_planR (by decide +kernel) [[], [], [], [], [], [], [], [], [], [(1, 0, false)], [], [], [], [], [], [], [], [(1, 0, false)], [], [], [], [], [], [], [(2, 0, false)], [], [(1, 0, false)], [], [(0, 0, false)], [], [(1, 0, false)], [], [], [], [], [], [], []] [[], [], []] [[[(p63, .cells [.sl .no 3 (d.Files.map api.File.av), .sl .no 3 (d.Faults.map api.Fault.av)])]], [[(p64, .cells (mewslaw16.Op.ct o_))]], [[(p82, .cells [.sl .no 3 (r81.1.Files.map api.File.av), .sl .no 3 (r81.1.Faults.map api.Fault.av)])]]] [.i r97.2, .bool (decide (r97.2 = 0)), .bool true, .i r81.2.1, .bool (decide (0 ≤ r81.2.1)), .bool (decide (0 ≤ r81.2.1)), .bool true, .i r81.2.1, .ptr p64 2, .str o_.S, .i (o_.S.length : Int), .bool (decide (r81.2.1 ≤ (o_.S.length : Int))), .bool (decide (r81.2.1 ≤ (o_.S.length : Int))), .bool true, .str r97.1, .str r96.1, .ptr p64 2, .str o_.S, .i r81.2.1, .str (sub o_.S 0 r81.2.1), .str (r96.1 ++ (sub o_.S 0 r81.2.1)), .bool (decide (r97.1 = (r96.1 ++ (sub o_.S 0 r81.2.1)))), .bool (decide (r97.1 = (r96.1 ++ (sub o_.S 0 r81.2.1)))), .bool true, .agg [.sl .no 3 (r81.1.Files.map api.File.av), .sl .no 3 (r81.1.Faults.map api.Fault.av)], .ptr p64 1, .str o_.Name, .str r117, .agg [.sl .no 3 (d.Files.map api.File.av), .sl .no 3 (d.Faults.map api.Fault.av)], .ptr p64 1, .str o_.Name, .str r118, .bool (decide (r117 = r118)), .bool (decide (r117 = r118)), .bool true, .bool r120, .bool r120, .bool r120] (by decide +kernel) Z Z ?_ ?_
            ·exact ⟨ym Z Z Z, yp Z (pu_int (v := .bool (decide (r97.2 = 0))) Z Z (tm Z) (AEv.int _ _) Z), AStepG.cast (ym Z Z Z) (congrArg AV.bool hb111), yq Z Z (pu_move Z (tm Z)), yq Z Z (pu_int (v := .bool (decide (0 ≤ r81.2.1))) Z Z (tm Z) (AEv.int _ _) Z), yp Z (pu_pick (b := true) Z (tm Z) (fun _ => (tm Z)) (fun h => nomatch h)), AStepG.cast (ym Z Z Z) (congrArg AV.bool hb112), yq Z Z (pu_move Z (tm Z)), yq Z Z (fa Z underlying27 Z sizeOf9 Z Z Z), yg Z Z (op_load1 (i := 0) Z isAgg9 (tm Z) Z Z ⟨Z, Z⟩), yq Z Z (pu_strLen Z underlying9 (tm Z)), yq Z Z (pu_int (v := .bool (decide (r81.2.1 ≤ (o_.S.length : Int)))) Z Z (tm Z) (tm Z) Z), yp Z (pu_pick (b := true) Z (tm Z) (fun _ => (tm Z)) (fun h => nomatch h)), AStepG.cast (ym Z Z Z) (congrArg AV.bool hb113), yq Z Z (pu_move Z (tm Z)), yq Z Z (pu_move Z (tm Z)), yq Z Z (fa Z underlying27 Z sizeOf9 Z Z Z), yg Z Z (op_load1 (i := 0) Z isAgg9 (tm Z) Z Z ⟨Z, Z⟩), yq Z Z (pu_move Z (tm Z)), yq Z Z (pu_strSliceM Z underlying9 (tm Z) Z ⟨_, (tm Z)⟩ c114), yq Z Z (pu_strAdd Z (tm Z) (tm Z) c115), yq Z Z (pu_str (v := .bool (decide (r97.1 = (r96.1 ++ (sub o_.S 0 r81.2.1))))) Z Z (tm Z) (tm Z) Z), yp Z (pu_pick (b := true) Z (tm Z) (fun _ => (tm Z)) (fun h => nomatch h)), AStepG.cast (ym Z Z Z) (congrArg AV.bool hb116), yg Z Z (op_loadN (i := 0) Z isAgg25 sizeOf25 (tm Z) Z (nb Z) Z ⟨Z, Z⟩), yq Z Z (fa Z underlying27 Z sizeOf9 Z Z Z), yg Z Z (op_load1 (i := 0) Z isAgg9 (tm Z) Z Z ⟨Z, Z⟩), yg Z Z (op_call (vs := [.agg [.sl .no 3 (r81.1.Files.map api.File.av), .sl .no 3 (r81.1.Faults.map api.Fault.av)], .str o_.Name]) (H := []) Z call10 ⟨(tm Z), (tm Z), trivial⟩ (R := []) (List.Perm.refl _) (disk.Safe.ok r117e) (by rintro _ _ ⟨rfl, rfl⟩; exact ⟨Z, Z⟩)), yg Z Z (op_loadN (i := 0) Z isAgg25 sizeOf25 (tm Z) Z (nb Z) Z ⟨Z, Z⟩), yq Z Z (fa Z underlying27 Z sizeOf9 Z Z Z), yg Z Z (op_load1 (i := 0) Z isAgg9 (tm Z) Z Z ⟨Z, Z⟩), yg Z Z (op_call (vs := [.agg [.sl .no 3 (d.Files.map api.File.av), .sl .no 3 (d.Faults.map api.Fault.av)], .str o_.Name]) (H := []) Z call10 ⟨(tm Z), (tm Z), trivial⟩ (R := []) (List.Perm.refl _) (disk.Safe.ok r118e) (by rintro _ _ ⟨rfl, rfl⟩; exact ⟨Z, Z⟩)), yq Z Z (pu_str (v := .bool (decide (r117 = r118))) Z Z (tm Z) (tm Z) Z), yp Z (pu_pick (b := true) Z (tm Z) (fun _ => (tm Z)) (fun h => nomatch h)), AStepG.cast (ym Z Z Z) (congrArg AV.bool hb119), yg Z Z (op_call (vs := []) (H := []) Z call7 trivial (R := []) (List.Perm.refl _) (mewslaw16.alive.ok r120e) (by rintro _ _ ⟨rfl, rfl⟩; exact ⟨Z, Z⟩)), yp Z (pu_pick (b := true) Z (tm Z) (fun _ => (tm Z)) (fun h => nomatch h)), ym Z Z Z, trivial⟩
            obtain rfl := some_of h
            exact ⟨(), Weak.mkL [] (by decide) trivial ⟨tm Z, trivial⟩⟩
           ·replace h := ite_f (dec_f hb119) h
            refine aw_planR (by decide +kernel) [[], [], [], [], [], [], [], [], [], [(1, 0, false)], [], [], [], [], [], [], [], [(1, 0, false)], [], [], [], [], [], [], [(2, 0, false)], [], [(1, 0, false)], [], [(0, 0, false)], [], [(1, 0, false)], [], [], [], [], [], [], []] [[], [], []] [[[(p63, .cells [.sl .no 3 (d.Files.map api.File.av), .sl .no 3 (d.Faults.map api.Fault.av)])]], [[(p64, .cells (mewslaw16.Op.ct o_))]], [[(p82, .cells [.sl .no 3 (r81.1.Files.map api.File.av), .sl .no 3 (r81.1.Faults.map api.Fault.av)])]]] [.i r97.2, .bool (decide (r97.2 = 0)), .bool true, .i r81.2.1, .bool (decide (0 ≤ r81.2.1)), .bool (decide (0 ≤ r81.2.1)), .bool true, .i r81.2.1, .ptr p64 2, .str o_.S, .i (o_.S.length : Int), .bool (decide (r81.2.1 ≤ (o_.S.length : Int))), .bool (decide (r81.2.1 ≤ (o_.S.length : Int))), .bool true, .str r97.1, .str r96.1, .ptr p64 2, .str o_.S, .i r81.2.1, .str (sub o_.S 0 r81.2.1), .str (r96.1 ++ (sub o_.S 0 r81.2.1)), .bool (decide (r97.1 = (r96.1 ++ (sub o_.S 0 r81.2.1)))), .bool (decide (r97.1 = (r96.1 ++ (sub o_.S 0 r81.2.1)))), .bool true, .agg [.sl .no 3 (r81.1.Files.map api.File.av), .sl .no 3 (r81.1.Faults.map api.Fault.av)], .ptr p64 1, .str o_.Name, .str r117, .agg [.sl .no 3 (d.Files.map api.File.av), .sl .no 3 (d.Faults.map api.Fault.av)], .ptr p64 1, .str o_.Name, .str r118, .bool (decide (r117 = r118)), .bool (decide (r117 = r118)), .bool false, .lit undef, .bool false, .bool false] (by decide +kernel) Z Z ?_ ?_
            ·exact ⟨ym Z Z Z, yp Z (pu_int (v := .bool (decide (r97.2 = 0))) Z Z (tm Z) (AEv.int _ _) Z), AStepG.cast (ym Z Z Z) (congrArg AV.bool hb111), yq Z Z (pu_move Z (tm Z)), yq Z Z (pu_int (v := .bool (decide (0 ≤ r81.2.1))) Z Z (tm Z) (AEv.int _ _) Z), yp Z (pu_pick (b := true) Z (tm Z) (fun _ => (tm Z)) (fun h => nomatch h)), AStepG.cast (ym Z Z Z) (congrArg AV.bool hb112), yq Z Z (pu_move Z (tm Z)), yq Z Z (fa Z underlying27 Z sizeOf9 Z Z Z), yg Z Z (op_load1 (i := 0) Z isAgg9 (tm Z) Z Z ⟨Z, Z⟩), yq Z Z (pu_strLen Z underlying9 (tm Z)), yq Z Z (pu_int (v := .bool (decide (r81.2.1 ≤ (o_.S.length : Int)))) Z Z (tm Z) (tm Z) Z), yp Z (pu_pick (b := true) Z (tm Z) (fun _ => (tm Z)) (fun h => nomatch h)), AStepG.cast (ym Z Z Z) (congrArg AV.bool hb113), yq Z Z (pu_move Z (tm Z)), yq Z Z (pu_move Z (tm Z)), yq Z Z (fa Z underlying27 Z sizeOf9 Z Z Z), yg Z Z (op_load1 (i := 0) Z isAgg9 (tm Z) Z Z ⟨Z, Z⟩), yq Z Z (pu_move Z (tm Z)), yq Z Z (pu_strSliceM Z underlying9 (tm Z) Z ⟨_, (tm Z)⟩ c114), yq Z Z (pu_strAdd Z (tm Z) (tm Z) c115), yq Z Z (pu_str (v := .bool (decide (r97.1 = (r96.1 ++ (sub o_.S 0 r81.2.1))))) Z Z (tm Z) (tm Z) Z), yp Z (pu_pick (b := true) Z (tm Z) (fun _ => (tm Z)) (fun h => nomatch h)), AStepG.cast (ym Z Z Z) (congrArg AV.bool hb116), yg Z Z (op_loadN (i := 0) Z isAgg25 sizeOf25 (tm Z) Z (nb Z) Z ⟨Z, Z⟩), yq Z Z (fa Z underlying27 Z sizeOf9 Z Z Z), yg Z Z (op_load1 (i := 0) Z isAgg9 (tm Z) Z Z ⟨Z, Z⟩), yg Z Z (op_call (vs := [.agg [.sl .no 3 (r81.1.Files.map api.File.av), .sl .no 3 (r81.1.Faults.map api.Fault.av)], .str o_.Name]) (H := []) Z call10 ⟨(tm Z), (tm Z), trivial⟩ (R := []) (List.Perm.refl _) (disk.Safe.ok r117e) (by rintro _ _ ⟨rfl, rfl⟩; exact ⟨Z, Z⟩)), yg Z Z (op_loadN (i := 0) Z isAgg25 sizeOf25 (tm Z) Z (nb Z) Z ⟨Z, Z⟩), yq Z Z (fa Z underlying27 Z sizeOf9 Z Z Z), yg Z Z (op_load1 (i := 0) Z isAgg9 (tm Z) Z Z ⟨Z, Z⟩), yg Z Z (op_call (vs := [.agg [.sl .no 3 (d.Files.map api.File.av), .sl .no 3 (d.Faults.map api.Fault.av)], .str o_.Name]) (H := []) Z call10 ⟨(tm Z), (tm Z), trivial⟩ (R := []) (List.Perm.refl _) (disk.Safe.ok r118e) (by rintro _ _ ⟨rfl, rfl⟩; exact ⟨Z, Z⟩)), yq Z Z (pu_str (v := .bool (decide (r117 = r118))) Z Z (tm Z) (tm Z) Z), yp Z (pu_pick (b := true) Z (tm Z) (fun _ => (tm Z)) (fun h => nomatch h)), AStepG.cast (ym Z Z Z) (congrArg AV.bool hb119), yx Z Z Z, yp Z (pu_pick (b := false) Z (tm Z) (fun h => nomatch h) (fun _ => (AEv.bool _))), ym Z Z Z, trivial⟩
            obtain rfl := some_of h
            exact ⟨(), Weak.mkL [] (by decide) trivial ⟨tm Z, trivial⟩⟩
          ·replace h := ite_f (dec_f hb116) h
           refine aw_planR (by decide +kernel) [[], [], [], [], [], [], [], [], [], [(1, 0, false)], [], [], [], [], [], [], [], [(1, 0, false)], [], [], [], [], [], [], [], [], [], [], [], [], [], [], [], [], [], [], [], []] [[], [], []] [[[(p63, .cells [.sl .no 3 (d.Files.map api.File.av), .sl .no 3 (d.Faults.map api.Fault.av)])]], [[(p64, .cells (mewslaw16.Op.ct o_))]], [[(p82, .cells [.sl .no 3 (r81.1.Files.map api.File.av), .sl .no 3 (r81.1.Faults.map api.Fault.av)])]]] [.i r97.2, .bool (decide (r97.2 = 0)), .bool true, .i r81.2.1, .bool (decide (0 ≤ r81.2.1)), .bool (decide (0 ≤ r81.2.1)), .bool true, .i r81.2.1, .ptr p64 2, .str o_.S, .i (o_.S.length : Int), .bool (decide (r81.2.1 ≤ (o_.S.length : Int))), .bool (decide (r81.2.1 ≤ (o_.S.length : Int))), .bool true, .str r97.1, .str r96.1, .ptr p64 2, .str o_.S, .i r81.2.1, .str (sub o_.S 0 r81.2.1), .str (r96.1 ++ (sub o_.S 0 r81.2.1)), .bool (decide (r97.1 = (r96.1 ++ (sub o_.S 0 r81.2.1)))), .bool (decide (r97.1 = (r96.1 ++ (sub o_.S 0 r81.2.1)))), .bool false, .lit undef, .lit undef, .lit undef, .lit undef, .lit undef, .lit undef, .lit undef, .lit undef, .lit undef, .bool false, .bool false, .lit undef, .bool false, .bool false] (by decide +kernel) Z Z ?_ ?_
           ·exact ⟨ym Z Z Z, yp Z (pu_int (v := .bool (decide (r97.2 = 0))) Z Z (tm Z) (AEv.int _ _) Z), AStepG.cast (ym Z Z Z) (congrArg AV.bool hb111), yq Z Z (pu_move Z (tm Z)), yq Z Z (pu_int (v := .bool (decide (0 ≤ r81.2.1))) Z Z (tm Z) (AEv.int _ _) Z), yp Z (pu_pick (b := true) Z (tm Z) (fun _ => (tm Z)) (fun h => nomatch h)), AStepG.cast (ym Z Z Z) (congrArg AV.bool hb112), yq Z Z (pu_move Z (tm Z)), yq Z Z (fa Z underlying27 Z sizeOf9 Z Z Z), yg Z Z (op_load1 (i := 0) Z isAgg9 (tm Z) Z Z ⟨Z, Z⟩), yq Z Z (pu_strLen Z underlying9 (tm Z)), yq Z Z (pu_int (v := .bool (decide (r81.2.1 ≤ (o_.S.length : Int)))) Z Z (tm Z) (tm Z) Z), yp Z (pu_pick (b := true) Z (tm Z) (fun _ => (tm Z)) (fun h => nomatch h)), AStepG.cast (ym Z Z Z) (congrArg AV.bool hb113), yq Z Z (pu_move Z (tm Z)), yq Z Z (pu_move Z (tm Z)), yq Z Z (fa Z underlying27 Z sizeOf9 Z Z Z), yg Z Z (op_load1 (i := 0) Z isAgg9 (tm Z) Z Z ⟨Z, Z⟩), yq Z Z (pu_move Z (tm Z)), yq Z Z (pu_strSliceM Z underlying9 (tm Z) Z ⟨_, (tm Z)⟩ c114), yq Z Z (pu_strAdd Z (tm Z) (tm Z) c115), yq Z Z (pu_str (v := .bool (decide (r97.1 = (r96.1 ++ (sub o_.S 0 r81.2.1))))) Z Z (tm Z) (tm Z) Z), yp Z (pu_pick (b := true) Z (tm Z) (fun _ => (tm Z)) (fun h => nomatch h)), AStepG.cast (ym Z Z Z) (congrArg AV.bool hb116), yx Z Z Z, yx Z Z Z, yx Z Z Z, yx Z Z Z, yx Z Z Z, yx Z Z Z, yx Z Z Z, yx Z Z Z, yx Z Z Z, yp Z (pu_pick (b := false) Z (tm Z) (fun h => nomatch h) (fun _ => (AEv.bool _))), ym Z Z Z, yx Z Z Z, yp Z (pu_pick (b := false) Z (tm Z) (fun h => nomatch h) (fun _ => (AEv.bool _))), ym Z Z Z, trivial⟩
           obtain rfl := some_of h
           exact ⟨(), Weak.mkL [] (by decide) trivial ⟨tm Z, trivial⟩⟩
         ·replace h := ite_f (dec_f hb113) h
          refine aw_planR (by decide +kernel) [[], [], [], [], [], [], [], [], [], [(1, 0, false)], [], [], [], [], [], [], [], [], [], [], [], [], [], [], [], [], [], [], [], [], [], [], [], [], [], [], [], []] [[], [], []] [[[(p63, .cells [.sl .no 3 (d.Files.map api.File.av), .sl .no 3 (d.Faults.map api.Fault.av)])]], [[(p64, .cells (mewslaw16.Op.ct o_))]], [[(p82, .cells [.sl .no 3 (r81.1.Files.map api.File.av), .sl .no 3 (r81.1.Faults.map api.Fault.av)])]]] [.i r97.2, .bool (decide (r97.2 = 0)), .bool true, .i r81.2.1, .bool (decide (0 ≤ r81.2.1)), .bool (decide (0 ≤ r81.2.1)), .bool true, .i r81.2.1, .ptr p64 2, .str o_.S, .i (o_.S.length : Int), .bool (decide (r81.2.1 ≤ (o_.S.length : Int))), .bool (decide (r81.2.1 ≤ (o_.S.length : Int))), .bool false, .lit undef, .lit undef, .lit undef, .lit undef, .lit undef, .lit undef, .lit undef, .lit undef, .bool false, .bool false, .lit undef, .lit undef, .lit undef, .lit undef, .lit undef, .lit undef, .lit undef, .lit undef, .lit undef, .bool false, .bool false, .lit undef, .bool false, .bool false] (by decide +kernel) Z Z ?_ ?_
          ·exact ⟨ym Z Z Z, yp Z (pu_int (v := .bool (decide (r97.2 = 0))) Z Z (tm Z) (AEv.int _ _) Z), AStepG.cast (ym Z Z Z) (congrArg AV.bool hb111), yq Z Z (pu_move Z (tm Z)), yq Z Z (pu_int (v := .bool (decide (0 ≤ r81.2.1))) Z Z (tm Z) (AEv.int _ _) Z), yp Z (pu_pick (b := true) Z (tm Z) (fun _ => (tm Z)) (fun h => nomatch h)), AStepG.cast (ym Z Z Z) (congrArg AV.bool hb112), yq Z Z (pu_move Z (tm Z)), yq Z Z (fa Z underlying27 Z sizeOf9 Z Z Z), yg Z Z (op_load1 (i := 0) Z isAgg9 (tm Z) Z Z ⟨Z, Z⟩), yq Z Z (pu_strLen Z underlying9 (tm Z)), yq Z Z (pu_int (v := .bool (decide (r81.2.1 ≤ (o_.S.length : Int)))) Z Z (tm Z) (tm Z) Z), yp Z (pu_pick (b := true) Z (tm Z) (fun _ => (tm Z)) (fun h => nomatch h)), AStepG.cast (ym Z Z Z) (congrArg AV.bool hb113), yx Z Z Z, yx Z Z Z, yx Z Z Z, yx Z Z Z, yx Z Z Z, yx Z Z Z, yx Z Z Z, yx Z Z Z, yp Z (pu_pick (b := false) Z (tm Z) (fun h => nomatch h) (fun _ => (AEv.bool _))), ym Z Z Z, yx Z Z Z, yx Z Z Z, yx Z Z Z, yx Z Z Z, yx Z Z Z, yx Z Z Z, yx Z Z Z, yx Z Z Z, yx Z Z Z, yp Z (pu_pick (b := false) Z (tm Z) (fun h => nomatch h) (fun _ => (AEv.bool _))), ym Z Z Z, yx Z Z Z, yp Z (pu_pick (b := false) Z (tm Z) (fun h => nomatch h) (fun _ => (AEv.bool _))), ym Z Z Z, trivial⟩
          obtain rfl := some_of h
          exact ⟨(), Weak.mkL [] (by decide) trivial ⟨tm Z, trivial⟩⟩
        ·replace h := ite_f (dec_f hb112) h
         refine aw_planR (by decide +kernel) [[], [], [], [], [], [], [], [], [], [], [], [], [], [], [], [], [], [], [], [], [], [], [], [], [], [], [], [], [], [], [], [], [], [], [], [], [], []] [[], [], []] [[[(p63, .cells [.sl .no 3 (d.Files.map api.File.av), .sl .no 3 (d.Faults.map api.Fault.av)])]], [[(p64, .cells (mewslaw16.Op.ct o_))]], [[(p82, .cells [.sl .no 3 (r81.1.Files.map api.File.av), .sl .no 3 (r81.1.Faults.map api.Fault.av)])]]] [.i r97.2, .bool (decide (r97.2 = 0)), .bool true, .i r81.2.1, .bool (decide (0 ≤ r81.2.1)), .bool (decide (0 ≤ r81.2.1)), .bool false, .lit undef, .lit undef, .lit undef, .lit undef, .lit undef, .bool false, .bool false, .lit undef, .lit undef, .lit undef, .lit undef, .lit undef, .lit undef, .lit undef, .lit undef, .bool false, .bool false, .lit undef, .lit undef, .lit undef, .lit undef, .lit undef, .lit undef, .lit undef, .lit undef, .lit undef, .bool false, .bool false, .lit undef, .bool false, .bool false] (by decide +kernel) Z Z ?_ ?_
         ·exact ⟨ym Z Z Z, yp Z (pu_int (v := .bool (decide (r97.2 = 0))) Z Z (tm Z) (AEv.int _ _) Z), AStepG.cast (ym Z Z Z) (congrArg AV.bool hb111), yq Z Z (pu_move Z (tm Z)), yq Z Z (pu_int (v := .bool (decide (0 ≤ r81.2.1))) Z Z (tm Z) (AEv.int _ _) Z), yp Z (pu_pick (b := true) Z (tm Z) (fun _ => (tm Z)) (fun h => nomatch h)), AStepG.cast (ym Z Z Z) (congrArg AV.bool hb112), yx Z Z Z, yx Z Z Z, yx Z Z Z, yx Z Z Z, yx Z Z Z, yp Z (pu_pick (b := false) Z (tm Z) (fun h => nomatch h) (fun _ => (AEv.bool _))), ym Z Z Z, yx Z Z Z, yx Z Z Z, yx Z Z Z, yx Z Z Z, yx Z Z Z, yx Z Z Z, yx Z Z Z, yx Z Z Z, yp Z (pu_pick (b := false) Z (tm Z) (fun h => nomatch h) (fun _ => (AEv.bool _))), ym Z Z Z, yx Z Z Z, yx Z Z Z, yx Z Z Z, yx Z Z Z, yx Z Z Z, yx Z Z Z, yx Z Z Z, yx Z Z Z, yx Z Z Z, yp Z (pu_pick (b := false) Z (tm Z) (fun h => nomatch h) (fun _ => (AEv.bool _))), ym Z Z Z, yx Z Z Z, yp Z (pu_pick (b := false) Z (tm Z) (fun h => nomatch h) (fun _ => (AEv.bool _))), ym Z Z Z, trivial⟩
         obtain rfl := some_of h
         exact ⟨(), Weak.mkL [] (by decide) trivial ⟨tm Z, trivial⟩⟩
       ·replace h := ite_f (dec_f hb111) h
        refine aw_planR (by decide +kernel) [[], [], [], [], [], [], [], [], [], [], [], [], [], [], [], [], [], [], [], [], [], [], [], [], [], [], [], [], [], [], [], [], [], [], [], [], [], []] [[], [], []] [[[(p63, .cells [.sl .no 3 (d.Files.map api.File.av), .sl .no 3 (d.Faults.map api.Fault.av)])]], [[(p64, .cells (mewslaw16.Op.ct o_))]], [[(p82, .cells [.sl .no 3 (r81.1.Files.map api.File.av), .sl .no 3 (r81.1.Faults.map api.Fault.av)])]]] [.i r97.2, .bool (decide (r97.2 = 0)), .bool false, .lit undef, .lit undef, .bool false, .bool false, .lit undef, .lit undef, .lit undef, .lit undef, .lit undef, .bool false, .bool false, .lit undef, .lit undef, .lit undef, .lit undef, .lit undef, .lit undef, .lit undef, .lit undef, .bool false, .bool false, .lit undef, .lit undef, .lit undef, .lit undef, .lit undef, .lit undef, .lit undef, .lit undef, .lit undef, .bool false, .bool false, .lit undef, .bool false, .bool false] (by decide +kernel) Z Z ?_ ?_
        ·exact ⟨ym Z Z Z, yp Z (pu_int (v := .bool (decide (r97.2 = 0))) Z Z (tm Z) (AEv.int _ _) Z), AStepG.cast (ym Z Z Z) (congrArg AV.bool hb111), yx Z Z Z, yx Z Z Z, yp Z (pu_pick (b := false) Z (tm Z) (fun h => nomatch h) (fun _ => (AEv.bool _))), ym Z Z Z, yx Z Z Z, yx Z Z Z, yx Z Z Z, yx Z Z Z, yx Z Z Z, yp Z (pu_pick (b := false) Z (tm Z) (fun h => nomatch h) (fun _ => (AEv.bool _))), ym Z Z Z, yx Z Z Z, yx Z Z Z, yx Z Z Z, yx Z Z Z, yx Z Z Z, yx Z Z Z, yx Z Z Z, yx Z Z Z, yp Z (pu_pick (b := false) Z (tm Z) (fun h => nomatch h) (fun _ => (AEv.bool _))), ym Z Z Z, yx Z Z Z, yx Z Z Z, yx Z Z Z, yx Z Z Z, yx Z Z Z, yx Z Z Z, yx Z Z Z, yx Z Z Z, yx Z Z Z, yp Z (pu_pick (b := false) Z (tm Z) (fun h => nomatch h) (fun _ => (AEv.bool _))), ym Z Z Z, yx Z Z Z, yp Z (pu_pick (b := false) Z (tm Z) (fun h => nomatch h) (fun _ => (AEv.bool _))), ym Z Z Z, trivial⟩
        obtain rfl := some_of h
        exact ⟨(), Weak.mkL [] (by decide) trivial ⟨tm Z, trivial⟩⟩
      ·intro _
       have h := h109
       refine aw_ret ?_
       obtain rfl := some_of h
       exact ⟨[.bool s108], _, [], ⟨(tm Z), trivial⟩, vr, Weak.mkL [] (by decide) trivial trivial, ⟨Z, Z⟩⟩
     ·replace h := ite_f (dec_f hb122) h
      refine aw_skip (aw_seq (aw_region ?_))
      obtain ⟨r121, r121e, h⟩ := bind_some h
      refine xc Z (op_call (vs := []) (H := []) Z call7 trivial (List.Perm.refl _) (mewslaw16.alive.ok r121e) ?_)
      rintro _ _ ⟨rfl, rfl⟩
      refine xm Z Z Z (xe (aw_ret ?_))
      obtain rfl := some_of h
      exact ⟨[.bool r121], _, [], ⟨(tm Z), trivial⟩, vr, Weak.mkL [] (by decide) trivial trivial, ⟨Z, Z⟩⟩

end Go.Pu
