/- Printed by lift.py: the functions come to them. -/
import Derived.Test.YtmognhokagemiaaGreatLiftWS
import Derived.Test.YtmognhokagemiaaGreatRLK3
set_option maxRecDepth 100000
set_option maxHeartbeats 0
namespace Go.Pu
open Go.Lift Go.Proofs.Tryz Go.RowKit Go.Proofs

theorem mewsref16.Files.ok {d : api.Disk} {r : List api.File} (h : mewsref16.Files d = some r) : Go.Lift.Spec prog 35 [.agg [.sl .no 3 (d.Files.map api.File.av), .sl .no 3 (d.Faults.map api.Fault.av)]] [] (fun v H => ∃ n0, v = .sl (.own n0) 3 (r.map api.File.av) ∧ H = [(n0, .spare)]) := by
 unfold mewsref16.Files at h
 refine Go.Lift.Spec.of_body (rs := [.tmp 2]) func35 Z Z (nb Z) Z (xr (xc Z (op_box (cs := [.sl .no 3 (d.Files.map api.File.av), .sl .no 3 (d.Faults.map api.Fault.av)]) (v := .agg [.sl .no 3 (d.Files.map api.File.av), .sl .no 3 (d.Faults.map api.Fault.av)]) Z (tm Z) Z Z ?_)))
 intro p980
 refine xa (.sl .full 3 (([] : List api.File).map api.File.av)) Z (pu_assign Z (AEv.nil 3 (by decide))) (xe (xr (xa (.sl .full 3 (([] : List api.File).map api.File.av)) Z (pu_assign Z (AEv.nil 3 (by decide))) (xe ?_))))
 obtain ⟨s1468, s1468e, h1470⟩ := bind_some h
 refine aw_meet (ν := Nat) (fun v => [(3, .sl (.own v) 3 (s1468.map api.File.av))]) (fun v => [(v, .spare)]) ?_ ?_
 ·have h := s1468e
  refine xr (xz (.i 0) Z (xe (aw_block (aw_claim 3 (tm Z) fun t1958 => (aw_while (σ := mewsref16.Files.S0) (ν := Nat) (mewsref16.Files.body0 d) (fun s1794 v => [(1, .ptr p980 0), (3, .sl (.own v) 3 (s1794.out.map api.File.av)), (4, .i s1794.i)]) (fun s1794 v => [(p980, .cells [.sl .no 3 (d.Files.map api.File.av), .sl .no 3 (d.Faults.map api.Fault.av)]), (v, .spare)]) ⟨([] : List api.File), 0⟩ t1958 _ h (wi [1, 0] Z) ?_)))))
  rintro s1794 n1795 x1797 h hx1796
  unfold mewsref16.Files.body0 at h
  refine aw_seq (xr (xy Z (xa (.ptr p980 0) Z (fa Z underlying25 Z sizeOf22 Z Z Z) (xl 0 isAgg22 Z (xa (.i (d.Files.length : Int)) Z (pu_lenM Z underlying22 (tm Z)) (xz (.bool (decide (s1794.i < (d.Files.length : Int)))) Z (xe (cd h (tm Z) (fun _ h => ?_) (fun _ h => ?_)))))))))
  ·refine aw_skip ?_
   obtain ⟨s1876, s1876e, h1878⟩ := bind_some h
   refine aw_meet (ν := Nat) (fun v => [(1, .ptr p980 0), (3, .sl (.own v) 3 (s1876.map api.File.av)), (4, .i s1794.i)]) (fun v => [(p980, .cells [.sl .no 3 (d.Files.map api.File.av), .sl .no 3 (d.Faults.map api.Fault.av)]), (v, .spare)]) ?_ ?_
   ·have h := s1876e
    refine aw_block (xr (xz (.bool false) Z (xe ?_)))
    obtain ⟨s1914, s1914e, h1915⟩ := bind_some h
    refine aw_meet (ν := Unit) (fun v => [(1, .ptr p980 0), (3, .sl (.own n1795) 3 (s1794.out.map api.File.av)), (4, .i s1794.i), (5, .bool s1914)]) (fun v => [(p980, .cells [.sl .no 3 (d.Files.map api.File.av), .sl .no 3 (d.Faults.map api.Fault.av)]), (n1795, .spare)]) ?_ ?_
    ·have h := s1914e
     refine xr (xz (.i 0) Z (xe (aw_block (aw_while (σ := mewsref16.Files.S2) (ν := Unit) (mewsref16.Files.body2 s1794 d) (fun s1937 v => [(1, .ptr p980 0), (3, .sl (.own n1795) 3 (s1794.out.map api.File.av)), (4, .i s1794.i), (5, .bool s1937.met), (6, .i s1937.k)]) (fun s1937 v => [(p980, .cells [.sl .no 3 (d.Files.map api.File.av), .sl .no 3 (d.Faults.map api.Fault.av)]), (n1795, .spare)]) ⟨false, 0⟩ () _ h (wi [0, 1] Z) ?_))))
     rintro s1937 _ x1939 h hx1938
     unfold mewsref16.Files.body2 at h
     refine aw_seq (xr (xy Z (xy Z (xz (.bool (decide (s1937.k < s1794.i))) Z (xe (cd h (tm Z) (fun _ h => ?_) (fun _ h => ?_)))))))
     ·refine aw_skip ?_
      obtain ⟨s1944, s1944e, h1945⟩ := bind_some h
      refine aw_meet (ν := Unit) (fun v => [(1, .ptr p980 0), (3, .sl (.own n1795) 3 (s1794.out.map api.File.av)), (4, .i s1794.i), (5, .bool s1944), (6, .i s1937.k)]) (fun v => [(p980, .cells [.sl .no 3 (d.Files.map api.File.av), .sl .no 3 (d.Faults.map api.Fault.av)]), (n1795, .spare)]) ?_ ?_
      ·have h := s1944e
       refine aw_block ?_
       rcases Bool.eq_false_or_eq_true s1937.met with hb1947 | hb1947
       ·replace h := ite_t hb1947 h
        refine aw_planR (by decide +kernel) [[], [], [], [], [], [], [], [], [], [], [], [], [], [], [], [], []] [[], []] [[[(p980, .cells [.sl .no 3 (d.Files.map api.File.av), .sl .no 3 (d.Faults.map api.Fault.av)])]], [[(n1795, .spare)]]] [.bool s1937.met, .bool true, .lit undef, .lit undef, .lit undef, .lit undef, .lit undef, .lit undef, .lit undef, .lit undef, .lit undef, .lit undef, .lit undef, .lit undef, .lit undef, .bool true, .bool true] (by decide +kernel) Z Z ?_ ?_
        ·exact ⟨ym Z Z Z, AStepG.cast (ym Z Z Z) (congrArg AV.bool hb1947), yx Z Z Z, yx Z Z Z, yx Z Z Z, yx Z Z Z, yx Z Z Z, yx Z Z Z, yx Z Z Z, yx Z Z Z, yx Z Z Z, yx Z Z Z, yx Z Z Z, yx Z Z Z, yx Z Z Z, yp Z (pe Z), ym Z Z Z, trivial⟩
        cases h
        exact ⟨(), wi [0, 1] Z⟩
       ·replace h := ite_fb hb1947 h
        obtain ⟨c1948, h⟩ := need_of h
        obtain ⟨c1949, h⟩ := need_of h
        refine aw_planR (by decide +kernel) [[], [], [], [(0, 0, false)], [], [], [], [], [], [(0, 0, false)], [], [], [], [], [], [], []] [[], []] [[[(p980, .cells [.sl .no 3 (d.Files.map api.File.av), .sl .no 3 (d.Faults.map api.Fault.av)])]], [[(n1795, .spare)]]] [.bool s1937.met, .bool false, .ptr p980 0, .sl .no 3 (d.Files.map api.File.av), .i s1937.k, .vptr [.str (ix d.Files s1937.k).Name, .str (ix d.Files s1937.k).Data, .i (ix d.Files s1937.k).Synced], .vptr [.str (ix d.Files s1937.k).Name, .str (ix d.Files s1937.k).Data, .i (ix d.Files s1937.k).Synced], .str (ix d.Files s1937.k).Name, .ptr p980 0, .sl .no 3 (d.Files.map api.File.av), .i s1794.i, .vptr [.str (ix d.Files s1794.i).Name, .str (ix d.Files s1794.i).Data, .i (ix d.Files s1794.i).Synced], .vptr [.str (ix d.Files s1794.i).Name, .str (ix d.Files s1794.i).Data, .i (ix d.Files s1794.i).Synced], .str (ix d.Files s1794.i).Name, .bool (decide ((ix d.Files s1937.k).Name = (ix d.Files s1794.i).Name)), .bool (decide ((ix d.Files s1937.k).Name = (ix d.Files s1794.i).Name)), .bool (decide ((ix d.Files s1937.k).Name = (ix d.Files s1794.i).Name))] (by decide +kernel) Z Z ?_ ?_
        ·exact ⟨ym Z Z Z, AStepG.cast (ym Z Z Z) (congrArg AV.bool hb1947), yq Z Z (fa Z underlying25 Z sizeOf22 Z Z Z), yg Z Z (op_load1 (i := 0) Z isAgg22 (tm Z) Z Z ⟨Z, Z⟩), yq Z Z (pe Z), yq Z Z (pu_indexAddrM Z underlying22 sizeOf60 (tm Z) (tm Z) c1948 Z), yq Z Z (fa Z underlying60 Z sizeOf9 Z Z Z), yg Z Z (op_loadV1 Z isAgg9 (tm Z) Z ⟨Z, Z⟩), yq Z Z (fa Z underlying25 Z sizeOf22 Z Z Z), yg Z Z (op_load1 (i := 0) Z isAgg22 (tm Z) Z Z ⟨Z, Z⟩), yq Z Z (pe Z), yq Z Z (pu_indexAddrM Z underlying22 sizeOf60 (tm Z) (tm Z) c1949 Z), yq Z Z (fa Z underlying60 Z sizeOf9 Z Z Z), yg Z Z (op_loadV1 Z isAgg9 (tm Z) Z ⟨Z, Z⟩), yq Z Z (pu_str (v := .bool (decide ((ix d.Files s1937.k).Name = (ix d.Files s1794.i).Name))) Z Z (tm Z) (tm Z) Z), yp Z (pe Z), ym Z Z Z, trivial⟩
        cases h
        exact ⟨(), wl [0, 1] Z ⟨⟨_, Z, cr, Z⟩, ⟨_, Z, Z⟩, trivial⟩ ⟨tm Z, tm Z, tm Z, (AEv.le (tm Z) vr), tm Z, trivial⟩⟩
      ·intro _
       have h := h1945
       refine aw_region (xy Z (xz (.i (IntKind.wrap .i64 (s1937.k + 1))) Z (xy Z (xe ?_))))
       cases h
       exact ⟨_, (), Z, wl [0, 1] Z ⟨⟨_, Z, cr, Z⟩, ⟨_, Z, Z⟩, trivial⟩ ⟨tm Z, tm Z, tm Z, tm Z, (AEv.le (tm Z) vr), trivial⟩⟩
     ·refine aw_exit ?_
      cases h
      have h := congrArg some (hx1938 _ rfl)
      cases h
      exact ⟨(), wi [0, 1] Z⟩
    ·intro _
     have h := h1915
     refine xr (xy Z (xz (.bool (!s1914)) Z (xe (cb h (tm Z) (fun _ h => ?_) (fun _ h => ?_)))))
     ·refine aw_seq ?_
      obtain ⟨c1951, h⟩ := need_of h
      obtain ⟨r1952, r1952e, h⟩ := bind_some h
      refine aw_reserve fun p1953 => (aw_planR (by decide +kernel) [[(1, 0, false)], [], [(1, 0, false)], [], [], [], [], [], [], [], [], [(0, 0, true)], [(0, 1, true)], []] [[11, 12], [], []] [[[(p1953, .resv)], [(p1953, .cells [.str ([] : List UInt8), .str ([] : List UInt8), .i 0])], [(p1953, .cells [.str r1952.1.Name, .str r1952.1.Data, .i r1952.1.Synced])]], [[(p980, .cells [.sl .no 3 (d.Files.map api.File.av), .sl .no 3 (d.Faults.map api.Fault.av)])]], [[(n1795, .spare)]]] [.agg [.sl .no 3 (d.Files.map api.File.av), .sl .no 3 (d.Faults.map api.Fault.av)], .ptr p980 0, .sl .no 3 (d.Files.map api.File.av), .i s1794.i, .vptr [.str (ix d.Files s1794.i).Name, .str (ix d.Files s1794.i).Data, .i (ix d.Files s1794.i).Synced], .vptr [.str (ix d.Files s1794.i).Name, .str (ix d.Files s1794.i).Data, .i (ix d.Files s1794.i).Synced], .str (ix d.Files s1794.i).Name, .tup [.agg [.str r1952.1.Name, .str r1952.1.Data, .i r1952.1.Synced], .bool r1952.2], .tup [.agg [.str r1952.1.Name, .str r1952.1.Data, .i r1952.1.Synced], .bool r1952.2], .agg [.str r1952.1.Name, .str r1952.1.Data, .i r1952.1.Synced], .bool r1952.2, .ptr p1953 0, .un, .bool r1952.2] (by decide +kernel) Z Z ?_ ?_)
      ·exact ⟨stepg_plain Z (op_loadN (i := 0) Z isAgg25 sizeOf25 (tm Z) Z (nb Z) Z ⟨Z, Z⟩), yp Z (fa Z underlying25 Z sizeOf22 Z Z Z), stepg_plain Z (op_load1 (i := 0) Z isAgg22 (tm Z) Z Z ⟨Z, Z⟩), ym Z Z Z, yp Z (pu_indexAddrM Z underlying22 sizeOf60 (tm Z) (tm Z) c1951 Z), yp Z (fa Z underlying60 Z sizeOf9 Z Z Z), stepg_plain Z (op_loadV1 Z isAgg9 (tm Z) Z ⟨Z, Z⟩), stepg_plain Z (op_call (vs := [.agg [.sl .no 3 (d.Files.map api.File.av), .sl .no 3 (d.Faults.map api.Fault.av)], .str (ix d.Files s1794.i).Name]) (H := []) Z call31 ⟨(tm Z), (tm Z), trivial⟩ (R := []) (List.Perm.refl _) (mewsref16.Find.ok r1952e) (by rintro _ _ ⟨rfl, rfl⟩; exact ⟨Z, Z⟩)), ym Z Z Z, yp Z (pe Z), yp Z (pe Z), stepg_plain Z (aop_settleP (op_alloc (cs := [.str ([] : List UInt8), .str ([] : List UInt8), .i 0]) (v := .agg [.str ([] : List UInt8), .str ([] : List UInt8), .i 0]) Z zeroValue60 Z Z Z fun t => ⟨t, Z, Z⟩) ⟨Z, Z⟩), stepg_plain Z (op_store (i := 0) (cs' := [.str r1952.1.Name, .str r1952.1.Data, .i r1952.1.Synced]) Z sizeOf60 (tm Z) (v := .agg [.str r1952.1.Name, .str r1952.1.Data, .i r1952.1.Synced]) (tm Z) Z Z Z (nb Z) Z ⟨Z, Z⟩), ym Z Z Z, trivial⟩
      refine aw_region (xy Z (xL 0 isAgg60 sizeOf60 Z (xc Z (op_buildSlice (xs := ([r1952.1] : List api.File).map api.File.av) (aparts := [(0, .agg [.str r1952.1.Name, .str r1952.1.Data, .i r1952.1.Synced])]) Z underlying22 sizeOf60 zeroValue60 (by decide) (by decide) ⟨Z, (tm Z), trivial⟩ Z Z Z ?_))))
      obtain ⟨c1954, h⟩ := need_of h
      refine xc Z (op_appendOM (q := 2) Z underlying22 underlying22 (.inl Z) typeInfo60 Z Z Z (by decide) (tm Z) Z (given_sl (tm Z)) c1954 ?_)
      intro t1955
      refine xy Z (xe ?_)
      cases h
      exact ⟨t1955, wl [1, 2] Z ⟨⟨_, Z, cr, Z⟩, ⟨_, Z, Z⟩, trivial⟩ ⟨tm Z, (AEv.le (tm Z) vr), tm Z, trivial⟩⟩
     ·refine aw_skip ?_
      cases h
      exact ⟨n1795, wi [0, 1] Z⟩
   ·intro n1877
    have h := h1878
    refine aw_region (xy Z (xz (.i (IntKind.wrap .i64 (s1794.i + 1))) Z (xy Z (xe ?_))))
    cases h
    exact ⟨_, n1877, Z, wl [0, 1] Z ⟨⟨_, Z, cr, Z⟩, ⟨_, Z, Z⟩, trivial⟩ ⟨tm Z, tm Z, (AEv.le (tm Z) vr), trivial⟩⟩
  ·refine aw_exit ?_
   cases h
   have h := congrArg some (hx1796 _ rfl)
   cases h
   exact ⟨n1795, wi [1] Z⟩
 ·intro n1469
  have h := h1470
  refine xr (xy Z (xy Z (xe (aw_ret ?_))))
  cases h
  exact rt ⟨n1469, Z, Z⟩ Z (wi [0] Z)

theorem mewsref16.Remove.ok {d : api.Disk} {name : List UInt8} {r : api.Disk} (h : mewsref16.Remove d name = some r) : Go.Lift.Spec prog 30 [.agg [.sl .no 3 (d.Files.map api.File.av), .sl .no 3 (d.Faults.map api.Fault.av)], .str name] [] (fun v H => ∃ n0, v = .agg [.sl (.own n0) 3 (r.Files.map api.File.av), .sl .no 3 (r.Faults.map api.Fault.av)] ∧ H = [(n0, .spare)]) := by
 unfold mewsref16.Remove at h
 refine Go.Lift.Spec.of_body (rs := [.cell 4 25]) func30 Z Z (nb Z) Z (xr (xc Z (op_box (cs := [.sl .no 3 (d.Files.map api.File.av), .sl .no 3 (d.Faults.map api.Fault.av)]) (v := .agg [.sl .no 3 (d.Files.map api.File.av), .sl .no 3 (d.Faults.map api.Fault.av)]) Z (tm Z) Z Z ?_)))
 intro p120
 refine xc Z (op_alloc (cs := [.sl .full 3 (([] : List api.File).map api.File.av), .sl .full 3 (([] : List api.Fault).map api.Fault.av)]) (v := .agg [.sl .full 3 (([] : List api.File).map api.File.av), .sl .full 3 (([] : List api.Fault).map api.Fault.av)]) Z zeroValue25 Z Z Z ?_)
 intro p121
 refine xe (xr (xa (.ptr p120 1) Z (fa Z underlying25 Z sizeOf23 Z Z Z) (xl 1 isAgg23 Z (xa (.agg [.sl .full 3 (([] : List api.File).map api.File.av), .sl .no 3 (d.Faults.map api.Fault.av)]) Z (pu_build (zs := [.sl .full 3 (([] : List api.File).map api.File.av), .sl .full 3 (([] : List api.Fault).map api.Fault.av)]) (szs := [1, 1]) (aparts := [(1, .sl .no 3 (d.Faults.map api.Fault.av))]) (cs := [.sl .full 3 (([] : List api.File).map api.File.av), .sl .no 3 (d.Faults.map api.Fault.av)]) Z underlying25 zeroValue25 Z ⟨sizeOf22, sizeOf23, trivial⟩ ⟨Z, (tm Z), trivial⟩ Z) (xc Z (op_alloc (cs := [.sl .full 3 (([] : List api.File).map api.File.av), .sl .full 3 (([] : List api.Fault).map api.Fault.av)]) (v := .agg [.sl .full 3 (([] : List api.File).map api.File.av), .sl .full 3 (([] : List api.Fault).map api.Fault.av)]) Z zeroValue25 Z Z Z ?_))))))
 intro p122
 refine xs 0 [.sl .full 3 (([] : List api.File).map api.File.av), .sl .no 3 (d.Faults.map api.Fault.av)] sizeOf25 Z (xe (xr (xL 2 isAgg25 sizeOf25 Z ?_)))
 obtain ⟨r123, r123e, h⟩ := bind_some h
 refine xk (mewsref16.Files.ok r123e) call35 Z ?_
 rintro _ _ ⟨t124, rfl, rfl⟩
 refine xy Z (xe ?_)
 obtain ⟨s180, s180e, h182⟩ := bind_some h
 refine aw_meet (ν := Nat) (fun v => [(4, .ptr p121 0), (5, .ptr p122 0)]) (fun v => [(p121, .cells [.sl .full 3 (([] : List api.File).map api.File.av), .sl .full 3 (([] : List api.Fault).map api.Fault.av)]), (p122, .cells [.sl (.own v) 3 (s180.map api.File.av), .sl .no 3 (d.Faults.map api.Fault.av)]), (v, .spare)]) ?_ ?_
 ·have h := s180e
  refine xr (xz (.i 0) Z (xe (aw_block (aw_claimCell 1 0 Z Z fun t238 => (aw_while (σ := mewsref16.Remove.S0) (ν := Nat) (mewsref16.Remove.body0 r123 name) (fun s218 v => [(1, .str name), (4, .ptr p121 0), (5, .ptr p122 0), (6, .sl (.own t124) 3 (r123.map api.File.av)), (7, .i s218.i)]) (fun s218 v => [(p121, .cells [.sl .full 3 (([] : List api.File).map api.File.av), .sl .full 3 (([] : List api.Fault).map api.Fault.av)]), (p122, .cells [.sl (.own v) 3 (s218.c.map api.File.av), .sl .no 3 (d.Faults.map api.Fault.av)]), (t124, .spare), (v, .spare)]) ⟨0, ([] : List api.File)⟩ t238 _ h (wi [3, 2, 1, 0] Z) ?_)))))
  rintro s218 n219 x221 h hx220
  unfold mewsref16.Remove.body0 at h
  refine aw_seq (xr (xy Z (xy Z (xa (.i (r123.length : Int)) Z (pu_lenM Z underlying22 (tm Z)) (xz (.bool (decide (s218.i < (r123.length : Int)))) Z (xe (cd h (tm Z) (fun _ h => ?_) (fun _ h => ?_))))))))
  ·refine aw_skip ?_
   obtain ⟨s228, s228e, h230⟩ := bind_some h
   refine aw_meet (ν := Nat) (fun v => [(1, .str name), (4, .ptr p121 0), (5, .ptr p122 0), (6, .sl (.own t124) 3 (r123.map api.File.av)), (7, .i s218.i)]) (fun v => [(p121, .cells [.sl .full 3 (([] : List api.File).map api.File.av), .sl .full 3 (([] : List api.Fault).map api.Fault.av)]), (p122, .cells [.sl (.own v) 3 (s228.map api.File.av), .sl .no 3 (d.Faults.map api.Fault.av)]), (t124, .spare), (v, .spare)]) ?_ ?_
   ·have h := s228e
    refine aw_block (xr (xy Z (xy Z ?_)))
    obtain ⟨c232, h⟩ := need_of h
    refine xa (.vptr [.str (ix r123 s218.i).Name, .str (ix r123 s218.i).Data, .i (ix r123 s218.i).Synced]) Z (pu_indexAddrM Z underlying22 sizeOf60 (tm Z) (tm Z) c232 Z) (xa (.vptr [.str (ix r123 s218.i).Name, .str (ix r123 s218.i).Data, .i (ix r123 s218.i).Synced]) Z (fa Z underlying60 Z sizeOf9 Z Z Z) (xc Z (op_loadV1 Z isAgg9 (tm Z) Z (xy Z (xa (.bool (!decide ((ix r123 s218.i).Name = name))) Z (pu_str (v := .bool (!decide ((ix r123 s218.i).Name = name))) Z Z (tm Z) (tm Z) Z) (xe (aw_cond (tm Z) (fun hb236 => ?_) (fun hb236 => ?_))))))))
    ·replace h := ite_f (ndec_t hb236) h
     obtain ⟨c233, h⟩ := need_of h
     obtain ⟨c234, h⟩ := need_of h
     refine aw_reserve fun p235 => (aw_planR (by decide +kernel) [[], [(2, 0, false)], [], [], [], [], [], [(4, 0, true), (0, 0, true)], [], [(2, 0, true)]] [[7], [], [9], [], [7]] [[[(p235, .resv)], [(p235, .spare)]], [[(p121, .cells [.sl .full 3 (([] : List api.File).map api.File.av), .sl .full 3 (([] : List api.Fault).map api.Fault.av)])]], [[(p122, .cells [.sl (.own n219) 3 (s218.c.map api.File.av), .sl .no 3 (d.Faults.map api.Fault.av)])], [(p122, .cells [.sl (.own p235) 3 ((s218.c ++ [(ix r123 s218.i)]).map api.File.av), .sl .no 3 (d.Faults.map api.Fault.av)])]], [[(t124, .spare)]], [[(n219, .spare)], []]] [.ptr p122 0, .sl (.own n219) 3 (s218.c.map api.File.av), .sl (.own t124) 3 (r123.map api.File.av), .i s218.i, .vptr [.str (ix r123 s218.i).Name, .str (ix r123 s218.i).Data, .i (ix r123 s218.i).Synced], .agg [.str (ix r123 s218.i).Name, .str (ix r123 s218.i).Data, .i (ix r123 s218.i).Synced], .sl .full 3 ([(ix r123 s218.i)].map api.File.av), .sl (.own p235) 3 ((s218.c ++ [(ix r123 s218.i)]).map api.File.av), .ptr p122 0, .un] (by decide +kernel) Z Z ?_ ?_)
     ·exact ⟨yp Z (fa Z underlying25 Z sizeOf22 Z Z Z), stepg_plain Z (op_load1 (i := 0) Z isAgg22 (tm Z) Z Z ⟨Z, Z⟩), ym Z Z Z, ym Z Z Z, yp Z (pu_indexAddrM Z underlying22 sizeOf60 (tm Z) (tm Z) c233 Z), stepg_plain Z (op_loadVN Z isAgg60 sizeOf60 (tm Z) (nb Z) Z ⟨Z, Z⟩), stepg_plain Z (op_buildSlice (xs := ([(ix r123 s218.i)] : List api.File).map api.File.av) (aparts := [(0, .agg [.str (ix r123 s218.i).Name, .str (ix r123 s218.i).Data, .i (ix r123 s218.i).Synced])]) Z underlying22 sizeOf60 zeroValue60 (by decide) (by decide) ⟨Z, (tm Z), trivial⟩ Z Z Z ⟨Z, Z⟩), stepg_plain Z (aop_settleS (op_appendOM (q := 0) Z underlying22 underlying22 (.inl Z) typeInfo60 Z Z Z (by decide) (tm Z) Z (given_sl (tm Z)) c234 fun t => ⟨t, Z, Z⟩) ⟨Z, Z⟩), yp Z (fa Z underlying25 Z sizeOf22 Z Z Z), stepg_plain Z (op_store (i := 0) (cs' := [.sl (.own p235) 3 ((s218.c ++ [(ix r123 s218.i)]).map api.File.av), .sl .no 3 (d.Faults.map api.Fault.av)]) Z sizeOf22 (tm Z) (v := .sl (.own p235) 3 ((s218.c ++ [(ix r123 s218.i)]).map api.File.av)) (tm Z) Z Z Z (nb Z) Z ⟨Z, Z⟩), trivial⟩
     cases h
     exact ⟨p235, wl [1, 2, 3, 0] Z ⟨⟨_, Z, cr, Z⟩, ⟨_, Z, ⟨vr, vr, trivial⟩, Z⟩, ⟨_, Z, Z⟩, ⟨_, Z, Z⟩, trivial⟩ ⟨tm Z, tm Z, tm Z, tm Z, tm Z, trivial⟩⟩
    ·replace h := ite_t (ndec_f hb236) h
     refine aw_skip ?_
     cases h
     exact ⟨n219, wi [0, 1, 2, 3] Z⟩
   ·intro n229
    have h := h230
    refine aw_region (xy Z (xz (.i (IntKind.wrap .i64 (s218.i + 1))) Z (xy Z (xe ?_))))
    cases h
    exact ⟨_, n229, Z, wl [0, 1, 2, 3] Z ⟨⟨_, Z, cr, Z⟩, ⟨_, Z, cr, Z⟩, ⟨_, Z, Z⟩, ⟨_, Z, Z⟩, trivial⟩ ⟨tm Z, tm Z, tm Z, tm Z, (AEv.le (tm Z) vr), trivial⟩⟩
  ·refine aw_exit ?_
   cases h
   have h := congrArg some (hx220 _ rfl)
   cases h
   exact ⟨n219, wi [0, 1, 3] Z⟩
 ·intro n181
  have h := h182
  refine xr (xL 1 isAgg25 sizeOf25 Z (xs 0 [.sl (.own n181) 3 (s180.map api.File.av), .sl .no 3 (d.Faults.map api.Fault.av)] sizeOf25 Z (xe (aw_ret ?_))))
  cases h
  exact rq [.agg [.sl (.own n181) 3 (s180.map api.File.av), .sl .no 3 (d.Faults.map api.Fault.av)]] ⟨n181, Z, Z⟩ vr ⟨(CellOk.agg 0 (tm Z) Z isAgg25 sizeOf25 (nb Z) Z), trivial⟩ (wi [2] Z)

theorem mewsref05.between.ok {n_ : Int} {most : Int} {r : Int} (h : mewsref05.between n_ most = some r) : Go.Lift.Spec prog 123 [.i n_, .i most] [] (fun v H => v = .i r ∧ H = []) := by
 unfold mewsref05.between at h
 refine Go.Lift.Spec.of_body (rs := [.tmp 4]) func123 Z Z (nb Z) Z (xr (xz (.i 0) Z (xe (aw_seq (xr (xy Z (xz (.bool (decide (n_ < 1))) Z ?_)))))))
 refine xe (cd h (tm Z) (fun _ h => ?_) (fun _ h => ?_))
 ·refine xr (xz (.i 1) Z (xe (aw_ret ?_)))
  cases h
  exact rt ⟨Z, Z⟩ Z w0
 ·refine aw_skip (aw_seq (xr (xy Z (xy Z (xz (.bool (decide (most < n_))) Z (xe (cd h (tm Z) (fun _ h => ?_) (fun _ h => ?_))))))))
  ·refine xr (xy Z (xy Z (xe (aw_ret ?_))))
   cases h
   exact rt ⟨Z, Z⟩ Z w0
  ·refine aw_skip (xr (xy Z (xy Z (xe (aw_ret ?_)))))
   cases h
   exact rt ⟨Z, Z⟩ Z w0

theorem mewsref05.Limits.ok {l : api.Limits} {r : api.Limits} (h : mewsref05.Limits l = some r) : Go.Lift.Spec prog 101 [.agg [.i l.Args, .i l.Bulk, .i l.Line]] [] (fun v H => v = .agg [.i r.Args, .i r.Bulk, .i r.Line] ∧ H = []) := by
 unfold mewsref05.Limits at h
 refine Go.Lift.Spec.of_body (rs := [.cell 2 149]) func101 Z Z (nb Z) Z (xr (xc Z (op_box (cs := [.i l.Args, .i l.Bulk, .i l.Line]) (v := .agg [.i l.Args, .i l.Bulk, .i l.Line]) Z (tm Z) Z Z ?_)))
 intro p6
 refine xc Z (op_alloc (cs := [.i 0, .i 0, .i 0]) (v := .agg [.i 0, .i 0, .i 0]) Z zeroValue149 Z Z Z ?_)
 intro p7
 refine xe (aw_seq ?_)
 obtain ⟨r8, r8e, h⟩ := bind_some h
 obtain ⟨r9, r9e, h⟩ := bind_some h
 obtain ⟨r10, r10e, h⟩ := bind_some h
 refine aw_planR (by decide +kernel) [[], [(1, 0, false)], [], [], [(1, 0, false)], [], [], [(1, 0, false)], [], [], [(0, 0, true)]] [[10], []] [[[(p7, .cells [.i 0, .i 0, .i 0])], [(p7, .cells [.i r8, .i r9, .i r10])]], [[(p6, .cells [.i l.Args, .i l.Bulk, .i l.Line])]]] [.ptr p6 0, .i l.Args, .i r8, .ptr p6 1, .i l.Bulk, .i r9, .ptr p6 2, .i l.Line, .i r10, .agg [.i r8, .i r9, .i r10], .un] (by decide +kernel) Z Z ?_ ?_
 ·exact ⟨yp Z (fa Z underlying149 Z sizeOf3 Z Z Z), stepg_plain Z (op_load1 (i := 0) Z isAgg3 (tm Z) Z Z ⟨Z, Z⟩), stepg_plain Z (op_call (vs := [.i l.Args, .i 65536]) (H := []) Z call123 ⟨(tm Z), (AEv.int _ _), trivial⟩ (R := []) (List.Perm.refl _) (mewsref05.between.ok r8e) (by rintro _ _ ⟨rfl, rfl⟩; exact ⟨Z, Z⟩)), yp Z (fa Z underlying149 Z sizeOf3 Z Z Z), stepg_plain Z (op_load1 (i := 0) Z isAgg3 (tm Z) Z Z ⟨Z, Z⟩), stepg_plain Z (op_call (vs := [.i l.Bulk, .i 1048576]) (H := []) Z call123 ⟨(tm Z), (AEv.int _ _), trivial⟩ (R := []) (List.Perm.refl _) (mewsref05.between.ok r9e) (by rintro _ _ ⟨rfl, rfl⟩; exact ⟨Z, Z⟩)), yp Z (fa Z underlying149 Z sizeOf3 Z Z Z), stepg_plain Z (op_load1 (i := 0) Z isAgg3 (tm Z) Z Z ⟨Z, Z⟩), stepg_plain Z (op_call (vs := [.i l.Line, .i 65536]) (H := []) Z call123 ⟨(tm Z), (AEv.int _ _), trivial⟩ (R := []) (List.Perm.refl _) (mewsref05.between.ok r10e) (by rintro _ _ ⟨rfl, rfl⟩; exact ⟨Z, Z⟩)), yp Z (pu_build (zs := [.i 0, .i 0, .i 0]) (szs := [1, 1, 1]) (aparts := [(0, .i r8), (1, .i r9), (2, .i r10)]) (cs := [.i r8, .i r9, .i r10]) Z underlying149 zeroValue149 Z ⟨sizeOf3, sizeOf3, sizeOf3, trivial⟩ ⟨Z, (tm Z), ⟨Z, (tm Z), ⟨Z, (tm Z), trivial⟩⟩⟩ Z), stepg_plain Z (op_store (i := 0) (cs' := [.i r8, .i r9, .i r10]) Z sizeOf149 (tm Z) (v := .agg [.i r8, .i r9, .i r10]) (tm Z) Z Z Z (nb Z) Z ⟨Z, Z⟩), trivial⟩
 refine aw_ret ?_
 cases h
 exact rq [.agg [.i r8, .i r9, .i r10]] ⟨Z, Z⟩ vr ⟨(CellOk.agg 0 (tm Z) Z isAgg149 sizeOf149 (nb Z) Z), trivial⟩ w0

theorem mewsref01.Parse.ok {s_ : List UInt8} {r : Int × Bool} (h : mewsref01.Parse s_ = some r) : Go.Lift.Spec prog 139 [.str s_] [] (fun v H => v = .tup [.i r.1, .bool r.2] ∧ H = []) := by
 unfold mewsref01.Parse at h
 refine Go.Lift.Spec.of_body (rs := [.tmp 2, .tmp 3]) func139 Z Z (nb Z) Z (xr (xz (.i 0) Z (xz (.bool false) Z (xe ?_))))
 obtain ⟨s309, s309e, h310⟩ := bind_some h
 refine aw_meet (ν := Unit) (fun v => [(0, .str s_), (4, .bool s309)]) (fun v => []) ?_ ?_
 ·have h := s309e
  refine aw_region (xy Z (xa (.i (s_.length : Int)) Z (pu_strLen Z underlying9 (tm Z)) (xz (.bool (decide (0 < (s_.length : Int)))) Z (xy Z ?_))))
  rcases Bool.eq_false_or_eq_true (decide (0 < (s_.length : Int))) with hb312 | hb312
  ·replace h := ite_t (dec_t hb312) h
   refine aops_known 11 Z hb312 (xq Z Z Z Z ?_)
   obtain ⟨c313, h⟩ := need_of h
   refine xp (.int .u8 (bix s_ 0)) Z Z (pu_strIdxM Z underlying9 (tm Z) (AEv.int _ _) c313) (xp (.bool (decide ((bix s_ 0) = 45))) Z Z (pe Z) (xz (.bool (decide ((bix s_ 0) = 45))) Z (xy Z (xe ?_))))
   cases h
   exact ⟨(), wl [] Z trivial ⟨tm Z, (AEv.le (tm Z) vr), trivial⟩⟩
  ·replace h := ite_f (dec_f hb312) h
   refine aops_known 11 Z hb312 (xu Z (xu Z (xu Z (xz (.bool false) Z (xy Z (xe ?_))))))
   cases h
   exact ⟨(), wi [] Z⟩
 ·intro _
  have h := h310
  refine xr (xz (.i 0) Z (xe ?_))
  obtain ⟨s612, s612e, h456⟩ := bind_some h
  refine aw_join (σ := Int) (ν := Unit) (fun u v => [(0, .str s_), (4, .bool s309), (5, .i u)]) (fun u v => []) (fun u => s612 = .inl u) ?_ ?_
  ·intro s455
   intro _
   rintro rfl
   have h := onSum_inl h456
   refine aw_seq ?_
   obtain ⟨s600, s600e, h601⟩ := letO_of h
   refine aw_meet (ν := Unit) (fun v => [(0, .str s_), (4, .bool s309), (5, .i s455), (56, .bool s600)]) (fun v => []) ?_ ?_
   ·have h := s600e.symm
    refine aw_region (xy Z (xz (.bool (!s309)) Z (xy Z ?_)))
    rcases Bool.eq_false_or_eq_true (!s309) with hb603 | hb603
    ·replace h := ite_t hb603 h
     refine aops_known 53 Z hb603 (xq Z Z Z Z (xp (.bool (decide (s455 = (-9223372036854775808)))) Z Z (pe Z) (xz (.bool (decide (s455 = (-9223372036854775808)))) Z (xe ?_))))
     subst h
     exact ⟨(), wl [] Z trivial ⟨tm Z, tm Z, tm Z, (AEv.le (tm Z) vr), trivial⟩⟩
    ·replace h := ite_fb hb603 h
     refine aops_known 53 Z hb603 (xu Z (xu Z (xz (.bool false) Z (xe ?_))))
     subst h
     exact ⟨(), wi [] Z⟩
   ·intro _
    have h := h601
    refine aw_cond (b := s600) (tm Z) (fun hb611 => ?_) (fun hb611 => ?_)
    ·replace h := ite_t hb611 h
     refine xr (xz (.i 0) Z (xz (.bool false) Z (xe (aw_ret ?_))))
     cases h
     exact rt ⟨Z, Z⟩ Z w0
    ·replace h := ite_fb hb611 h
     refine aw_skip ?_
     obtain ⟨s605, s605e, h606⟩ := letO_of h
     refine aw_meet (ν := Unit) (fun v => [(0, .str s_), (5, .i s605)]) (fun v => []) ?_ ?_
     ·have h := s605e.symm
      refine xr (xy Z (xz (.bool (!s309)) Z (xe (cb h (tm Z) (fun _ h => ?_) (fun _ h => ?_)))))
      ·refine aw_region (xy Z (xa (.i (IntKind.wrap .i64 (0 - s455))) Z (pu_neg Z (tm Z)) (xy Z (xe ?_))))
       subst h
       exact ⟨(), wl [] Z trivial ⟨tm Z, (AEv.le (tm Z) vr), trivial⟩⟩
      ·refine aw_skip ?_
       subst h
       exact ⟨(), wi [] Z⟩
     ·intro _
      have h := h606
      refine aw_seq (xr (xy Z ?_))
      obtain ⟨r609, r609e, h⟩ := bind_some h
      refine xk (mewsref01.Text.ok r609e) call104 Z ?_
      rintro _ _ ⟨rfl, rfl⟩
      refine xy Z (xa (.bool (!decide (r609 = s_))) Z (pu_str (v := .bool (!decide (r609 = s_))) Z Z (tm Z) (tm Z) Z) (xe (aw_cond (tm Z) (fun hb610 => ?_) (fun hb610 => ?_))))
      ·replace h := ite_f (ndec_t hb610) h
       refine xr (xz (.i 0) Z (xz (.bool false) Z (xe (aw_ret ?_))))
       cases h
       exact rt ⟨Z, Z⟩ Z w0
      ·replace h := ite_t (ndec_f hb610) h
       refine aw_skip (xr (xy Z (xy Z (xz (.bool true) Z (xe (aw_ret ?_))))))
       cases h
       exact rt ⟨Z, Z⟩ Z w0
  ·have h := s612e
   refine xr (xz (.i 0) Z (xe (aw_block (aw_while (σ := mewsref01.Parse.S0) (ν := Unit) (mewsref01.Parse.body0 s_ s309) (fun s550 v => [(0, .str s_), (4, .bool s309), (5, .i s550.n), (6, .i s550.i)]) (fun s550 v => []) ⟨0, 0⟩ () _ h (wi [] Z) ?_))))
   rintro s550 _ x552 h hx551
   unfold mewsref01.Parse.body0 at h
   refine aw_seq (xr (xy Z (xy Z (xa (.i (s_.length : Int)) Z (pu_strLen Z underlying9 (tm Z)) (xz (.bool (decide (s550.i < (s_.length : Int)))) Z (xe (cd h (tm Z) (fun _ h => ?_) (fun _ h => ?_))))))))
   ·refine aw_skip ?_
    obtain ⟨s597, s597e, h575⟩ := bind_some h
    refine aw_join (σ := Int) (ν := Unit) (fun u v => [(0, .str s_), (4, .bool s309), (5, .i u), (6, .i s550.i)]) (fun u v => []) (fun u => s597 = .inl u) ?_ ?_
    ·intro s574
     intro _
     rintro rfl
     have h := onSum_inl h575
     refine aw_region (xy Z (xz (.i (IntKind.wrap .i64 (s550.i + 1))) Z (xy Z (xe ?_))))
     cases h
     exact ⟨_, (), Z, wl [] Z trivial ⟨tm Z, tm Z, tm Z, (AEv.le (tm Z) vr), trivial⟩⟩
    ·have h := s597e
     refine aw_block (aw_seq ?_)
     obtain ⟨s578, s578e, h579⟩ := letO_of h
     refine aw_meet (ν := Unit) (fun v => [(0, .str s_), (4, .bool s309), (5, .i s550.n), (6, .i s550.i), (26, .bool s578)]) (fun v => []) ?_ ?_
     ·have h := s578e.symm
      refine aw_region (xy Z (xz (.bool (decide (s550.i = 0))) Z (xy Z ?_)))
      rcases Bool.eq_false_or_eq_true (decide (s550.i = 0)) with hb581 | hb581
      ·replace h := ite_t (dec_t hb581) h
       refine aops_known 24 Z hb581 (xq Z Z Z Z (xz (.bool s309) Z (xe ?_)))
       subst h
       exact ⟨(), wi [] Z⟩
      ·replace h := ite_f (dec_f hb581) h
       refine aops_known 24 Z hb581 (xu Z (xz (.bool false) Z (xe ?_)))
       subst h
       exact ⟨(), wi [] Z⟩
     ·intro _
      have h := h579
      refine aw_cond (b := s578) (tm Z) (fun hb596 => ?_) (fun hb596 => ?_)
      ·replace h := ite_t hb596 h
       refine aw_exit ?_
       exact ⟨s550.n, (), (some_of h).symm, wi [] Z⟩
      ·replace h := ite_fb hb596 h
       refine aw_skip (aw_seq ?_)
       obtain ⟨s585, s585e, h586⟩ := bind_some h
       refine aw_meet (ν := Unit) (fun v => [(0, .str s_), (4, .bool s309), (5, .i s550.n), (6, .i s550.i), (36, .bool s585)]) (fun v => []) ?_ ?_
       ·have h := s585e
        refine aw_region (xy Z (xy Z ?_))
        obtain ⟨c588, h⟩ := need_of h
        refine xa (.int .u8 (bix s_ s550.i)) Z (pu_strIdxM Z underlying9 (tm Z) (tm Z) c588) (xz (.bool (decide ((bix s_ s550.i) < 48))) Z (xy Z ?_))
        rcases Bool.eq_false_or_eq_true (decide ((bix s_ s550.i) < 48)) with hb589 | hb589
        ·replace h := ite_t (dec_t hb589) h
         refine aops_known 31 Z hb589 (xu Z (xu Z (xu Z (xu Z (xz (.bool true) Z (xe ?_))))))
         cases h
         exact ⟨(), wi [] Z⟩
        ·replace h := ite_f (dec_f hb589) h
         refine aops_known 31 Z hb589 (xq Z Z Z Z (xq Z Z Z Z ?_))
         obtain ⟨c590, h⟩ := need_of h
         refine xp (.int .u8 (bix s_ s550.i)) Z Z (pu_strIdxM Z underlying9 (tm Z) (tm Z) c590) (xp (.bool (decide (57 < (bix s_ s550.i)))) Z Z (pe Z) (xz (.bool (decide (57 < (bix s_ s550.i)))) Z (xe ?_)))
         cases h
         exact ⟨(), wl [] Z trivial ⟨tm Z, tm Z, tm Z, tm Z, (AEv.le (tm Z) vr), trivial⟩⟩
       ·intro _
        have h := h586
        refine aw_cond (b := s585) (tm Z) (fun hb595 => ?_) (fun hb595 => ?_)
        ·replace h := ite_t hb595 h
         refine xr (xz (.i 0) Z (xz (.bool false) Z (xe (aw_ret ?_))))
         cases h
         have h := onSum_inr h575
         cases h
         have h := congrArg some (hx551 _ rfl)
         cases h
         have h := onSum_inr h456
         cases h
         exact rt ⟨Z, Z⟩ Z w0
        ·replace h := ite_fb hb595 h
         refine aw_skip (xr (xy Z (xy Z ?_)))
         obtain ⟨c591, h⟩ := need_of h
         refine xa (.int .u8 (bix s_ s550.i)) Z (pu_strIdxM Z underlying9 (tm Z) (tm Z) c591) (xz (.int .u8 (IntKind.wrap .u8 ((bix s_ s550.i) - 48))) Z (xa (.i (IntKind.wrap .i64 (IntKind.wrap .u8 ((bix s_ s550.i) - 48)))) Z (pu_conv Z underlying5 underlying2 (tm Z)) (xy Z (xe (aw_seq (xr (xy Z (xy Z ?_))))))))
         refine xz (.i (IntKind.wrap .i64 ((-9223372036854775808) + (IntKind.wrap .i64 (IntKind.wrap .u8 ((bix s_ s550.i) - 48)))))) Z ?_
         obtain ⟨x592, x592e, h⟩ := letO_of h
         refine xa (.i x592) Z (APure.eq (pu_quo Z (tm Z) (AEv.int _ _) (by decide)) (congrArg (AV.int .i64) x592e.symm)) (xz (.bool (decide (s550.n < x592))) Z (xe (cd h (tm Z) (fun _ h => ?_) (fun _ h => ?_))))
         ·refine xr (xz (.i 0) Z (xz (.bool false) Z (xe (aw_ret ?_))))
          cases h
          have h := onSum_inr h575
          cases h
          have h := congrArg some (hx551 _ rfl)
          cases h
          have h := onSum_inr h456
          cases h
          exact rt ⟨Z, Z⟩ Z w0
         ·refine aw_skip (aw_region (xy Z (xz (.i (IntKind.wrap .i64 (s550.n * 10))) Z (xy Z ?_))))
          obtain ⟨x593, x593e, h⟩ := letO_of h
          refine xa (.i x593) Z (APure.eq (pe Z) (congrArg (AV.int .i64) x593e.symm)) (xy Z (xe ?_))
          exact ⟨x593, (), (some_of h).symm, wi [] Z⟩
   ·refine aw_exit ?_
    cases h
    have h := congrArg some (hx551 _ rfl)
    exact ⟨s550.n, (), (some_of h).symm, wi [] Z⟩

theorem mewsref05.first.ok {s_ : List UInt8} {mark : Int} {most : Int} {over : Int} {r : Int × Int × Int} (h : mewsref05.first s_ mark most over = some r) : Go.Lift.Spec prog 124 [.str s_, .int .u8 mark, .i most, .i over] [] (fun v H => v = .tup [.i r.1, .i r.2.1, .i r.2.2] ∧ H = []) := by
 unfold mewsref05.first at h
 refine Go.Lift.Spec.of_body (rs := [.tmp 8, .tmp 9, .tmp 10]) func124 Z Z (nb Z) Z (xr (xz (.i 0) Z (xz (.i 0) Z (xz (.i 0) Z (xe (aw_seq (aw_seq (aw_region ?_))))))))
 refine xy Z (xa (.bool (decide (s_ = ([] : List UInt8)))) Z (pu_str (v := .bool (decide (s_ = ([] : List UInt8)))) Z Z (tm Z) (AEv.const Z) Z) (xe (cd h (tm Z) (fun _ h => ?_) (fun _ h => ?_))))
 ·refine xr (xz (.i 0) Z (xz (.i 0) Z (xz (.i (-1)) Z (xe (aw_ret ?_)))))
  cases h
  exact rt ⟨Z, Z⟩ Z w0
 ·refine aw_skip (aw_seq (xr (xy Z ?_)))
  obtain ⟨c203, h⟩ := need_of h
  refine xa (.int .u8 (bix s_ 0)) Z (pu_strIdxM Z underlying9 (tm Z) (AEv.int _ _) c203) (xy Z (xz (.bool (!decide ((bix s_ 0) = mark))) Z (xe (aw_cond (tm Z) (fun hb403 => ?_) (fun hb403 => ?_)))))
  ·replace h := ite_f (ndec_t hb403) h
   refine xr (xz (.i 0) Z (xz (.i 0) Z (xz (.i 5) Z (xe (aw_ret ?_)))))
   cases h
   exact rt ⟨Z, Z⟩ Z w0
  ·replace h := ite_t (ndec_f hb403) h
   refine aw_skip (xr (xz (.i 1) Z (xe ?_)))
   obtain ⟨s402, s402e, h295⟩ := bind_some h
   refine aw_join (σ := Int) (ν := Unit) (fun u v => [(0, .str s_), (11, .i u)]) (fun u v => []) (fun u => s402 = .inl u) ?_ ?_
   ·intro s294
    intro _
    rintro rfl
    have h := onSum_inl h295
    refine xr (xy Z (xy Z ?_))
    obtain ⟨c387, h⟩ := need_of h
    refine xa (.str (sub s_ 1 s294)) Z (pu_strSliceM Z underlying9 (tm Z) ⟨_, (AEv.int _ _)⟩ ⟨_, (tm Z)⟩ c387) ?_
    obtain ⟨r388, r388e, h⟩ := bind_some h
    refine xk (mewsref01.Parse.ok r388e) call139 Z ?_
    rintro _ _ ⟨rfl, rfl⟩
    refine xy Z (xz (.i r388.1) Z (xz (.bool r388.2) Z (xy Z (xy Z (xe (xr (xy Z (xy Z ?_))))))))
    obtain ⟨c389, h⟩ := need_of h
    refine xa (.str (sub s_ s294 (s_.length : Int))) Z (pu_strSliceM Z underlying9 (tm Z) ⟨_, (tm Z)⟩ Z c389) (xy Z (xe (aw_seq (aw_block (xr (xy Z (xa (.bool (decide ((sub s_ s294 (s_.length : Int)) = ([] : List UInt8)))) Z (pu_str (v := .bool (decide ((sub s_ s294 (s_.length : Int)) = ([] : List UInt8)))) Z Z (tm Z) (AEv.const Z) Z) (xy Z ?_))))))))
    refine xe (cd h (tm Z) (fun _ h => ?_) (fun _ h => ?_))
    ·refine xr (xz (.i 0) Z (xz (.i 0) Z (xz (.i (-1)) Z (xe (aw_ret ?_)))))
     cases h
     exact rt ⟨Z, Z⟩ Z w0
    ·obtain ⟨s392, s392e, h393⟩ := bind_some h
     refine aw_meet (ν := Unit) (fun v => [(11, .i s294), (14, .i r388.1), (16, .str (sub s_ s294 (s_.length : Int))), (77, .bool s392)]) (fun v => []) ?_ ?_
     ·have h := s392e
      refine aw_region (xy Z (xz (.bool (decide (s294 = 1))) Z (xy Z ?_)))
      rcases Bool.eq_false_or_eq_true (decide (s294 = 1)) with hb395 | hb395
      ·replace h := ite_t (dec_t hb395) h
       refine aops_known 80 Z hb395 (xu Z (xu Z (xu Z (xz (.bool true) Z (xy Z (xe ?_))))))
       cases h
       exact ⟨(), wi [] Z⟩
      ·replace h := ite_f (dec_f hb395) h
       refine aops_known 80 Z hb395 (xq Z Z Z Z ?_)
       obtain ⟨c396, h⟩ := need_of h
       refine xp (.int .u8 (bix (sub s_ s294 (s_.length : Int)) 0)) Z Z (pu_strIdxM Z underlying9 (tm Z) (AEv.int _ _) c396) (xp (.bool (!decide ((bix (sub s_ s294 (s_.length : Int)) 0) = 13))) Z Z (pe Z) (xz (.bool (!decide ((bix (sub s_ s294 (s_.length : Int)) 0) = 13))) Z (xy Z (xe ?_))))
       cases h
       exact ⟨(), wi [] Z⟩
     ·intro _
      have h := h393
      refine aw_cond (b := s392) (tm Z) (fun hb400 => ?_) (fun hb400 => ?_)
      ·replace h := ite_t hb400 h
       refine xr (xz (.i 0) Z (xz (.i 0) Z (xz (.i 5) Z (xe (aw_ret ?_)))))
       cases h
       exact rt ⟨Z, Z⟩ Z w0
      ·replace h := ite_fb hb400 h
       refine xr (xy Z (xa (.i ((sub s_ s294 (s_.length : Int)).length : Int)) Z (pu_strLen Z underlying9 (tm Z)) (xz (.bool (decide (((sub s_ s294 (s_.length : Int)).length : Int) = 1))) Z (xy Z (xe (cd h (tm Z) (fun _ h => ?_) (fun _ h => ?_)))))))
       ·refine xr (xz (.i 0) Z (xz (.i 0) Z (xz (.i (-1)) Z (xe (aw_ret ?_)))))
        cases h
        exact rt ⟨Z, Z⟩ Z w0
       ·refine xr (xy Z ?_)
        obtain ⟨c397, h⟩ := need_of h
        refine xa (.int .u8 (bix (sub s_ s294 (s_.length : Int)) 1)) Z (pu_strIdxM Z underlying9 (tm Z) (AEv.int _ _) c397) (xz (.bool (!decide ((bix (sub s_ s294 (s_.length : Int)) 1) = 10))) Z (xy Z (xe (aw_cond (tm Z) (fun hb398 => ?_) (fun hb398 => ?_)))))
        ·replace h := ite_f (ndec_t hb398) h
         refine xr (xz (.i 0) Z (xz (.i 0) Z (xz (.i 5) Z (xe (aw_ret ?_)))))
         cases h
         exact rt ⟨Z, Z⟩ Z w0
        ·replace h := ite_t (ndec_f hb398) h
         refine aw_skip (xr (xy Z (xy Z (xz (.i (IntKind.wrap .i64 (s294 + 2))) Z (xy Z (xy Z (xz (.i 0) Z (xe ?_))))))))
         refine aw_ret ?_
         cases h
         exact rt ⟨Z, Z⟩ Z w0
   ·have h := s402e
    refine aw_block (aw_while (σ := mewsref05.first.S0) (ν := Unit) (mewsref05.first.body0 s_ most over) (fun s355 v => [(0, .str s_), (2, .i most), (3, .i over), (11, .i s355.digits)]) (fun s355 v => []) ⟨1⟩ () _ h (wi [] Z) ?_)
    rintro s355 _ x357 h hx356
    unfold mewsref05.first.body0 at h
    refine aw_seq ?_
    obtain ⟨s363, s363e, h364⟩ := bind_some h
    refine aw_meet (ν := Unit) (fun v => [(0, .str s_), (2, .i most), (3, .i over), (11, .i s355.digits), (38, .bool s363)]) (fun v => []) ?_ ?_
    ·have h := s363e
     refine aw_region (xy Z (xy Z (xa (.i (s_.length : Int)) Z (pu_strLen Z underlying9 (tm Z)) (xz (.bool (decide (s355.digits < (s_.length : Int)))) Z (xy Z ?_)))))
     rcases Bool.eq_false_or_eq_true (decide (s355.digits < (s_.length : Int))) with hb366 | hb366
     ·replace h := ite_t (dec_t hb366) h
      refine aops_known 27 Z hb366 (xq Z Z Z Z (xq Z Z Z Z ?_))
      obtain ⟨c367, h⟩ := need_of h
      refine xp (.int .u8 (bix s_ s355.digits)) Z Z (pu_strIdxM Z underlying9 (tm Z) (tm Z) c367) (xp (.bool (decide (48 ≤ (bix s_ s355.digits)))) Z Z (pe Z) (xz (.bool (decide (48 ≤ (bix s_ s355.digits)))) Z (xy Z ?_)))
      rcases Bool.eq_false_or_eq_true (decide (48 ≤ (bix s_ s355.digits))) with hb368 | hb368
      ·replace h := ite_t (dec_t hb368) h
       refine aops_known 33 Z hb368 (xq Z Z Z Z (xq Z Z Z Z ?_))
       obtain ⟨c369, h⟩ := need_of h
       refine xp (.int .u8 (bix s_ s355.digits)) Z Z (pu_strIdxM Z underlying9 (tm Z) (tm Z) c369) (xp (.bool (decide ((bix s_ s355.digits) ≤ 57))) Z Z (pe Z) (xz (.bool (decide ((bix s_ s355.digits) ≤ 57))) Z (xe ?_)))
       cases h
       exact ⟨(), wl [] Z trivial ⟨tm Z, tm Z, tm Z, tm Z, (AEv.le (tm Z) vr), trivial⟩⟩
      ·replace h := ite_f (dec_f hb368) h
       refine aops_known 33 Z hb368 (xu Z (xu Z (xu Z (xu Z (xz (.bool false) Z (xe ?_))))))
       cases h
       exact ⟨(), wi [] Z⟩
     ·replace h := ite_f (dec_f hb366) h
      refine aops_known 27 Z hb366 (xu Z (xu Z (xu Z (xu Z (xz (.bool false) Z (xy Z (xu Z (xu Z (xu Z ?_)))))))))
      refine xu Z (xz (.bool false) Z (xe ?_))
      cases h
      exact ⟨(), wi [] Z⟩
    ·intro _
     have h := h364
     refine aw_cond (b := s363) (tm Z) (fun hb386 => ?_) (fun hb386 => ?_)
     ·replace h := ite_t hb386 h
      refine aw_skip (aw_block (xr (xy Z (xy Z (xz (.i (IntKind.wrap .i64 (s355.digits + 1))) Z ?_)))))
      obtain ⟨c370, h⟩ := need_of h
      refine xa (.str (sub s_ 1 (IntKind.wrap .i64 (s355.digits + 1)))) Z (pu_strSliceM Z underlying9 (tm Z) ⟨_, (AEv.int _ _)⟩ ⟨_, (tm Z)⟩ c370) ?_
      obtain ⟨r371, r371e, h⟩ := bind_some h
      refine xk (mewsref01.Parse.ok r371e) call139 Z ?_
      rintro _ _ ⟨rfl, rfl⟩
      refine xy Z (xz (.i r371.1) Z (xz (.bool r371.2) Z (xy Z (xy Z (xe (aw_seq ?_))))))
      obtain ⟨s374, s374e, h375⟩ := bind_some h
      refine aw_meet (ν := Unit) (fun v => [(0, .str s_), (2, .i most), (3, .i over), (11, .i s355.digits), (12, .i r371.1), (13, .bool r371.2), (53, .bool s374)]) (fun v => []) ?_ ?_
      ·have h := s374e
       refine aw_region (xy Z (xz (.bool (!r371.2)) Z (xy Z ?_)))
       rcases Bool.eq_false_or_eq_true (!r371.2) with hb377 | hb377
       ·replace h := ite_t hb377 h
        refine aops_known 49 Z hb377 (xq Z Z Z Z ?_)
        obtain ⟨c378, h⟩ := need_of h
        refine xp (.int .u8 (bix s_ 1)) Z Z (pu_strIdxM Z underlying9 (tm Z) (AEv.int _ _) c378) (xp (.bool (decide ((bix s_ 1) = 48))) Z Z (pe Z) (xz (.bool (decide ((bix s_ 1) = 48))) Z (xe ?_)))
        cases h
        exact ⟨(), wl [] Z trivial ⟨tm Z, tm Z, tm Z, tm Z, tm Z, tm Z, (AEv.le (tm Z) vr), trivial⟩⟩
       ·replace h := ite_fb hb377 h
        refine aops_known 49 Z hb377 (xu Z (xu Z (xu Z (xz (.bool false) Z (xe ?_)))))
        cases h
        exact ⟨(), wi [] Z⟩
      ·intro _
       have h := h375
       refine aw_cond (b := s374) (tm Z) (fun hb385 => ?_) (fun hb385 => ?_)
       ·replace h := ite_t hb385 h
        refine xr (xz (.i 0) Z (xz (.i 0) Z (xz (.i 5) Z (xe (aw_ret ?_)))))
        cases h
        have h := congrArg some (hx356 _ rfl)
        cases h
        have h := onSum_inr h295
        cases h
        exact rt ⟨Z, Z⟩ Z w0
       ·replace h := ite_fb hb385 h
        refine aw_skip (aw_seq ?_)
        obtain ⟨s380, s380e, h381⟩ := letO_of h
        refine aw_meet (ν := Unit) (fun v => [(0, .str s_), (2, .i most), (3, .i over), (11, .i s355.digits), (60, .bool s380)]) (fun v => []) ?_ ?_
        ·have h := s380e.symm
         refine aw_region (xy Z (xz (.bool (!r371.2)) Z (xy Z ?_)))
         rcases Bool.eq_false_or_eq_true (!r371.2) with hb383 | hb383
         ·replace h := ite_t hb383 h
          refine aops_known 56 Z hb383 (xu Z (xu Z (xu Z (xz (.bool true) Z (xe ?_)))))
          subst h
          exact ⟨(), wi [] Z⟩
         ·replace h := ite_fb hb383 h
          refine aops_known 56 Z hb383 (xq Z Z Z Z (xq Z Z Z Z (xp (.bool (decide (most < r371.1))) Z Z (pe Z) (xz (.bool (decide (most < r371.1))) Z (xe ?_)))))
          subst h
          exact ⟨(), wl [] Z trivial ⟨tm Z, tm Z, tm Z, tm Z, (AEv.le (tm Z) vr), trivial⟩⟩
        ·intro _
         have h := h381
         refine aw_cond (b := s380) (tm Z) (fun hb384 => ?_) (fun hb384 => ?_)
         ·replace h := ite_t hb384 h
          refine xr (xy Z (xz (.i 0) Z (xz (.i 0) Z (xy Z (xe (aw_ret ?_))))))
          cases h
          have h := congrArg some (hx356 _ rfl)
          cases h
          have h := onSum_inr h295
          cases h
          exact rt ⟨Z, Z⟩ Z w0
         ·replace h := ite_fb hb384 h
          refine aw_skip (aw_region (xy Z (xz (.i (IntKind.wrap .i64 (s355.digits + 1))) Z (xy Z (xe ?_)))))
          cases h
          exact ⟨_, (), Z, wl [] Z trivial ⟨tm Z, tm Z, tm Z, (AEv.le (tm Z) vr), trivial⟩⟩
     ·replace h := ite_fb hb386 h
      refine aw_exit ?_
      cases h
      have h := congrArg some (hx356 _ rfl)
      exact ⟨s355.digits, (), (some_of h).symm, wi [] Z⟩

theorem mewsref05.ends.ok {s_ : List UInt8} {r : Int} (h : mewsref05.ends s_ = some r) : Go.Lift.Spec prog 125 [.str s_] [] (fun v H => v = .i r ∧ H = []) := by
 unfold mewsref05.ends at h
 refine Go.Lift.Spec.of_body (rs := [.tmp 2]) func125 Z Z (nb Z) Z (xr (xz (.i 0) Z (xe (xr (xa (.str [13, 10]) Z (pu_assign Z (AEv.const Z)) (xe ?_))))))
 obtain ⟨s92, s92e, h69⟩ := bind_some h
 refine aw_join (σ := Unit) (ν := Unit) (fun u v => []) (fun u v => []) (fun u => s92 = .inl u) ?_ ?_
 ·intro s68
  intro _
  rintro rfl
  have h := onSum_inl h69
  refine xr (xz (.i 0) Z (xe (aw_ret ?_)))
  cases h
  exact rt ⟨Z, Z⟩ Z w0
 ·have h := s92e
  refine xr (xz (.i 0) Z (xe (aw_block (aw_while (σ := mewsref05.ends.S0) (ν := Unit) (mewsref05.ends.body0 s_) (fun s83 v => [(0, .str s_), (3, .str [13, 10]), (4, .i s83.i)]) (fun s83 v => []) ⟨0⟩ () _ h (wi [] Z) ?_))))
  rintro s83 _ x85 h hx84
  unfold mewsref05.ends.body0 at h
  refine aw_seq (xr (xy Z (xz (.bool (decide (s83.i < 2))) Z (xe (cd h (tm Z) (fun _ h => ?_) (fun _ h => ?_))))))
  ·refine aw_skip (aw_seq (aw_block (aw_seq (xr (xy Z (xa (.i (s_.length : Int)) Z (pu_strLen Z underlying9 (tm Z)) (xy Z (xz (.bool (decide ((s_.length : Int) ≤ s83.i))) Z ?_))))))))
   refine xe (cd h (tm Z) (fun _ h => ?_) (fun _ h => ?_))
   ·refine xr (xz (.i (-1)) Z (xe (aw_ret ?_)))
    cases h
    have h := congrArg some (hx84 _ rfl)
    cases h
    have h := onSum_inr h69
    cases h
    exact rt ⟨Z, Z⟩ Z w0
   ·refine aw_skip (aw_seq ?_)
    obtain ⟨c87, h⟩ := need_of h
    obtain ⟨c88, h⟩ := need_of h
    refine aw_planR (by decide +kernel) [[], [], [], [], [], [], []] [] [] [.str s_, .i s83.i, .int .u8 (bix s_ s83.i), .str [13, 10], .i s83.i, .int .u8 (bix [13, 10] s83.i), .bool (!decide ((bix s_ s83.i) = (bix [13, 10] s83.i)))] (by decide +kernel) Z Z ?_ ?_
    ·exact ⟨ym Z Z Z, ym Z Z Z, yp Z (pu_strIdxM Z underlying9 (tm Z) (tm Z) c87), ym Z Z Z, ym Z Z Z, yp Z (pu_strIdxM Z underlying9 (tm Z) (tm Z) c88), yp Z (pe Z), trivial⟩
    refine aw_cond (b := (!decide ((bix s_ s83.i) = (bix [13, 10] s83.i)))) (tm Z) (fun hb89 => ?_) (fun hb89 => ?_)
    ·replace h := ite_f (ndec_t hb89) h
     refine xr (xz (.i 5) Z (xe (aw_ret ?_)))
     cases h
     have h := congrArg some (hx84 _ rfl)
     cases h
     have h := onSum_inr h69
     cases h
     exact rt ⟨Z, Z⟩ Z w0
    ·replace h := ite_t (ndec_f hb89) h
     refine aw_skip (aw_region (xy Z (xz (.i (IntKind.wrap .i64 (s83.i + 1))) Z (xy Z (xe ?_)))))
     cases h
     exact ⟨_, (), Z, wl [] Z trivial ⟨tm Z, tm Z, (AEv.le (tm Z) vr), trivial⟩⟩
  ·refine aw_exit ?_
   cases h
   have h := congrArg some (hx84 _ rfl)
   exact ⟨(), (), (some_of h).symm, w0⟩

theorem mewsref05.many.ok {s_ : List UInt8} {l : api.Limits} {r : api.Input × Int} (h : mewsref05.many s_ l = some r) : Go.Lift.Spec prog 102 [.str s_, .agg [.i l.Args, .i l.Bulk, .i l.Line]] [] (fun v H => v = .tup [.agg [.str r.1.Rest, .sl .no 1 (r.1.Args.map AV.str), .i r.1.Left, .i r.1.Size, .bool r.1.Body, .i r.1.Need, .i r.1.Dead], .i r.2] ∧ H = []) := by
 unfold mewsref05.many at h
 refine Go.Lift.Spec.of_body (rs := [.cell 4 144, .tmp 5]) func102 Z Z (nb Z) Z (xr (xc Z (op_box (cs := [.i l.Args, .i l.Bulk, .i l.Line]) (v := .agg [.i l.Args, .i l.Bulk, .i l.Line]) Z (tm Z) Z Z ?_)))
 intro p161
 refine xc Z (op_alloc (cs := [.str ([] : List UInt8), .sl .full 1 (([] : List (List UInt8)).map AV.str), .i 0, .i 0, .bool false, .i 0, .i 0]) (v := .agg [.str ([] : List UInt8), .sl .full 1 (([] : List (List UInt8)).map AV.str), .i 0, .i 0, .bool false, .i 0, .i 0]) Z zeroValue144 Z Z Z ?_)
 intro p162
 refine xz (.i 0) Z (xe (xr (xy Z (xa (.ptr p161 0) Z (fa Z underlying149 Z sizeOf3 Z Z Z) (xl 1 isAgg3 Z ?_)))))
 obtain ⟨r163, r163e, h⟩ := bind_some h
 refine xk (mewsref05.first.ok r163e) call124 Z ?_
 rintro _ _ ⟨rfl, rfl⟩
 refine xy Z (xz (.i r163.1) Z (xz (.i r163.2.1) Z (xz (.i r163.2.2) Z (xy Z (xy Z (xy Z (xe (aw_seq (aw_seq ?_)))))))))
 refine aw_region (xy Z (xz (.bool (!decide (r163.2.2 = 0))) Z (xe (aw_cond (tm Z) (fun hb320 => ?_) (fun hb320 => ?_)))))
 ·replace h := ite_f (ndec_t hb320) h
  refine xr (xy Z (xa (.agg [.str s_, .sl .full 1 (([] : List (List UInt8)).map AV.str), .i 0, .i 0, .bool false, .i 0, .i 0]) Z (pu_build (zs := [.str ([] : List UInt8), .sl .full 1 (([] : List (List UInt8)).map AV.str), .i 0, .i 0, .bool false, .i 0, .i 0]) (szs := [1, 1, 1, 1, 1, 1, 1]) (aparts := [(0, .str s_)]) (cs := [.str s_, .sl .full 1 (([] : List (List UInt8)).map AV.str), .i 0, .i 0, .bool false, .i 0, .i 0]) Z underlying144 zeroValue144 Z ⟨sizeOf9, sizeOf65, sizeOf3, sizeOf3, sizeOf4, sizeOf3, sizeOf29, trivial⟩ ⟨Z, (tm Z), trivial⟩ Z) (xy Z (xs 0 [.str s_, .sl .full 1 (([] : List (List UInt8)).map AV.str), .i 0, .i 0, .bool false, .i 0, .i 0] sizeOf144 Z (xy Z (xe (aw_ret ?_)))))))
  cases h
  exact rq [.agg [.str s_, .sl .full 1 (([] : List (List UInt8)).map AV.str), .i 0, .i 0, .bool false, .i 0, .i 0], .i r163.2.2] ⟨Z, Z⟩ (AV.Le.tup ⟨(AV.Le.agg ⟨vr, (AV.Le.forget _ _ _), vr, vr, vr, vr, vr, trivial⟩), vr, trivial⟩) ⟨(CellOk.agg 0 (tm Z) Z isAgg144 sizeOf144 (nb Z) Z), (tm Z), trivial⟩ w0
 ·replace h := ite_t (ndec_f hb320) h
  refine aw_skip (xr (xy Z (xy Z (xa (.agg [.str ([] : List UInt8), .sl .full 1 (([] : List (List UInt8)).map AV.str), .i r163.1, .i r163.2.1, .bool false, .i 0, .i 0]) Z (pu_build (zs := [.str ([] : List UInt8), .sl .full 1 (([] : List (List UInt8)).map AV.str), .i 0, .i 0, .bool false, .i 0, .i 0]) (szs := [1, 1, 1, 1, 1, 1, 1]) (aparts := [(2, .i r163.1), (3, .i r163.2.1)]) (cs := [.str ([] : List UInt8), .sl .full 1 (([] : List (List UInt8)).map AV.str), .i r163.1, .i r163.2.1, .bool false, .i 0, .i 0]) Z underlying144 zeroValue144 Z ⟨sizeOf9, sizeOf65, sizeOf3, sizeOf3, sizeOf4, sizeOf3, sizeOf29, trivial⟩ ⟨Z, (tm Z), ⟨Z, (tm Z), trivial⟩⟩ Z) (xc Z (op_alloc (cs := [.str ([] : List UInt8), .sl .full 1 (([] : List (List UInt8)).map AV.str), .i 0, .i 0, .bool false, .i 0, .i 0]) (v := .agg [.str ([] : List UInt8), .sl .full 1 (([] : List (List UInt8)).map AV.str), .i 0, .i 0, .bool false, .i 0, .i 0]) Z zeroValue144 Z Z Z ?_))))))
  intro p164
  refine xs 0 [.str ([] : List UInt8), .sl .full 1 (([] : List (List UInt8)).map AV.str), .i r163.1, .i r163.2.1, .bool false, .i 0, .i 0] sizeOf144 Z (xe ?_)
  obtain ⟨s319, s319e, h242⟩ := bind_some h
  refine aw_join (σ := (List (List UInt8)) × Int × Int) (ν := Nat) (fun u v => [(4, .ptr p162 0), (9, .ptr p164 0)]) (fun u v => [(p162, .cells [.str ([] : List UInt8), .sl .full 1 (([] : List (List UInt8)).map AV.str), .i 0, .i 0, .bool false, .i 0, .i 0]), (p164, .cells [.str ([] : List UInt8), .sl (.own v) 1 (u.1.map AV.str), .i u.2.1, .i u.2.2, .bool false, .i 0, .i 0]), (v, .spare)]) (fun u => s319 = .inl u) ?_ ?_
  ·intro s240
   intro n241
   rintro rfl
   have h := onSum_inl h242
   refine xr (xL 1 isAgg144 sizeOf144 Z (xs 0 [.str ([] : List UInt8), .sl (.own n241) 1 (s240.1.map AV.str), .i s240.2.1, .i s240.2.2, .bool false, .i 0, .i 0] sizeOf144 Z (xz (.i 0) Z (xe (aw_ret ?_)))))
   cases h
   exact rq [.agg [.str ([] : List UInt8), .sl (.own n241) 1 (s240.1.map AV.str), .i s240.2.1, .i s240.2.2, .bool false, .i 0, .i 0], .i 0] ⟨Z, Z⟩ (AV.Le.tup ⟨(AV.Le.agg ⟨vr, (AV.Le.forget _ _ _), vr, vr, vr, vr, vr, trivial⟩), vr, trivial⟩) ⟨(CellOk.agg 0 (tm Z) Z isAgg144 sizeOf144 (nb Z) Z), (tm Z), trivial⟩ w0
  ·have h := s319e
   refine aw_block (aw_claimCell 0 1 Z Z fun t318 => (aw_while (σ := mewsref05.many.S0) (ν := Nat) (mewsref05.many.body0 s_ l) (fun s291 v => [(0, .str s_), (3, .ptr p161 0), (4, .ptr p162 0), (9, .ptr p164 0)]) (fun s291 v => [(p161, .cells [.i l.Args, .i l.Bulk, .i l.Line]), (p162, .cells [.str ([] : List UInt8), .sl .full 1 (([] : List (List UInt8)).map AV.str), .i 0, .i 0, .bool false, .i 0, .i 0]), (p164, .cells [.str ([] : List UInt8), .sl (.own v) 1 (s291.c.map AV.str), .i s291.c2, .i s291.c3, .bool false, .i 0, .i 0]), (v, .spare)]) ⟨([] : List (List UInt8)), r163.1, r163.2.1⟩ t318 _ h (wi [3, 2, 1, 0] Z) ?_))
   rintro s291 n292 x294 h hx293
   unfold mewsref05.many.body0 at h
   refine aw_seq (xr (xa (.ptr p164 2) Z (fa Z underlying144 Z sizeOf3 Z Z Z) (xl 2 isAgg3 Z (xz (.bool (decide (0 < s291.c2))) Z (xe (cd h (tm Z) (fun _ h => ?_) (fun _ h => ?_)))))))
   ·refine aw_skip (aw_block (aw_seq ?_))
    obtain ⟨c296, h⟩ := need_of h
    obtain ⟨r297, r297e, h⟩ := bind_some h
    refine aw_planR (by decide +kernel) [[], [], [(2, 0, false)], [], [], [(0, 0, false)], [], [], [], [], [], [], [], []] [[], [], [], []] [[[(p161, .cells [.i l.Args, .i l.Bulk, .i l.Line])]], [[(p162, .cells [.str ([] : List UInt8), .sl .full 1 (([] : List (List UInt8)).map AV.str), .i 0, .i 0, .bool false, .i 0, .i 0])]], [[(p164, .cells [.str ([] : List UInt8), .sl (.own n292) 1 (s291.c.map AV.str), .i s291.c2, .i s291.c3, .bool false, .i 0, .i 0])]], [[(n292, .spare)]]] [.str s_, .ptr p164 3, .i s291.c3, .str (sub s_ s291.c3 (s_.length : Int)), .ptr p161 1, .i l.Bulk, .tup [.i r297.1, .i r297.2.1, .i r297.2.2], .tup [.i r297.1, .i r297.2.1, .i r297.2.2], .i r297.1, .i r297.2.1, .i r297.2.2, .i r297.1, .i r297.2.1, .i r297.2.2] (by decide +kernel) Z Z ?_ ?_
    ·exact ⟨ym Z Z Z, yp Z (fa Z underlying144 Z sizeOf3 Z Z Z), stepg_plain Z (op_load1 (i := 0) Z isAgg3 (tm Z) Z Z ⟨Z, Z⟩), yp Z (pu_strSliceM Z underlying9 (tm Z) ⟨_, (tm Z)⟩ Z c296), yp Z (fa Z underlying149 Z sizeOf3 Z Z Z), stepg_plain Z (op_load1 (i := 0) Z isAgg3 (tm Z) Z Z ⟨Z, Z⟩), stepg_plain Z (op_call (vs := [.str (sub s_ s291.c3 (s_.length : Int)), .int .u8 36, .i l.Bulk, .i 6]) (H := []) Z call124 ⟨(tm Z), (AEv.int _ _), (tm Z), (AEv.int _ _), trivial⟩ (R := []) (List.Perm.refl _) (mewsref05.first.ok r297e) (by rintro _ _ ⟨rfl, rfl⟩; exact ⟨Z, Z⟩)), ym Z Z Z, yp Z (pe Z), yp Z (pe Z), yp Z (pe Z), ym Z Z Z, ym Z Z Z, ym Z Z Z, trivial⟩
    refine aw_seq (xr (xy Z (xz (.bool (!decide (r297.2.2 = 0))) Z (xe (aw_cond (tm Z) (fun hb316 => ?_) (fun hb316 => ?_))))))
    ·replace h := ite_f (ndec_t hb316) h
     refine xr (xy Z (xa (.ptr p164 3) Z (fa Z underlying144 Z sizeOf3 Z Z Z) (xl 2 isAgg3 Z ?_)))
     obtain ⟨c298, h⟩ := need_of h
     refine xa (.str (sub s_ s291.c3 (s_.length : Int))) Z (pu_strSliceM Z underlying9 (tm Z) ⟨_, (tm Z)⟩ Z c298) (xa (.ptr p164 0) Z (fa Z underlying144 Z sizeOf9 Z Z Z) (xs 2 [.str (sub s_ s291.c3 (s_.length : Int)), .sl (.own n292) 1 (s291.c.map AV.str), .i s291.c2, .i s291.c3, .bool false, .i 0, .i 0] sizeOf9 Z (xe (xr (xL 2 isAgg144 sizeOf144 Z (xy Z (xs 1 [.str (sub s_ s291.c3 (s_.length : Int)), .sl (.own n292) 1 (s291.c.map AV.str), .i s291.c2, .i s291.c3, .bool false, .i 0, .i 0] sizeOf144 Z (xy Z ?_))))))))
     refine xe (aw_ret ?_)
     cases h
     have h := congrArg some (hx293 _ rfl)
     cases h
     have h := onSum_inr h242
     cases h
     exact rq [.agg [.str (sub s_ s291.c3 (s_.length : Int)), .sl (.own n292) 1 (s291.c.map AV.str), .i s291.c2, .i s291.c3, .bool false, .i 0, .i 0], .i r297.2.2] ⟨Z, Z⟩ (AV.Le.tup ⟨(AV.Le.agg ⟨vr, (AV.Le.forget _ _ _), vr, vr, vr, vr, vr, trivial⟩), vr, trivial⟩) ⟨(CellOk.agg 1 (tm Z) Z isAgg144 sizeOf144 (nb Z) Z), (tm Z), trivial⟩ w0
    ·replace h := ite_t (ndec_f hb316) h
     refine aw_skip (xr (xa (.ptr p164 3) Z (fa Z underlying144 Z sizeOf3 Z Z Z) (xl 2 isAgg3 Z (xy Z (xz (.i (IntKind.wrap .i64 (s291.c3 + r297.2.1))) Z (xa (.ptr p164 3) Z (fa Z underlying144 Z sizeOf3 Z Z Z) (xs 2 [.str ([] : List UInt8), .sl (.own n292) 1 (s291.c.map AV.str), .i s291.c2, .i (IntKind.wrap .i64 (s291.c3 + r297.2.1)), .bool false, .i 0, .i 0] sizeOf3 Z (xe ?_))))))))
     refine xr (xy Z (xa (.ptr p164 3) Z (fa Z underlying144 Z sizeOf3 Z Z Z) (xl 2 isAgg3 Z ?_)))
     obtain ⟨c299, h⟩ := need_of h
     refine xa (.str (sub s_ (IntKind.wrap .i64 (s291.c3 + r297.2.1)) (s_.length : Int))) Z (pu_strSliceM Z underlying9 (tm Z) ⟨_, (tm Z)⟩ Z c299) (xy Z (xe (xr (xz (.i (-1)) Z (xe ?_)))))
     obtain ⟨s304, s304e, h305⟩ := bind_some h
     refine aw_meet (ν := Unit) (fun v => [(0, .str s_), (3, .ptr p161 0), (4, .ptr p162 0), (9, .ptr p164 0), (10, .i r297.1), (13, .str (sub s_ (IntKind.wrap .i64 (s291.c3 + r297.2.1)) (s_.length : Int))), (14, .i s304)]) (fun v => [(p161, .cells [.i l.Args, .i l.Bulk, .i l.Line]), (p162, .cells [.str ([] : List UInt8), .sl .full 1 (([] : List (List UInt8)).map AV.str), .i 0, .i 0, .bool false, .i 0, .i 0]), (p164, .cells [.str ([] : List UInt8), .sl (.own n292) 1 (s291.c.map AV.str), .i s291.c2, .i (IntKind.wrap .i64 (s291.c3 + r297.2.1)), .bool false, .i 0, .i 0]), (n292, .spare)]) ?_ ?_
     ·have h := s304e
      refine xr (xy Z (xa (.i ((sub s_ (IntKind.wrap .i64 (s291.c3 + r297.2.1)) (s_.length : Int)).length : Int)) Z (pu_strLen Z underlying9 (tm Z)) (xy Z (xz (.bool (decide (r297.1 ≤ ((sub s_ (IntKind.wrap .i64 (s291.c3 + r297.2.1)) (s_.length : Int)).length : Int)))) Z (xe (cd h (tm Z) (fun _ h => ?_) (fun _ h => ?_)))))))
      ·refine aw_region (xy Z (xy Z ?_))
       obtain ⟨c307, h⟩ := need_of h
       obtain ⟨x308, x308e, h⟩ := letO_of h
       refine xa (.str x308) Z (APure.eq (pu_strSliceM Z underlying9 (tm Z) ⟨_, (tm Z)⟩ Z c307) (congrArg (AV.str) x308e.symm)) ?_
       obtain ⟨r309, r309e, h⟩ := bind_some h
       refine xk (mewsref05.ends.ok r309e) call125 Z ?_
       rintro _ _ ⟨rfl, rfl⟩
       refine xy Z (xe ?_)
       cases h
       exact ⟨(), wi [0, 1, 2, 3] Z⟩
      ·refine aw_skip ?_
       cases h
       exact ⟨(), wi [0, 1, 2, 3] Z⟩
     ·intro _
      have h := h305
      refine aw_seq (xr (xy Z (xz (.bool (!decide (s304 = 0))) Z (xe (aw_cond (tm Z) (fun hb315 => ?_) (fun hb315 => ?_))))))
      ·replace h := ite_f (ndec_t hb315) h
       refine xr (xa (.ptr p164 4) Z (fa Z underlying144 Z sizeOf4 Z Z Z) (xs 2 [.str ([] : List UInt8), .sl (.own n292) 1 (s291.c.map AV.str), .i s291.c2, .i (IntKind.wrap .i64 (s291.c3 + r297.2.1)), .bool true, .i 0, .i 0] sizeOf4 Z (xe (xr (xy Z (xa (.ptr p164 5) Z (fa Z underlying144 Z sizeOf3 Z Z Z) (xs 2 [.str ([] : List UInt8), .sl (.own n292) 1 (s291.c.map AV.str), .i s291.c2, .i (IntKind.wrap .i64 (s291.c3 + r297.2.1)), .bool true, .i r297.1, .i 0] sizeOf3 Z ?_)))))))
       refine xe (xr (xy Z (xa (.ptr p164 0) Z (fa Z underlying144 Z sizeOf9 Z Z Z) (xs 2 [.str (sub s_ (IntKind.wrap .i64 (s291.c3 + r297.2.1)) (s_.length : Int)), .sl (.own n292) 1 (s291.c.map AV.str), .i s291.c2, .i (IntKind.wrap .i64 (s291.c3 + r297.2.1)), .bool true, .i r297.1, .i 0] sizeOf9 Z (xe (xr (xL 2 isAgg144 sizeOf144 Z ?_)))))))
       refine xy Z (xs 1 [.str (sub s_ (IntKind.wrap .i64 (s291.c3 + r297.2.1)) (s_.length : Int)), .sl (.own n292) 1 (s291.c.map AV.str), .i s291.c2, .i (IntKind.wrap .i64 (s291.c3 + r297.2.1)), .bool true, .i r297.1, .i 0] sizeOf144 Z (xy Z (xe (aw_ret ?_))))
       cases h
       have h := congrArg some (hx293 _ rfl)
       cases h
       have h := onSum_inr h242
       cases h
       exact rq [.agg [.str (sub s_ (IntKind.wrap .i64 (s291.c3 + r297.2.1)) (s_.length : Int)), .sl (.own n292) 1 (s291.c.map AV.str), .i s291.c2, .i (IntKind.wrap .i64 (s291.c3 + r297.2.1)), .bool true, .i r297.1, .i 0], .i s304] ⟨Z, Z⟩ (AV.Le.tup ⟨(AV.Le.agg ⟨vr, (AV.Le.forget _ _ _), vr, vr, vr, vr, vr, trivial⟩), vr, trivial⟩) ⟨(CellOk.agg 1 (tm Z) Z isAgg144 sizeOf144 (nb Z) Z), (tm Z), trivial⟩ w0
      ·replace h := ite_t (ndec_f hb315) h
       refine aw_skip (aw_seq ?_)
       obtain ⟨c311, h⟩ := need_of h
       obtain ⟨x312, x312e, h⟩ := letO_of h
       obtain ⟨c313, h⟩ := need_of h
       refine aw_reserve fun p314 => (aw_planR (by decide +kernel) [[], [(3, 0, false)], [], [], [], [], [(4, 0, true), (0, 0, true)], [], [(3, 0, true)]] [[6], [], [], [8], [6]] [[[(p314, .resv)], [(p314, .spare)]], [[(p161, .cells [.i l.Args, .i l.Bulk, .i l.Line])]], [[(p162, .cells [.str ([] : List UInt8), .sl .full 1 (([] : List (List UInt8)).map AV.str), .i 0, .i 0, .bool false, .i 0, .i 0])]], [[(p164, .cells [.str ([] : List UInt8), .sl (.own n292) 1 (s291.c.map AV.str), .i s291.c2, .i (IntKind.wrap .i64 (s291.c3 + r297.2.1)), .bool false, .i 0, .i 0])], [(p164, .cells [.str ([] : List UInt8), .sl (.own p314) 1 ((s291.c ++ [x312]).map AV.str), .i s291.c2, .i (IntKind.wrap .i64 (s291.c3 + r297.2.1)), .bool false, .i 0, .i 0])]], [[(n292, .spare)], []]] [.ptr p164 1, .sl (.own n292) 1 (s291.c.map AV.str), .str (sub s_ (IntKind.wrap .i64 (s291.c3 + r297.2.1)) (s_.length : Int)), .i r297.1, .str x312, .sl .full 1 ([x312].map AV.str), .sl (.own p314) 1 ((s291.c ++ [x312]).map AV.str), .ptr p164 1, .un] (by decide +kernel) Z Z ?_ ?_)
       ·exact ⟨yp Z (fa Z underlying144 Z sizeOf65 Z Z Z), stepg_plain Z (op_load1 (i := 0) Z isAgg65 (tm Z) Z Z ⟨Z, Z⟩), ym Z Z Z, ym Z Z Z, yp Z (APure.eq (pu_strSliceM Z underlying9 (tm Z) Z ⟨_, (tm Z)⟩ c311) (congrArg (AV.str) x312e.symm)), stepg_plain Z (op_buildSlice (xs := ([x312] : List (List UInt8)).map AV.str) (aparts := [(0, .str x312)]) Z underlying65 sizeOf9 zeroValue9 (by decide) (by decide) ⟨Z, (tm Z), trivial⟩ Z Z Z ⟨Z, Z⟩), stepg_plain Z (aop_settleS (op_appendOM (q := 0) Z underlying65 underlying65 (.inl Z) typeInfo9 Z Z Z (by decide) (tm Z) Z (given_sl (tm Z)) c313 fun t => ⟨t, Z, Z⟩) ⟨Z, Z⟩), yp Z (fa Z underlying144 Z sizeOf65 Z Z Z), stepg_plain Z (op_store (i := 0) (cs' := [.str ([] : List UInt8), .sl (.own p314) 1 ((s291.c ++ [x312]).map AV.str), .i s291.c2, .i (IntKind.wrap .i64 (s291.c3 + r297.2.1)), .bool false, .i 0, .i 0]) Z sizeOf65 (tm Z) (v := .sl (.own p314) 1 ((s291.c ++ [x312]).map AV.str)) (tm Z) Z Z Z (nb Z) Z ⟨Z, Z⟩), trivial⟩
       refine xr (xa (.ptr p164 2) Z (fa Z underlying144 Z sizeOf3 Z Z Z) (xl 3 isAgg3 Z (xz (.i (IntKind.wrap .i64 (s291.c2 - 1))) Z (xa (.ptr p164 2) Z (fa Z underlying144 Z sizeOf3 Z Z Z) (xs 3 [.str ([] : List UInt8), .sl (.own p314) 1 ((s291.c ++ [x312]).map AV.str), .i (IntKind.wrap .i64 (s291.c2 - 1)), .i (IntKind.wrap .i64 (s291.c3 + r297.2.1)), .bool false, .i 0, .i 0] sizeOf3 Z (xe (aw_region (xa (.ptr p164 3) Z (fa Z underlying144 Z sizeOf3 Z Z Z) ?_))))))))
       refine xl 3 isAgg3 Z (xy Z (xz (.i (IntKind.wrap .i64 (r297.1 + 2))) Z (xz (.i (IntKind.wrap .i64 ((IntKind.wrap .i64 (s291.c3 + r297.2.1)) + (IntKind.wrap .i64 (r297.1 + 2))))) Z (xa (.ptr p164 3) Z (fa Z underlying144 Z sizeOf3 Z Z Z) (xs 3 [.str ([] : List UInt8), .sl (.own p314) 1 ((s291.c ++ [x312]).map AV.str), .i (IntKind.wrap .i64 (s291.c2 - 1)), .i (IntKind.wrap .i64 ((IntKind.wrap .i64 (s291.c3 + r297.2.1)) + (IntKind.wrap .i64 (r297.1 + 2)))), .bool false, .i 0, .i 0] sizeOf3 Z (xe ?_))))))
       cases h
       exact ⟨_, p314, Z, wl [1, 2, 3, 0] Z ⟨⟨_, Z, cr, Z⟩, ⟨_, Z, cr, Z⟩, ⟨_, Z, ⟨vr, vr, vr, vr, vr, vr, vr, trivial⟩, Z⟩, ⟨_, Z, Z⟩, trivial⟩ ⟨tm Z, tm Z, tm Z, tm Z, trivial⟩⟩
   ·refine aw_exit ?_
    cases h
    have h := congrArg some (hx293 _ rfl)
    exact ⟨(s291.c, s291.c2, s291.c3), n292, (some_of h).symm, wi [1, 2, 3] Z⟩

theorem mewsref04.digit.ok {c_ : Int} {r : Int} (h : mewsref04.digit c_ = some r) : Go.Lift.Spec prog 140 [.int .u8 c_] [] (fun v H => v = .i r ∧ H = []) := by
 unfold mewsref04.digit at h
 refine Go.Lift.Spec.of_body (rs := [.tmp 2]) func140 Z Z (nb Z) Z (xr (xz (.i 0) Z (xe (xr (xa (.str [48, 49, 50, 51, 52, 53, 54, 55, 56, 57, 97, 98, 99, 100, 101, 102]) Z (pu_assign Z (AEv.const Z)) (xa (.str [48, 49, 50, 51, 52, 53, 54, 55, 56, 57, 65, 66, 67, 68, 69, 70]) Z (pu_assign Z (AEv.const Z)) (xe ?_)))))))
 obtain ⟨s164, s164e, h123⟩ := bind_some h
 refine aw_join (σ := Unit) (ν := Unit) (fun u v => []) (fun u v => []) (fun u => s164 = .inl u) ?_ ?_
 ·intro s122
  intro _
  rintro rfl
  have h := onSum_inl h123
  refine xr (xz (.i 16) Z (xe (aw_ret ?_)))
  cases h
  exact rt ⟨Z, Z⟩ Z w0
 ·have h := s164e
  refine xr (xz (.i 0) Z (xe (aw_block (aw_while (σ := mewsref04.digit.S0) (ν := Unit) (mewsref04.digit.body0 c_) (fun s149 v => [(0, .int .u8 c_), (3, .str [48, 49, 50, 51, 52, 53, 54, 55, 56, 57, 97, 98, 99, 100, 101, 102]), (4, .str [48, 49, 50, 51, 52, 53, 54, 55, 56, 57, 65, 66, 67, 68, 69, 70]), (5, .i s149.i)]) (fun s149 v => []) ⟨0⟩ () _ h (wi [] Z) ?_))))
  rintro s149 _ x151 h hx150
  unfold mewsref04.digit.body0 at h
  refine aw_seq (xr (xy Z (xz (.bool (decide (s149.i < 16))) Z (xe (cd h (tm Z) (fun _ h => ?_) (fun _ h => ?_))))))
  ·refine aw_skip (aw_seq (aw_block ?_))
   obtain ⟨s156, s156e, h157⟩ := bind_some h
   refine aw_meet (ν := Unit) (fun v => [(0, .int .u8 c_), (3, .str [48, 49, 50, 51, 52, 53, 54, 55, 56, 57, 97, 98, 99, 100, 101, 102]), (4, .str [48, 49, 50, 51, 52, 53, 54, 55, 56, 57, 65, 66, 67, 68, 69, 70]), (5, .i s149.i), (21, .bool s156)]) (fun v => []) ?_ ?_
   ·have h := s156e
    refine aw_region (xy Z (xy Z ?_))
    obtain ⟨c159, h⟩ := need_of h
    refine xa (.int .u8 (bix [48, 49, 50, 51, 52, 53, 54, 55, 56, 57, 97, 98, 99, 100, 101, 102] s149.i)) Z (pu_strIdxM Z underlying9 (tm Z) (tm Z) c159) (xy Z (xz (.bool (decide ((bix [48, 49, 50, 51, 52, 53, 54, 55, 56, 57, 97, 98, 99, 100, 101, 102] s149.i) = c_))) Z (xy Z ?_)))
    rcases Bool.eq_false_or_eq_true (decide ((bix [48, 49, 50, 51, 52, 53, 54, 55, 56, 57, 97, 98, 99, 100, 101, 102] s149.i) = c_)) with hb160 | hb160
    ·replace h := ite_t (dec_t hb160) h
     refine aops_known 15 Z hb160 (xu Z (xu Z (xu Z (xu Z (xu Z (xz (.bool true) Z (xe ?_)))))))
     cases h
     exact ⟨(), wi [] Z⟩
    ·replace h := ite_f (dec_f hb160) h
     refine aops_known 15 Z hb160 (xq Z Z Z Z (xq Z Z Z Z ?_))
     obtain ⟨c161, h⟩ := need_of h
     refine xp (.int .u8 (bix [48, 49, 50, 51, 52, 53, 54, 55, 56, 57, 65, 66, 67, 68, 69, 70] s149.i)) Z Z (pu_strIdxM Z underlying9 (tm Z) (tm Z) c161) (xq Z Z Z Z (xp (.bool (decide ((bix [48, 49, 50, 51, 52, 53, 54, 55, 56, 57, 65, 66, 67, 68, 69, 70] s149.i) = c_))) Z Z (pe Z) (xz (.bool (decide ((bix [48, 49, 50, 51, 52, 53, 54, 55, 56, 57, 65, 66, 67, 68, 69, 70] s149.i) = c_))) Z (xe ?_))))
     cases h
     exact ⟨(), wl [] Z trivial ⟨tm Z, tm Z, tm Z, tm Z, (AEv.le (tm Z) vr), trivial⟩⟩
   ·intro _
    have h := h157
    refine aw_cond (b := s156) (tm Z) (fun hb162 => ?_) (fun hb162 => ?_)
    ·replace h := ite_t hb162 h
     refine xr (xy Z (xy Z (xe (aw_ret ?_))))
     cases h
     have h := congrArg some (hx150 _ rfl)
     cases h
     have h := onSum_inr h123
     cases h
     exact rt ⟨Z, Z⟩ Z w0
    ·replace h := ite_fb hb162 h
     refine aw_skip (aw_region (xy Z (xz (.i (IntKind.wrap .i64 (s149.i + 1))) Z (xy Z (xe ?_)))))
     cases h
     exact ⟨_, (), Z, wl [] Z trivial ⟨tm Z, tm Z, tm Z, (AEv.le (tm Z) vr), trivial⟩⟩
  ·refine aw_exit ?_
   cases h
   have h := congrArg some (hx150 _ rfl)
   exact ⟨(), (), (some_of h).symm, w0⟩

theorem mewsref04.turned.ok {c_ : Int} {r : Int} (h : mewsref04.turned c_ = some r) : Go.Lift.Spec prog 141 [.int .u8 c_] [] (fun v H => v = .int .u8 r ∧ H = []) := by
 unfold mewsref04.turned at h
 refine Go.Lift.Spec.of_body (rs := [.tmp 2]) func141 Z Z (nb Z) Z (xr (xz (.int .u8 0) Z (xe (xr (xa (.str [110, 114, 116, 98, 97]) Z (pu_assign Z (AEv.const Z)) (xa (.str [10, 13, 9, 8, 7]) Z (pu_assign Z (AEv.const Z)) (xe ?_)))))))
 obtain ⟨s80, s80e, h60⟩ := bind_some h
 refine aw_join (σ := Unit) (ν := Unit) (fun u v => [(0, .int .u8 c_)]) (fun u v => []) (fun u => s80 = .inl u) ?_ ?_
 ·intro s59
  intro _
  rintro rfl
  have h := onSum_inl h60
  refine xr (xy Z (xy Z (xe (aw_ret ?_))))
  cases h
  exact rt ⟨Z, Z⟩ Z w0
 ·have h := s80e
  refine xr (xz (.i 0) Z (xe (aw_block (aw_while (σ := mewsref04.turned.S0) (ν := Unit) (mewsref04.turned.body0 c_) (fun s72 v => [(0, .int .u8 c_), (3, .str [110, 114, 116, 98, 97]), (4, .str [10, 13, 9, 8, 7]), (5, .i s72.i)]) (fun s72 v => []) ⟨0⟩ () _ h (wi [] Z) ?_))))
  rintro s72 _ x74 h hx73
  unfold mewsref04.turned.body0 at h
  refine aw_seq (xr (xy Z (xy Z (xa (.i ([110, 114, 116, 98, 97].length : Int)) Z (pu_strLen Z underlying9 (tm Z)) (xz (.bool (decide (s72.i < ([110, 114, 116, 98, 97].length : Int)))) Z (xe (cd h (tm Z) (fun _ h => ?_) (fun _ h => ?_))))))))
  ·refine aw_skip (aw_seq (aw_block (xr (xy Z (xy Z ?_)))))
   obtain ⟨c76, h⟩ := need_of h
   refine xa (.int .u8 (bix [110, 114, 116, 98, 97] s72.i)) Z (pu_strIdxM Z underlying9 (tm Z) (tm Z) c76) (xy Z (xz (.bool (decide ((bix [110, 114, 116, 98, 97] s72.i) = c_))) Z (xe (cd h (tm Z) (fun _ h => ?_) (fun _ h => ?_)))))
   ·refine xr (xy Z (xy Z ?_))
    obtain ⟨c77, h⟩ := need_of h
    refine xa (.int .u8 (bix [10, 13, 9, 8, 7] s72.i)) Z (pu_strIdxM Z underlying9 (tm Z) (tm Z) c77) (xy Z (xe (aw_ret ?_)))
    cases h
    have h := congrArg some (hx73 _ rfl)
    cases h
    have h := onSum_inr h60
    cases h
    exact rt ⟨Z, Z⟩ Z w0
   ·refine aw_skip (aw_region (xy Z (xz (.i (IntKind.wrap .i64 (s72.i + 1))) Z (xy Z (xe ?_)))))
    cases h
    exact ⟨_, (), Z, wl [] Z trivial ⟨tm Z, tm Z, tm Z, (AEv.le (tm Z) vr), trivial⟩⟩
  ·refine aw_exit ?_
   cases h
   have h := congrArg some (hx73 _ rfl)
   exact ⟨(), (), (some_of h).symm, wi [] Z⟩

end Go.Pu
