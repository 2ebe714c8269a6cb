/- Printed by lift.py: the functions come to them. -/
import Derived.Test.YtakmcdnailmhlaaGreatLiftWS
import Derived.Test.YtakmcdnailmhlaaGreatPSP
import Derived.Test.YtakmcdnailmhlaaGreatProg
import Derived.Lib.Strings
import Derived.Lib.Walk
import Derived.Lib.BufferWrite
import Derived.Lib.UnsafeStr
import Derived.Laws.MakeOwn
import Derived.WalkKit
import Derived.Test.YtakmcdnailmhlaaGreatLiftZW
import Derived.Test.YtakmcdnailmhlaaGreatLiftZV
import Derived.Shelf.SlIterI.Nil
import Derived.Shelf.SortM.Plain
import Derived.Shelf.SortM.SortNone
import Derived.Test.YtakmcdnailmhlaaGreatShelf
set_option maxRecDepth 100000
set_option maxHeartbeats 0
namespace Go.Pu
open Go.Lift Go.Proofs.Tryz Go.RowKit Go.Proofs

abbrev e0L : List AV := (([] : List api.Left).map api.Left.av)
abbrev e1L : List AV := (([] : List api.Tenant).map api.Tenant.av)
abbrev e2L : List AV := (([] : List (List UInt8)).map AV.str)
abbrev e3L : List AV := (([] : List UInt8).map byteAV)
abbrev e4L : List AV := (([] : List api.Request).map api.Request.av)
abbrev e5L : List AV := (([] : List api.Label).map api.Label.av)
abbrev e6L : List AV := (([] : List api.Event).map api.Event.av)
abbrev m0L := List.map api.Tenant.av
abbrev m1L := List.map api.Event.av
abbrev m2L := List.map api.Left.av
abbrev m3L := List.map AV.str
abbrev m4L := List.map api.Request.av
abbrev m5L := List.map byteAV
abbrev m6L := List.map api.Label.av

theorem mapsKeys17.ok (o : Nat) : Sp prog 17 [.map o] [] (fun v H => ∃ p, v = .fn 32 [.ptr p 0] ∧ H = [(p, .cells [.map o])]) :=
 spec_mapsKeys (T := 42) (fun mb w => (callsIn_wide (n := 5)).1 (AnyZI.keys_in Tryz.keys17 Fence.wide 5 trivial rfl mb w)) o

theorem sorts16 (m : Nat) : AnyZI.SortsIn prog Tryz.sorted16_ren Fence.wide m :=
 ⟨fun blk off cap ss W hH hblk hsz => callsIn_wide.2 (AnyM.slices_Sort_int Tryz.sort31 blk off cap ss W hH hblk hsz), fun p cap W => callsIn_wide.2 (AnyM.slices_Sort_int_none Tryz.sort31 p cap W)⟩

theorem sortedKeys16.ok {l : List (Int × Int)} (hl : l.length * 8 ≤ 140737488355328) (p o : Nat) : Sp prog 16 [.fn 32 [.ptr p 0]] [(p, .cells [.map o]), (o, .abs (mapAbs prog 3 (mpE mkI (AV.int .i64) l)))]
  (fun v H => v = .sl .no 1 (((l.map Prod.fst).mergeSort fun x y => decide (x ≤ y)).map (AV.int .i64)) ∧ H = [(p, .cells [.map o]), (o, .abs (mapAbs prog 3 (mpE mkI (AV.int .i64) l)))]) :=
 spec_sortedKeys (T := 3) (fun B b es w hc hB hown hb => (callsIn_wide (n := 5)).1 (by
  have hs : Maps.size (DataW.map (es.map rawE)) = es.length := by rw [Maps.size_eq, List.length_map]
  have hseq : SeqGives Fence.wide 2 prog 32 #[.pointer (some ⟨B, 0, Option.none⟩)] encZ (fun ss => ss.Perm (intKeys (DataW.map (es.map rawE)))) (Maps.size (DataW.map (es.map rawE))) w :=
   AnyZI.keys_gives (ρ := Tryz.keys17_ren) { Tryz.keys17 with } Fence.wide _ trivial rfl (by omega) B b es.length _ w hB hc hown
  exact AnyZI.sorted_in Tryz.sorted16 Fence.wide 5 trivial trivial trivial trivial Z (by omega) (sorts16 _) (enters_of func31 (by kernel_rfl) Z) 32 _ trivial (enters_of func32 (by kernel_rfl) Z) _ _ (by rw [hs]; unfold maxLen; omega) (by rw [hs]; exact hb) w hseq)) hl p o

theorem mewslaw46.Far.ok {c_ l r} (h : mewslaw46.Far c_ l = some r) : Sp prog 4 [.agg [.sl .no 14 (m0L c_.Tenants), .i c_.Quantum, .i c_.Deadline], .sl .no 9 (m1L l)] [] (fun v H => v = .bool r ∧ H = []) := by
 unfold mewslaw46.Far at h
 refine sb [.tmp 4] func4 Z (xr (xb [.sl .no 14 (m0L c_.Tenants), .i c_.Quantum, .i c_.Deadline] Z fun p85 => xz (.bool false) Z (xe (xr (xz (.i 0) Z (xe ?_))))))
 obtain ⟨s168, s168e, h123⟩ := bind_some h
 refine aw_join (σ := Unit) (ν := Unit) (fun u v => [(1, .sl .no 9 (m1L l)), (2, .ptr p85 0)]) (fun u v => [(p85, .cells [.sl .no 14 (m0L c_.Tenants), .i c_.Quantum, .i c_.Deadline])]) (fun u => s168 = .inl u) ?_ ?_
 intro s122
 intro _
 rintro rfl
 have h := onSum_inl h123
 obtain ⟨s163, s163e, h164⟩ := letO_of h
 refine aw_meet (ν := Unit) (fun v => [(4, .bool s163)]) (fun v => []) ?_ ?_
 have h := s163e.symm
 refine aw_region (xy Z (xa (.i (l.length : Int)) Z (pu_lenM Z underlying25 (tm Z)) (xz (bd (120 < (l.length : Int))) Z (xy Z ?_))))
 rcases Bool.eq_false_or_eq_true (decide (120 < (l.length : Int))) with hb166 | hb166
 replace h := ite_t (dec_t hb166) h
 refine aops_known 38 Z hb166 (xu Z (xu Z (xu Z (xu Z (xz (.bool true) Z (xy Z (xu Z (xu Z (xu Z ?_)))))))))
 refine xz (.bool true) Z (xy Z (xe ?_))
 subst h
 exact ⟨(), wi [] Z⟩
 replace h := ite_f (dec_f hb166) h
 refine aops_known 38 Z hb166 (xp (.ptr p85 0) Z Z (fa Z underlying24 Z sizeOf22 Z Z Z) (xg Z Z (op_load1 (i := 0) Z isAgg22 (tm Z) Z Z (xp (.i (c_.Tenants.length : Int)) Z Z (pu_lenM Z underlying22 (tm Z)) (xp (bd (4 < (c_.Tenants.length : Int))) Z Z (pe Z) (xz (bd (4 < (c_.Tenants.length : Int))) Z (xy Z ?_)))))))
 rcases Bool.eq_false_or_eq_true (decide (4 < (c_.Tenants.length : Int))) with hb167 | hb167
 replace h := ite_t (dec_t hb167) h
 refine aops_known 44 Z hb167 (xu Z (xu Z (xu Z (xz (.bool true) Z (xy Z (xe ?_))))))
 subst h
 exact ⟨(), wi [] Z⟩
 replace h := ite_f (dec_f hb167) h
 refine aops_known 44 Z hb167 (xp (.ptr p85 1) Z Z (fa Z underlying24 Z sizeOf3 Z Z Z) (xg Z Z (op_load1 (i := 0) Z isAgg3 (tm Z) Z Z (xp (bd (50 < c_.Quantum)) Z Z (pe Z) (xz (bd (50 < c_.Quantum)) Z (xy Z (xe ?_)))))))
 subst h
 exact ⟨(), wi [] Z⟩
 intro _
 have h := h164
 refine aw_ret ?_
 cases h
 exact rt ⟨Z, Z⟩ Z w0
 have h := s168e
 refine xr (xy Z (xa (.i (l.length : Int)) Z (pu_lenM Z underlying25 (tm Z)) (xz (.i 0) Z (xe (aw_block (aw_while (σ := mewslaw46.Far.S0) (ν := Unit) (mewslaw46.Far.body0 l) (fun s147 v => [(1, .sl .no 9 (m1L l)), (2, .ptr p85 0), (5, .i s147.n), (8, .sl .no 9 (m1L l)), (9, .i (l.length : Int)), (10, .i s147.t10)]) (fun s147 v => [(p85, .cells [.sl .no 14 (m0L c_.Tenants), .i c_.Quantum, .i c_.Deadline])]) ⟨0, 0⟩ () _ h (wi [0] Z) ?_))))))
 rintro s147 _ x149 h hx148
 unfold mewslaw46.Far.body0 at h
 refine xr (xz (bd (s147.t10 < (l.length : Int))) Z (xe (aw_seq (cd h Z (fun _ h => ?_) (fun _ h => ?_)))))
 refine aw_skip (aw_seq (aw_block (aw_seq (aw_region ?_))))
 obtain ⟨c151, h⟩ := need_of h
 refine xa (.vptr [.i (ix l s147.t10).Kind, .i (ix l s147.t10).Handle, .str (ix l s147.t10).S, .i (ix l s147.t10).N, .i (ix l s147.t10).Tenant, .str (ix l s147.t10).Fault.Name, .i (ix l s147.t10).Fault.Kind, .i (ix l s147.t10).Fault.Short, .sl .no 3 (m2L (ix l s147.t10).Lefts)]) Z (pu_indexAddrM Z underlying25 sizeOf40 (tm Z) (tm Z) c151 Z) (xc Z (op_loadVN Z isAgg40 sizeOf40 (tm Z) (nb Z) Z (xA (.agg [.i 0, .i 0, .str nS, .i 0, .i 0, .str nS, .i 0, .i 0, .sl .full 3 e0L]) zeroValue40 Z fun p152 => xs 0 (api.Event.ct .no (ix l s147.t10)) sizeOf40 Z (xe (xr (xy Z (xf (.ptr p152 2) underlying40 sizeOf9 Z (xl 0 isAgg9 Z (xa (.i ((ix l s147.t10).S.length : Int)) Z (pu_strLen Z underlying9 (tm Z)) (xa (.i (if 10000 < ((ix l s147.t10).S.length : Int) then 10000 else ((ix l s147.t10).S.length : Int))) Z (pu_min2 Z (tm Z) (AEv.int _ _)) (xz (.i (w64 (1 + (if 10000 < ((ix l s147.t10).S.length : Int) then 10000 else ((ix l s147.t10).S.length : Int))))) Z ?_)))))))))))
 refine xf (.ptr p152 8) underlying40 sizeOf38 Z (xl 0 isAgg38 Z (xa (.i ((ix l s147.t10).Lefts.length : Int)) Z (pu_lenM Z underlying38 (tm Z)) (xz (.i (w64 ((w64 (1 + (if 10000 < ((ix l s147.t10).S.length : Int) then 10000 else ((ix l s147.t10).S.length : Int)))) + ((ix l s147.t10).Lefts.length : Int)))) Z ?_)))
 obtain ⟨x153, x153e, h⟩ := letO_of h
 refine xa (.i x153) Z (APure.eq (pe Z) (congrArg (AV.int .i64) x153e.symm)) (xy Z (xe ?_))
 obtain ⟨s155, s155e, h156⟩ := letO_of h
 refine aw_meet (ν := Unit) (fun v => [(1, .sl .no 9 (m1L l)), (2, .ptr p85 0), (5, .i x153), (8, .sl .no 9 (m1L l)), (9, .i (l.length : Int)), (10, .i s147.t10), (33, .bool s155)]) (fun v => [(p85, .cells [.sl .no 14 (m0L c_.Tenants), .i c_.Quantum, .i c_.Deadline])]) ?_ ?_
 have h := s155e.symm
 refine aw_region (xy Z (xz (bd (1500 < x153)) Z (xy Z ?_)))
 rcases Bool.eq_false_or_eq_true (decide (1500 < x153)) with hb158 | hb158
 replace h := ite_t (dec_t hb158) h
 refine aops_known 27 Z hb158 (xu Z (xu Z (xu Z (xu Z (xu Z (xz (.bool true) Z (xe ?_)))))))
 subst h
 exact ⟨(), wi [1] Z⟩
 replace h := ite_f (dec_f hb158) h
 refine aops_known 27 Z hb158 (xp (.ptr p152 5) Z Z (fa Z underlying40 Z sizeOf37 Z Z Z) (xp (.ptr p152 5) Z Z (fa Z underlying37 Z sizeOf9 Z Z Z) (xg Z Z (op_load1 (i := 0) Z isAgg9 (tm Z) Z Z (xp (.i ((ix l s147.t10).Fault.Name.length : Int)) Z Z (pu_strLen Z underlying9 (tm Z)) (xp (bd (300 < ((ix l s147.t10).Fault.Name.length : Int))) Z Z (pe Z) (xz (bd (300 < ((ix l s147.t10).Fault.Name.length : Int))) Z (xe ?_))))))))
 subst h
 exact ⟨(), wi [1] Z⟩
 intro _
 have h := h156
 refine aw_cond (b := s155) (tm Z) (fun hb159 => ?_) (fun hb159 => ?_)
 replace h := ite_t hb159 h
 refine xr (xz (.bool true) Z (xe (aw_ret ?_)))
 cases h
 cases congrArg some (hx148 _ rfl)
 cases onSum_inr h123
 exact rt ⟨Z, Z⟩ Z w0
 replace h := ite_fb hb159 h
 refine aw_skip (aw_region (xz (.i (w64 (s147.t10 + 1))) Z (xy Z (xe ?_))))
 cases h
 exact ⟨_, (), Z, wi [0] Z⟩
 refine aw_exit ?_
 cases h
 have h := congrArg some (hx148 _ rfl)
 exact ⟨(), (), (some_of h).symm, wi [0] Z⟩

theorem mewslaw46.Some.ok  {r : api.Config} (h : mewslaw46.Some = some r) : Sp prog 14 [] [] (fun v H => v = .agg [.sl .full 14 (m0L r.Tenants), .i r.Quantum, .i r.Deadline] ∧ H = []) := by
 unfold mewslaw46.Some at h
 refine sb [.cell 0 24] func14 Z (xr (xA (.agg [.sl .full 14 e1L, .i 0, .i 0]) zeroValue24 Z fun p4 => xe (xr (xa (.agg [.i 9, .i 99, .i 99]) Z (pu_build (zs := [.i 0, .i 0, .i 0]) (szs := [1, 1, 1]) (aparts := [(0, .i 9), (1, .i 99), (2, .i 99)]) (cs := [.i 9, .i 99, .i 99]) Z underlying66 zeroValue66 Z ⟨sizeOf3, sizeOf3, sizeOf3, trivial⟩ ⟨Z, (AEv.int _ _), ⟨Z, (AEv.int _ _), ⟨Z, (AEv.int _ _), trivial⟩⟩⟩ Z) (xa (.agg [.str [97], .str [115], .i 5000, .i 0, .i 3, .i 1000, .i 1000, .i 50, .i 1, .i 5000, .i 1, .i 9, .i 99, .i 99]) Z (pu_build (zs := [.str nS, .str nS, .i 0, .i 0, .i 0, .i 0, .i 0, .i 0, .i 0, .i 0, .i 0, .i 0, .i 0, .i 0]) (szs := [1, 1, 1, 1, 1, 1, 1, 1, 1, 1, 1, 3]) (aparts := [(0, .str [97]), (1, .str [115]), (2, .i 5000), (4, .i 3), (5, .i 1000), (6, .i 1000), (7, .i 50), (8, .i 1), (9, .i 5000), (10, .i 1), (11, .agg [.i 9, .i 99, .i 99])]) (cs := [.str [97], .str [115], .i 5000, .i 0, .i 3, .i 1000, .i 1000, .i 50, .i 1, .i 5000, .i 1, .i 9, .i 99, .i 99]) Z underlying68 zeroValue68 Z ⟨sizeOf9, sizeOf9, sizeOf3, sizeOf3, sizeOf3, sizeOf3, sizeOf3, sizeOf3, sizeOf3, sizeOf3, sizeOf3, sizeOf66, trivial⟩ ⟨Z, (AEv.const Z), ⟨Z, (AEv.const Z), ⟨Z, (AEv.int _ _), ⟨Z, (AEv.int _ _), ⟨Z, (AEv.int _ _), ⟨Z, (AEv.int _ _), ⟨Z, (AEv.int _ _), ⟨Z, (AEv.int _ _), ⟨Z, (AEv.int _ _), ⟨Z, (AEv.int _ _), ⟨Z, (tm Z), trivial⟩⟩⟩⟩⟩⟩⟩⟩⟩⟩⟩ Z) (xA (.agg [.str nS, .str nS, .i 0, .i 0, .i 0, .i 0, .i 0, .i 0, .i 0, .i 0, .i 0, .i 0, .i 0, .i 0]) zeroValue68 Z fun p5 => xs 0 [.str [97], .str [115], .i 5000, .i 0, .i 3, .i 1000, .i 1000, .i 50, .i 1, .i 5000, .i 1, .i 9, .i 99, .i 99] sizeOf68 Z (xe (xr (xL 0 isAgg68 sizeOf68 Z (xA (.agg [.str nS, .str nS, .i 0, .i 0, .i 0, .i 0, .i 0, .i 0, .i 0, .i 0, .i 0, .i 0, .i 0, .i 0]) zeroValue68 Z fun p6 => xs 0 [.str [97], .str [115], .i 5000, .i 0, .i 3, .i 1000, .i 1000, .i 50, .i 1, .i 5000, .i 1, .i 9, .i 99, .i 99] sizeOf68 Z (xe (xr (xf (.ptr p6 0) underlying68 sizeOf9 Z (ac0 Z Z (op_store (i := 0) (cs' := [.str [98], .str [115], .i 5000, .i 0, .i 3, .i 1000, .i 1000, .i 50, .i 1, .i 5000, .i 1, .i 9, .i 99, .i 99]) Z sizeOf9 (tm Z) (v := .str [98]) (AEv.const Z) Z Z Z (nb Z) Z (xe (xr (xf (.ptr p6 1) underlying68 sizeOf9 Z ?_))))))))))))))))))
 refine ac0 Z Z (op_store (i := 0) (cs' := [.str [98], .str [116], .i 5000, .i 0, .i 3, .i 1000, .i 1000, .i 50, .i 1, .i 5000, .i 1, .i 9, .i 99, .i 99]) Z sizeOf9 (tm Z) (v := .str [116]) (AEv.const Z) Z Z Z (nb Z) Z (xe (xr (xf (.ptr p6 10) underlying68 sizeOf3 Z (xs 0 [.str [98], .str [116], .i 5000, .i 0, .i 3, .i 1000, .i 1000, .i 50, .i 1, .i 5000, .i 3, .i 9, .i 99, .i 99] sizeOf3 Z (xe (xr (xL 1 isAgg68 sizeOf68 Z ?_))))))))
 refine xL 0 isAgg68 sizeOf68 Z (xc Z (op_buildSlice (xs := ([({ Name := [97], Token := [115], Memory := 5000, Policy := 0, Conns := 3, In := 1000, Out := 1000, Burst := 50, Rate := 1, Disk := 5000, Sync := 1, Limits := ({ Args := 9, Bulk := 99, Line := 99 } : api.Limits) } : api.Tenant), ({ Name := [98], Token := [116], Memory := 5000, Policy := 0, Conns := 3, In := 1000, Out := 1000, Burst := 50, Rate := 1, Disk := 5000, Sync := 3, Limits := ({ Args := 9, Bulk := 99, Line := 99 } : api.Limits) } : api.Tenant)] : List api.Tenant).map api.Tenant.av) (aparts := [(0, .agg [.str [97], .str [115], .i 5000, .i 0, .i 3, .i 1000, .i 1000, .i 50, .i 1, .i 5000, .i 1, .i 9, .i 99, .i 99]), (1, .agg [.str [98], .str [116], .i 5000, .i 0, .i 3, .i 1000, .i 1000, .i 50, .i 1, .i 5000, .i 3, .i 9, .i 99, .i 99])]) Z underlying22 sizeOf68 zeroValue68 (by decide) (by decide) ⟨Z, (tm Z), ⟨Z, (tm Z), trivial⟩⟩ Z Z Z (xa (.agg [.sl .full 14 ([({ Name := [97], Token := [115], Memory := 5000, Policy := 0, Conns := 3, In := 1000, Out := 1000, Burst := 50, Rate := 1, Disk := 5000, Sync := 1, Limits := ({ Args := 9, Bulk := 99, Line := 99 } : api.Limits) } : api.Tenant), ({ Name := [98], Token := [116], Memory := 5000, Policy := 0, Conns := 3, In := 1000, Out := 1000, Burst := 50, Rate := 1, Disk := 5000, Sync := 3, Limits := ({ Args := 9, Bulk := 99, Line := 99 } : api.Limits) } : api.Tenant)].map api.Tenant.av), .i 2, .i 100]) Z (pu_build (zs := [.sl .full 14 e1L, .i 0, .i 0]) (szs := [1, 1, 1]) (aparts := [(0, .sl .full 14 ([({ Name := [97], Token := [115], Memory := 5000, Policy := 0, Conns := 3, In := 1000, Out := 1000, Burst := 50, Rate := 1, Disk := 5000, Sync := 1, Limits := ({ Args := 9, Bulk := 99, Line := 99 } : api.Limits) } : api.Tenant), ({ Name := [98], Token := [116], Memory := 5000, Policy := 0, Conns := 3, In := 1000, Out := 1000, Burst := 50, Rate := 1, Disk := 5000, Sync := 3, Limits := ({ Args := 9, Bulk := 99, Line := 99 } : api.Limits) } : api.Tenant)].map api.Tenant.av)), (1, .i 2), (2, .i 100)]) (cs := [.sl .full 14 ([({ Name := [97], Token := [115], Memory := 5000, Policy := 0, Conns := 3, In := 1000, Out := 1000, Burst := 50, Rate := 1, Disk := 5000, Sync := 1, Limits := ({ Args := 9, Bulk := 99, Line := 99 } : api.Limits) } : api.Tenant), ({ Name := [98], Token := [116], Memory := 5000, Policy := 0, Conns := 3, In := 1000, Out := 1000, Burst := 50, Rate := 1, Disk := 5000, Sync := 3, Limits := ({ Args := 9, Bulk := 99, Line := 99 } : api.Limits) } : api.Tenant)].map api.Tenant.av), .i 2, .i 100]) Z underlying24 zeroValue24 Z ⟨sizeOf22, sizeOf3, sizeOf2, trivial⟩ ⟨Z, (tm Z), ⟨Z, (AEv.int _ _), ⟨Z, (AEv.int _ _), trivial⟩⟩⟩ Z) (xs 2 [.sl .full 14 ([({ Name := [97], Token := [115], Memory := 5000, Policy := 0, Conns := 3, In := 1000, Out := 1000, Burst := 50, Rate := 1, Disk := 5000, Sync := 1, Limits := ({ Args := 9, Bulk := 99, Line := 99 } : api.Limits) } : api.Tenant), ({ Name := [98], Token := [116], Memory := 5000, Policy := 0, Conns := 3, In := 1000, Out := 1000, Burst := 50, Rate := 1, Disk := 5000, Sync := 3, Limits := ({ Args := 9, Bulk := 99, Line := 99 } : api.Limits) } : api.Tenant)].map api.Tenant.av), .i 2, .i 100] sizeOf24 Z (xe (aw_ret ?_))))))
 cases h
 exact rq [.agg [.sl .full 14 ([({ Name := [97], Token := [115], Memory := 5000, Policy := 0, Conns := 3, In := 1000, Out := 1000, Burst := 50, Rate := 1, Disk := 5000, Sync := 1, Limits := ({ Args := 9, Bulk := 99, Line := 99 } : api.Limits) } : api.Tenant), ({ Name := [98], Token := [116], Memory := 5000, Policy := 0, Conns := 3, In := 1000, Out := 1000, Burst := 50, Rate := 1, Disk := 5000, Sync := 3, Limits := ({ Args := 9, Bulk := 99, Line := 99 } : api.Limits) } : api.Tenant)].map api.Tenant.av), .i 2, .i 100]] ⟨Z, Z⟩ vr ⟨(CellOk.agg 2 (tm Z) Z isAgg24 sizeOf24 (nb Z) Z), trivial⟩ w0

theorem script.Bytes.ok {l handle r} (h : script.Bytes l handle = some r) : Sp prog 24 [.sl .no 9 (m1L l), .i handle] [] (fun v H => v = .str r ∧ H = []) := by
 unfold script.Bytes at h
 refine sb [.tmp 4] func24 Z (xr (xa (.str nS) Z (pu_assign Z (AEv.const Z)) (xe (xr (xa (.str nS) Z (pu_assign Z (AEv.const Z)) (xz (.bool false) Z (xe ?_)))))))
 obtain ⟨s872, s872e, h654⟩ := bind_some h
 refine aw_join (σ := List UInt8) (ν := Unit) (fun u v => [(5, .str u)]) (fun u v => []) (fun u => s872 = .inl u) ?_ ?_
 intro s653
 intro _
 rintro rfl
 have h := onSum_inl h654
 refine xr (xy Z (xy Z (xe (aw_ret ?_))))
 cases h
 exact rt ⟨Z, Z⟩ Z w0
 have h := s872e
 refine xr (xy Z (xa (.i (l.length : Int)) Z (pu_lenM Z underlying25 (tm Z)) (xz (.i 0) Z (xe (aw_block (aw_while (σ := script.Bytes.S0) (ν := Unit) (script.Bytes.body0 l handle) (fun s809 v => [(1, .i handle), (5, .str s809.s), (6, .bool s809.open_), (9, .sl .no 9 (m1L l)), (10, .i (l.length : Int)), (11, .i s809.t11)]) (fun s809 v => []) ⟨nS, false, 0⟩ () _ h (wi [] Z) ?_))))))
 rintro s809 _ x811 h hx810
 unfold script.Bytes.body0 at h
 refine xr (xz (bd (s809.t11 < (l.length : Int))) Z (xe (aw_seq (cd h Z (fun _ h => ?_) (fun _ h => ?_)))))
 refine aw_skip ?_
 obtain ⟨s870, s870e, h841⟩ := bind_some h
 refine aw_join (σ := (List UInt8) × Bool) (ν := Unit) (fun u v => [(1, .i handle), (5, .str u.1), (6, .bool u.2), (9, .sl .no 9 (m1L l)), (10, .i (l.length : Int)), (11, .i s809.t11)]) (fun u v => []) (fun u => s870 = .inl u) ?_ ?_
 intro s840
 intro _
 rintro rfl
 have h := onSum_inl h841
 refine aw_region (xz (.i (w64 (s809.t11 + 1))) Z (xy Z (xe ?_)))
 cases h
 exact ⟨_, (), Z, wi [] Z⟩
 have h := s870e
 refine aw_block (aw_seq (aw_region ?_))
 obtain ⟨c843, h⟩ := need_of h
 refine xa (.vptr [.i (ix l s809.t11).Kind, .i (ix l s809.t11).Handle, .str (ix l s809.t11).S, .i (ix l s809.t11).N, .i (ix l s809.t11).Tenant, .str (ix l s809.t11).Fault.Name, .i (ix l s809.t11).Fault.Kind, .i (ix l s809.t11).Fault.Short, .sl .no 3 (m2L (ix l s809.t11).Lefts)]) Z (pu_indexAddrM Z underlying25 sizeOf40 (tm Z) (tm Z) c843 Z) (xc Z (op_loadVN Z isAgg40 sizeOf40 (tm Z) (nb Z) Z (xA (.agg [.i 0, .i 0, .str nS, .i 0, .i 0, .str nS, .i 0, .i 0, .sl .full 3 e0L]) zeroValue40 Z fun p844 => xs 0 (api.Event.ct .no (ix l s809.t11)) sizeOf40 Z (xe (aw_block ?_)))))
 obtain ⟨s848, s848e, h849⟩ := letO_of h
 refine aw_meet (ν := Unit) (fun v => [(1, .i handle), (5, .str s809.s), (6, .bool s809.open_), (8, .ptr p844 0), (9, .sl .no 9 (m1L l)), (10, .i (l.length : Int)), (11, .i s809.t11), (15, .bool s848)]) (fun v => [(p844, .cells (api.Event.ct .no (ix l s809.t11)))]) ?_ ?_
 have h := s848e.symm
 refine aw_region (xy Z (xy Z ?_))
 rcases Bool.eq_false_or_eq_true s809.open_ with hb851 | hb851
 replace h := ite_t hb851 h
 refine aops_known 17 Z hb851 (xp (.ptr p844 0) Z Z (fa Z underlying40 Z sizeOf3 Z Z Z) (xg Z Z (op_load1 (i := 0) Z isAgg3 (tm Z) Z Z (xp (bd ((ix l s809.t11).Kind = 8)) Z Z (pe Z) (xq Z Z Z Z ?_)))))
 rcases Bool.eq_false_or_eq_true (decide ((ix l s809.t11).Kind = 8)) with hb852 | hb852
 replace h := ite_t (dec_t hb852) h
 refine aops_known 21 Z hb852 (xu Z (xu Z (xu Z (xu Z (xv Z Z (xv Z Z (xv Z Z (xv Z Z (xu Z ?_)))))))))
 refine xp (.bool true) Z Z (pe Z) (xz (.bool true) Z (xy Z (xe ?_)))
 subst h
 exact ⟨(), wi [0] Z⟩
 replace h := ite_f (dec_f hb852) h
 refine aops_known 21 Z hb852 (xp (.ptr p844 0) Z Z (fa Z underlying40 Z sizeOf3 Z Z Z) (xg Z Z (op_load1 (i := 0) Z isAgg3 (tm Z) Z Z (xp (bd ((ix l s809.t11).Kind = 4)) Z Z (pe Z) (xq Z Z Z Z ?_)))))
 rcases Bool.eq_false_or_eq_true (decide ((ix l s809.t11).Kind = 4)) with hb853 | hb853
 replace h := ite_t (dec_t hb853) h
 refine aops_known 25 Z hb853 (xp (.ptr p844 1) Z Z (fa Z underlying40 Z sizeOf3 Z Z Z) (xg Z Z (op_load1 (i := 0) Z isAgg3 (tm Z) Z Z (xq Z Z Z Z (xp (bd ((ix l s809.t11).Handle = handle)) Z Z (pe Z) (xp (bd ((ix l s809.t11).Handle = handle)) Z Z (pe Z) (xp (bd ((ix l s809.t11).Handle = handle)) Z Z (pe Z) (xz (bd ((ix l s809.t11).Handle = handle)) Z (xy Z (xe ?_))))))))))
 subst h
 exact ⟨(), wi [0] Z⟩
 replace h := ite_f (dec_f hb853) h
 refine aops_known 25 Z hb853 (xu Z (xu Z (xu Z (xu Z (xp (.bool false) Z Z (pe Z) (xp (.bool false) Z Z (pe Z) (xz (.bool false) Z (xy Z (xe ?_)))))))))
 subst h
 exact ⟨(), wi [0] Z⟩
 replace h := ite_fb hb851 h
 refine aops_known 17 Z hb851 (xu Z (xu Z (xu Z (xu Z (xv Z Z (xv Z Z (xv Z Z (xv Z Z (xv Z Z ?_)))))))))
 refine xv Z Z (xv Z Z (xv Z Z (xv Z Z (xu Z (xz (.bool false) Z (xy Z (xe ?_)))))))
 subst h
 exact ⟨(), wi [0] Z⟩
 intro _
 have h := h849
 refine aw_cond (b := s848) (tm Z) (fun hb869 => ?_) (fun hb869 => ?_)
 replace h := ite_t hb869 h
 refine xr (xy Z (xy Z (xe (aw_ret ?_))))
 cases h
 cases onSum_inr h841
 cases congrArg some (hx810 _ rfl)
 cases onSum_inr h654
 exact rt ⟨Z, Z⟩ Z w0
 replace h := ite_fb hb869 h
 obtain ⟨s855, s855e, h856⟩ := letO_of h
 refine aw_meet (ν := Unit) (fun v => [(1, .i handle), (5, .str s809.s), (6, .bool s809.open_), (8, .ptr p844 0), (9, .sl .no 9 (m1L l)), (10, .i (l.length : Int)), (11, .i s809.t11), (34, .bool s855)]) (fun v => [(p844, .cells (api.Event.ct .no (ix l s809.t11)))]) ?_ ?_
 have h := s855e.symm
 refine aw_region (xf (.ptr p844 0) underlying40 sizeOf3 Z (xl 0 isAgg3 Z (xz (bd ((ix l s809.t11).Kind = 1)) Z (xy Z ?_))))
 rcases Bool.eq_false_or_eq_true (decide ((ix l s809.t11).Kind = 1)) with hb858 | hb858
 replace h := ite_t (dec_t hb858) h
 refine aops_known 38 Z hb858 (xp (.ptr p844 1) Z Z (fa Z underlying40 Z sizeOf3 Z Z Z) (xg Z Z (op_load1 (i := 0) Z isAgg3 (tm Z) Z Z (xq Z Z Z Z (xp (bd ((ix l s809.t11).Handle = handle)) Z Z (pe Z) (xz (bd ((ix l s809.t11).Handle = handle)) Z (xy Z (xe ?_))))))))
 subst h
 exact ⟨(), wi [0] Z⟩
 replace h := ite_f (dec_f hb858) h
 refine aops_known 38 Z hb858 (xu Z (xu Z (xu Z (xu Z (xz (.bool false) Z (xy Z (xe ?_)))))))
 subst h
 exact ⟨(), wi [0] Z⟩
 intro _
 have h := h856
 refine aw_cond (b := s855) (tm Z) (fun hb868 => ?_) (fun hb868 => ?_)
 replace h := ite_t hb868 h
 refine aw_region (xz (.bool true) Z (xe ?_))
 exact ⟨(s809.s, true), (), (some_of h).symm, wi [] Z⟩
 replace h := ite_fb hb868 h
 obtain ⟨s861, s861e, h862⟩ := letO_of h
 refine aw_meet (ν := Unit) (fun v => [(1, .i handle), (5, .str s809.s), (6, .bool s809.open_), (8, .ptr p844 0), (9, .sl .no 9 (m1L l)), (10, .i (l.length : Int)), (11, .i s809.t11), (44, .bool s861)]) (fun v => [(p844, .cells (api.Event.ct .no (ix l s809.t11)))]) ?_ ?_
 have h := s861e.symm
 refine aw_region (xy Z (xy Z ?_))
 rcases Bool.eq_false_or_eq_true s809.open_ with hb864 | hb864
 replace h := ite_t hb864 h
 refine aops_known 46 Z hb864 (xp (.ptr p844 0) Z Z (fa Z underlying40 Z sizeOf3 Z Z Z) (xg Z Z (op_load1 (i := 0) Z isAgg3 (tm Z) Z Z (xp (bd ((ix l s809.t11).Kind = 2)) Z Z (pe Z) (xz (bd ((ix l s809.t11).Kind = 2)) Z (xy Z ?_))))))
 rcases Bool.eq_false_or_eq_true (decide ((ix l s809.t11).Kind = 2)) with hb865 | hb865
 replace h := ite_t (dec_t hb865) h
 refine aops_known 51 Z hb865 (xp (.ptr p844 1) Z Z (fa Z underlying40 Z sizeOf3 Z Z Z) (xg Z Z (op_load1 (i := 0) Z isAgg3 (tm Z) Z Z (xq Z Z Z Z (xp (bd ((ix l s809.t11).Handle = handle)) Z Z (pe Z) (xz (bd ((ix l s809.t11).Handle = handle)) Z (xy Z (xe ?_))))))))
 subst h
 exact ⟨(), wi [0] Z⟩
 replace h := ite_f (dec_f hb865) h
 refine aops_known 51 Z hb865 (xu Z (xu Z (xu Z (xu Z (xz (.bool false) Z (xy Z (xe ?_)))))))
 subst h
 exact ⟨(), wi [0] Z⟩
 replace h := ite_fb hb864 h
 refine aops_known 46 Z hb864 (xu Z (xu Z (xu Z (xz (.bool false) Z (xy Z (xu Z (xu Z (xu Z (xu Z ?_)))))))))
 refine xz (.bool false) Z (xy Z (xe ?_))
 subst h
 exact ⟨(), wi [0] Z⟩
 intro _
 have h := h862
 refine aw_cond (b := s861) (tm Z) (fun hb867 => ?_) (fun hb867 => ?_)
 replace h := ite_t hb867 h
 refine aw_region (xy Z (xf (.ptr p844 2) underlying40 sizeOf9 Z (xl 0 isAgg9 Z ?_)))
 obtain ⟨c866, h⟩ := need_of h
 refine xa (.str (s809.s ++ (ix l s809.t11).S)) Z (pu_strAdd Z (tm Z) (tm Z) c866) (xy Z (xe ?_))
 exact ⟨(s809.s ++ (ix l s809.t11).S, s809.open_), (), (some_of h).symm, wi [] Z⟩
 replace h := ite_fb hb867 h
 refine aw_skip ?_
 exact ⟨(s809.s, s809.open_), (), (some_of h).symm, wi [] Z⟩
 refine aw_exit ?_
 cases h
 have h := congrArg some (hx810 _ rfl)
 exact ⟨s809.s, (), (some_of h).symm, wi [] Z⟩

theorem auth.limits.ok  {r : api.Limits} (h : auth.limits = some r) : Sp prog 43 [] [] (fun v H => v = .agg [.i r.Args, .i r.Bulk, .i r.Line] ∧ H = []) := by
 unfold auth.limits at h
 refine sb [.cell 0 66] func43 Z (xr (xA (.agg [.i 0, .i 0, .i 0]) zeroValue66 Z fun p2 => xe (xr (xa (.agg [.i 16, .i 1024, .i 2048]) Z (pu_build (zs := [.i 0, .i 0, .i 0]) (szs := [1, 1, 1]) (aparts := [(0, .i 16), (1, .i 1024), (2, .i 2048)]) (cs := [.i 16, .i 1024, .i 2048]) Z underlying66 zeroValue66 Z ⟨sizeOf3, sizeOf3, sizeOf3, trivial⟩ ⟨Z, (AEv.int _ _), ⟨Z, (AEv.int _ _), ⟨Z, (AEv.int _ _), trivial⟩⟩⟩ Z) (xs 0 [.i 16, .i 1024, .i 2048] sizeOf66 Z (xe (aw_ret ?_)))))))
 cases h
 exact rq [.agg [.i 16, .i 1024, .i 2048]] ⟨Z, Z⟩ vr ⟨(CellOk.agg 0 (tm Z) Z isAgg66 sizeOf66 (nb Z) Z), trivial⟩ w0

theorem parse.Limits.ok {l r} (h : parse.Limits l = some r) : Sp prog 59 [.agg [.i l.Args, .i l.Bulk, .i l.Line]] [] (fun v H => v = .agg [.i r.Args, .i r.Bulk, .i r.Line] ∧ H = []) := by
 unfold parse.Limits at h
 refine sb [.cell 2 66] func59 Z (xr (xb [.i l.Args, .i l.Bulk, .i l.Line] Z fun p3 => xA (.agg [.i 0, .i 0, .i 0]) zeroValue66 Z fun p4 => xe (xr (xf (.ptr p3 0) underlying66 sizeOf3 Z (xl 1 isAgg3 Z (xa (.i (if l.Args < 1 then 1 else l.Args)) Z (pu_max2 Z (tm Z) (AEv.int _ _)) (xa (.i (if 65536 < (if l.Args < 1 then 1 else l.Args) then 65536 else (if l.Args < 1 then 1 else l.Args))) Z (pu_min2 Z (tm Z) (AEv.int _ _)) (xf (.ptr p3 1) underlying66 sizeOf3 Z (xl 1 isAgg3 Z (xa (.i (if l.Bulk < 1 then 1 else l.Bulk)) Z (pu_max2 Z (tm Z) (AEv.int _ _)) ?_))))))))))
 refine xa (.i (if 1048576 < (if l.Bulk < 1 then 1 else l.Bulk) then 1048576 else (if l.Bulk < 1 then 1 else l.Bulk))) Z (pu_min2 Z (tm Z) (AEv.int _ _)) (xf (.ptr p3 2) underlying66 sizeOf3 Z (xl 1 isAgg3 Z (xa (.i (if l.Line < 1 then 1 else l.Line)) Z (pu_max2 Z (tm Z) (AEv.int _ _)) (xa (.i (if 65536 < (if l.Line < 1 then 1 else l.Line) then 65536 else (if l.Line < 1 then 1 else l.Line))) Z (pu_min2 Z (tm Z) (AEv.int _ _)) (xa (.agg [.i (if 65536 < (if l.Args < 1 then 1 else l.Args) then 65536 else (if l.Args < 1 then 1 else l.Args)), .i (if 1048576 < (if l.Bulk < 1 then 1 else l.Bulk) then 1048576 else (if l.Bulk < 1 then 1 else l.Bulk)), .i (if 65536 < (if l.Line < 1 then 1 else l.Line) then 65536 else (if l.Line < 1 then 1 else l.Line))]) Z (pu_build (zs := [.i 0, .i 0, .i 0]) (szs := [1, 1, 1]) (aparts := [(0, .i (if 65536 < (if l.Args < 1 then 1 else l.Args) then 65536 else (if l.Args < 1 then 1 else l.Args))), (1, .i (if 1048576 < (if l.Bulk < 1 then 1 else l.Bulk) then 1048576 else (if l.Bulk < 1 then 1 else l.Bulk))), (2, .i (if 65536 < (if l.Line < 1 then 1 else l.Line) then 65536 else (if l.Line < 1 then 1 else l.Line)))]) (cs := [.i (if 65536 < (if l.Args < 1 then 1 else l.Args) then 65536 else (if l.Args < 1 then 1 else l.Args)), .i (if 1048576 < (if l.Bulk < 1 then 1 else l.Bulk) then 1048576 else (if l.Bulk < 1 then 1 else l.Bulk)), .i (if 65536 < (if l.Line < 1 then 1 else l.Line) then 65536 else (if l.Line < 1 then 1 else l.Line))]) Z underlying66 zeroValue66 Z ⟨sizeOf3, sizeOf3, sizeOf3, trivial⟩ ⟨Z, (tm Z), ⟨Z, (tm Z), ⟨Z, (tm Z), trivial⟩⟩⟩ Z) (xs 0 [.i (if 65536 < (if l.Args < 1 then 1 else l.Args) then 65536 else (if l.Args < 1 then 1 else l.Args)), .i (if 1048576 < (if l.Bulk < 1 then 1 else l.Bulk) then 1048576 else (if l.Bulk < 1 then 1 else l.Bulk)), .i (if 65536 < (if l.Line < 1 then 1 else l.Line) then 65536 else (if l.Line < 1 then 1 else l.Line))] sizeOf66 Z (xe (aw_ret ?_))))))))
 cases h
 exact rq [.agg [.i (if 65536 < (if l.Args < 1 then 1 else l.Args) then 65536 else (if l.Args < 1 then 1 else l.Args)), .i (if 1048576 < (if l.Bulk < 1 then 1 else l.Bulk) then 1048576 else (if l.Bulk < 1 then 1 else l.Bulk)), .i (if 65536 < (if l.Line < 1 then 1 else l.Line) then 65536 else (if l.Line < 1 then 1 else l.Line))]] ⟨Z, Z⟩ vr ⟨(CellOk.agg 0 (tm Z) Z isAgg66 sizeOf66 (nb Z) Z), trivial⟩ w0

theorem slices.Clone_string.ok {s r} (h : slices.Clone_string s = some r) : Sp prog 60 [.sl .no 1 (m3L s)] [] (fun v H => ∃ n0, v = .sl (.own n0) 1 (m3L r) ∧ H = [(n0, .spare)]) := by
 unfold slices.Clone_string at h
 obtain ⟨c, h⟩ := need_of h
 cases h
 refine sb [.tmp 2] func60 Z (xr (xa (.sl .full 1 e2L) Z (pu_assign Z (AEv.nil 1 (by decide))) (xe (aw_seq (xr (xy Z (xc Z (op_nilSlice Z underlying71 (tm Z) fun b hb => ?_))))))))
 refine xe (aw_cond (tm Z) (fun hb2 => ?_) (fun hb2 => ?_))
 have hs : s = [] := List.map_eq_nil_iff.1 (hb hb2)
 subst hs
 refine xr (xa (.sl .full 1 e2L) Z (pu_assign Z (AEv.nil 1 (by decide))) (xe (aw_claim 2 (tm Z) fun t => (aw_ret ?_))))
 exact rq [.sl (.own t) 1 e2L] ⟨t, Z, Z⟩ (AV.Le.refl _) ⟨tm Z, trivial⟩ (wi [0] Z)
 refine aw_skip (xr (xc Z (op_buildSlice (xs := ([] : List (List UInt8)).map AV.str) (aparts := []) Z underlying71 sizeOf9 zeroValue9 (by decide) (by decide) trivial Z Z Z (xy Z (xc Z (op_appendFM Z underlying71 underlying71 (.inl Z) typeInfo9 Z Z Z (by decide) (tm Z) (given_sl (tm Z)) c ?_))))))
 intro t
 refine xy Z (xe (aw_ret ?_))
 exact rq [.sl (.own t) 1 (m3L ([] ++ s))] ⟨t, Z, Z⟩ (AV.Le.refl _) ⟨tm Z, trivial⟩ (wi [0] Z)

theorem parse.parser.dies.ok {e p_ r} (h : parse.parser.dies e p_ = some r) (o0 q0 q1 : Nat) : Sp prog 86 [.ptr o0 0, .i e] [(o0, .cells (parse.parser.ct (.own q0) (.own q1) p_)), (q0, .spare), (q1, .spare)] (fun v H => ∃ n0, v = .bool r.1 ∧ H = [(o0, .cells [.str r.2.in_.Rest, .sl .full 1 (m3L r.2.in_.Args), .i r.2.in_.Left, .i r.2.in_.Size, .bool r.2.in_.Body, .i r.2.in_.Need, .i r.2.in_.Dead, .str r.2.s, .i r.2.l.Args, .i r.2.l.Bulk, .i r.2.l.Line, .sl (.own n0) 2 (m4L r.2.out)]), (n0, .spare)]) := by
 unfold parse.parser.dies at h
 refine sb [.tmp 4] func86 Z (xr (xz (.bool false) Z (xe (xr (xy Z (xy Z (xa (.agg [.str nS, .sl .full 1 e2L, .i 0, .i 0, .bool false, .i 0, .i e]) Z (pu_build (zs := [.str nS, .sl .full 1 e2L, .i 0, .i 0, .bool false, .i 0, .i 0]) (szs := [1, 1, 1, 1, 1, 1, 1]) (aparts := [(6, .i e)]) (cs := [.str nS, .sl .full 1 e2L, .i 0, .i 0, .bool false, .i 0, .i e]) Z underlying74 zeroValue74 Z ⟨sizeOf9, sizeOf71, sizeOf3, sizeOf3, sizeOf4, sizeOf3, sizeOf72, trivial⟩ ⟨Z, (tm Z), trivial⟩ Z) ?_)))))))
 refine xa (.ptr o0 0) Z (pu_nilCheck Z (tm Z) Z) (xf (.ptr o0 0) underlying111 sizeOf74 Z (xs 0 (parse.parser.ct .full (.own q1) { p_ with in_ := ({ Rest := nS, Args := ([] : List (List UInt8)), Left := 0, Size := 0, Body := false, Need := 0, Dead := e } : api.Input) }) sizeOf74 Z (xe (xr (xy Z (xa (.ptr o0 0) Z (pu_nilCheck Z (tm Z) Z) (xf (.ptr o0 7) underlying111 sizeOf9 Z (ac0 Z Z (op_store (i := 0) (cs' := (parse.parser.ct .full (.own q1) { p_ with in_ := ({ Rest := nS, Args := ([] : List (List UInt8)), Left := 0, Size := 0, Body := false, Need := 0, Dead := e } : api.Input), s := nS })) Z sizeOf9 (tm Z) (v := .str nS) (AEv.const Z) Z Z Z (nb Z) Z ?_)))))))))
 refine xe (xr (xz (.bool false) Z (xe (aw_ret ?_))))
 cases h
 exact rt ⟨q1, Z, Z⟩ Z (wi [0, 2] Z)

theorem stringslite.Clone.calls (s : ByteArray) (w : World) (hlim : s.size ≤ 281474976710656) :
  Calls prog 79 #[.string s] w fun e w' => e = .returned (.string s) ∧ Below w.heap.size w w' := by
 by_cases h0 : s.size = 0
 ·have hs : s = ⟨#[]⟩ := by
   apply ByteArray.ext
   exact Array.eq_empty_of_size_eq_zero h0
  subst hs
  go_enter func79, ntmps79
  go_wp2
  go_ret
  exact ⟨Z, Below.refl _ _⟩
 ·obtain ⟨i0, hi, hz0, hz1, hz2⟩ := info_parts (show (prog.info? 5).map (fun i => (i.zero, i.size, i.bytes)) = some (some (.int .u8 0), 1, 1) by kernel_rfl)
  have hinfo : (prog.info? 5).map (·.size) = some 1 := by rw [hi]; simp [hz1]
  have hco : prog.cellsOf 5 = 1 := by simp [Program.cellsOf, hi, hz1]
  obtain ⟨M, hM⟩ : ∃ M, M = madeCells (Value.int .u8 0).cells (((s.size : Nat) : Int).toNat * i0.size) := ⟨_, rfl⟩
  have hMs : M.size = s.size := by rw [hM, size_madeCells, hz1]; simp
  have hmk : ∀ W : World, (Instr.makeSlice 126 (.int .i64 (s.size : Int)) (.int .i64 (s.size : Int))).run prog W = .ok (.slice (some ⟨W.heap.size, 0, none⟩) s.size s.size) (W.alloc (.cells M 5)) := fun W => by
   have h := run_make (P := prog) W 126 5 i0 (.int .u8 0) underlying126 hi hz0 .i64 .i64 (s.size : Int) (s.size : Int) (by omega) (by omega) (by rw [hz2]; omega) (by omega)
   rw [← hM] at h
   simpa using h
  clear hM
  have hcp := Lib.run_copy_row_string (P := prog) (w.alloc (.cells M 5)) 126 9 3 5 w.heap.size 0 s.size s.size s M 5 underlying126 hinfo (heap_alloc_new w _) (Nat.le_refl _) (by omega)
  obtain ⟨Y, hY⟩ : ∃ Y, Y = (M.toList.take 0 ++ Lib.byteCells s.data.toList ++ M.toList.drop (0 + s.size)).toArray := ⟨_, rfl⟩
  rw [← hY] at hcp
  have hYl : Y.toList = Lib.byteCells s.data.toList := by
   rw [hY, List.toList_toArray, List.take_zero, List.nil_append, List.drop_of_length_le (by rw [Array.length_toList]; omega), List.append_nil]
  have hYs : Y.size = s.size := by rw [← Array.length_toList, hYl, Lib.byteCells_length, ← Lib.size_eq]
  have hgY : ((w.alloc (.cells M 5)).setRow w.heap.size Y).heap[w.heap.size]? = some (.cells Y 5 (0, 0)) := setRow_heap _ _ M _ 5 (0, 0) (heap_alloc_new w _)
  have hne : s.data.toList ≠ [] := fun e => h0 (by rw [Lib.size_eq, e]; rfl)
  have hUS := Lib.run_unsafeString_row (P := prog) ((w.alloc (.cells M 5)).setRow w.heap.size Y) 141 3 9 5 underlying141 hco w.heap.size Y.size (by unfold World.shape?; rw [hgY]) s.data.toList hne (by rw [← Lib.size_eq]; omega) (by rw [← Lib.size_eq]; omega)
   (fun j x hx => Lib.cells_of_row hgY Y.size j _ (by rw [List.take_of_length_le (by rw [Array.length_toList]; exact Nat.le_refl _), hYl]; simp [Lib.byteCells, hx]))
  rw [← Lib.size_eq] at hUS
  clear hY
  go_enter func79, ntmps79
  go_wp2
  go_ret
  have hb1 : Below w.heap.size w (w.alloc (.cells M 5)) := (Below.refl _ w).alloc (Nat.le_refl _) _
  have hb2 : Below w.heap.size (w.alloc (.cells M 5)) ((w.alloc (.cells M 5)).setRow w.heap.size Y) := ⟨rfl, rfl, rfl, by simp, fun k hk => setRow_other _ _ _ _ (by omega)⟩
  exact ⟨Z, Lib.below_freeze (hb1.trans hb2) (p := ⟨w.heap.size, 0, none⟩) (Nat.le_refl _) _⟩

theorem stringslite.Clone.ok {s r} (h : stringslite.Clone s = some r) : Sp prog 79 [.str s] [] (fun v H => v = .str r ∧ H = []) := by
 unfold stringslite.Clone at h
 obtain ⟨c, h⟩ := need_of h
 cases h
 exact spec_str1 fun w => stringslite.Clone.calls _ w (by rw [bs_size]; exact c)

theorem strings.Clone.ok {s_ r} (h : strings.Clone s_ = some r) : Sp prog 62 [.str s_] [] (fun v H => v = .str r ∧ H = []) := by
 unfold strings.Clone at h
 refine sb [.tmp 2] func62 Z (xr (xa (.str nS) Z (pu_assign Z (AEv.const Z)) (xe (xr (xy Z ?_)))))
 obtain ⟨r2, r2e, h⟩ := bind_some h
 refine xo (stringslite.Clone.ok r2e) call79 Z (xy Z (xe (aw_ret ?_)))
 cases h
 exact rt ⟨Z, Z⟩ Z w0

theorem parse.parser.past.ok {n_ p_ r} (h : parse.parser.past n_ p_ = some r) (o0 q0 q1 : Nat) : Sp prog 87 [.ptr o0 0, .i n_] [(o0, .cells (parse.parser.ct (.own q0) (.own q1) p_)), (q0, .spare), (q1, .spare)] (fun v H => ∃ n0 n1, v = .tup [] ∧ H = [(o0, .cells [.str r.in_.Rest, .sl (.own n0) 1 (m3L r.in_.Args), .i r.in_.Left, .i r.in_.Size, .bool r.in_.Body, .i r.in_.Need, .i r.in_.Dead, .str r.s, .i r.l.Args, .i r.l.Bulk, .i r.l.Line, .sl (.own n1) 2 (m4L r.out)]), (n0, .spare), (n1, .spare)]) := by
 unfold parse.parser.past at h
 refine sb [] func87 Z (aw_upd (xr (xy Z (xa (.ptr o0 0) Z (pu_nilCheck Z (tm Z) Z) (xf (.ptr o0 0) underlying111 sizeOf74 Z (xf (.ptr o0 3) underlying74 sizeOf3 Z (xl 0 isAgg3 Z (xy Z ?_))))))))
 refine xz (.i (w64 (p_.in_.Size + n_))) Z (xa (.ptr o0 0) Z (pu_nilCheck Z (tm Z) Z) (xf (.ptr o0 0) underlying111 sizeOf74 Z (xf (.ptr o0 3) underlying74 sizeOf3 Z (xs 0 (parse.parser.ct (.own q0) (.own q1) { p_ with in_ := { p_.in_ with Size := w64 (p_.in_.Size + n_) } }) sizeOf3 Z (xe (aw_region (xy Z (xy Z (xa (.ptr o0 0) Z (pu_nilCheck Z (tm Z) Z) ?_)))))))))
 refine xf (.ptr o0 7) underlying111 sizeOf9 Z (xl 0 isAgg9 Z (xy Z ?_))
 obtain ⟨c2, h⟩ := need_of h
 refine xa (.str (sub p_.s n_ (p_.s.length : Int))) Z (pu_strSliceM Z underlying9 (tm Z) ⟨_, (tm Z)⟩ Z c2) (xa (.ptr o0 0) Z (pu_nilCheck Z (tm Z) Z) (xf (.ptr o0 7) underlying111 sizeOf9 Z (xs 0 (parse.parser.ct (.own q0) (.own q1) { p_ with in_ := { p_.in_ with Size := w64 (p_.in_.Size + n_) }, s := sub p_.s n_ (p_.s.length : Int) }) sizeOf9 Z (xe (upd_done ?_)))))
 cases h
 exact rq [] ⟨q0, q1, Z, Z⟩ vr trivial (wi [0, 1, 2] Z)

theorem parse.parser.whole.ok {args p_ r} (h : parse.parser.whole args p_ = some r) (o0 q0 q1 : Nat) : Sp prog 78 [.ptr o0 0, .sl .no 1 (m3L args)] [(o0, .cells (parse.parser.ct (.own q0) (.own q1) p_)), (q0, .spare), (q1, .spare)] (fun v H => ∃ n0, v = .tup [] ∧ H = [(o0, .cells [.str r.in_.Rest, .sl .full 1 (m3L r.in_.Args), .i r.in_.Left, .i r.in_.Size, .bool r.in_.Body, .i r.in_.Need, .i r.in_.Dead, .str r.s, .i r.l.Args, .i r.l.Bulk, .i r.l.Line, .sl (.own n0) 2 (m4L r.out)]), (n0, .spare)]) := by
 unfold parse.parser.whole at h
 refine sb [] func78 Z (aw_upd ?_)
 obtain ⟨s14, s14e, h16⟩ := bind_some h
 refine aw_meet (ν := Nat) (fun v => [(0, .ptr o0 0)]) (fun v => [(o0, .cells (parse.parser.ct (.own q0) (.own v) { p_ with out := s14 })), (q0, .spare), (v, .spare)]) ?_ ?_
 have h := s14e
 refine xr (xy Z (xa (.i (args.length : Int)) Z (pu_lenM Z underlying71 (tm Z)) (xz (bd (0 < (args.length : Int))) Z (xe (cd h Z (fun _ h => ?_) (fun _ h => ?_))))))
 obtain ⟨c18, h⟩ := need_of h
 refine aw_reserve fun p19 => (aw_planR (by decide +kernel) [[], [], [], [], [(1, 0, false)], [], [], [], [], [], [(1, 0, false)], [], [], [(3, 0, true), (0, 0, true)], [], [], [(1, 0, true)]] [[13], [16], [], [13]] [[[(p19, .resv)], [(p19, .spare)]], [[(o0, .cells (parse.parser.ct (.own q0) (.own q1) p_))], [(o0, .cells (parse.parser.ct (.own q0) (.own p19) { p_ with out := p_.out ++ [({ Args := args, Size := p_.in_.Size } : api.Request)] }))]], [[(q0, .spare)]], [[(q1, .spare)], []]] [.ptr o0 0, .ptr o0 0, .ptr o0 0, .ptr o0 11, .sl (.own q1) 2 (m4L p_.out), .sl .no 1 (m3L args), .ptr o0 0, .ptr o0 0, .ptr o0 0, .ptr o0 3, .i p_.in_.Size, .agg [.sl .no 1 (m3L args), .i p_.in_.Size], .sl .full 2 ([({ Args := args, Size := p_.in_.Size } : api.Request)].map api.Request.av), .sl (.own p19) 2 (m4L (p_.out ++ [({ Args := args, Size := p_.in_.Size } : api.Request)])), .ptr o0 0, .ptr o0 11, .un] (by decide +kernel) Z Z ?_ ?_)
 exact ⟨ym Z Z Z, ym Z Z Z, yp Z (pu_nilCheck Z (tm Z) Z), yp Z (fa Z underlying111 Z sizeOf77 Z Z Z), stepg_plain Z (op_load1 (i := 0) Z isAgg77 (tm Z) Z Z ⟨Z, Z⟩), ym Z Z Z, ym Z Z Z, yp Z (pu_nilCheck Z (tm Z) Z), yp Z (fa Z underlying111 Z sizeOf74 Z Z Z), yp Z (fa Z underlying74 Z sizeOf3 Z Z Z), stepg_plain Z (op_load1 (i := 0) Z isAgg3 (tm Z) Z Z ⟨Z, Z⟩), yp Z (pu_build (zs := [.sl .full 1 e2L, .i 0]) (szs := [1, 1]) (aparts := [(0, .sl .no 1 (m3L args)), (1, .i p_.in_.Size)]) (cs := [.sl .no 1 (m3L args), .i p_.in_.Size]) Z underlying81 zeroValue81 Z ⟨sizeOf71, sizeOf3, trivial⟩ ⟨Z, (tm Z), ⟨Z, (tm Z), trivial⟩⟩ Z), stepg_plain Z (op_buildSlice (xs := ([({ Args := args, Size := p_.in_.Size } : api.Request)] : List api.Request).map api.Request.av) (aparts := [(0, .agg [.sl .no 1 (m3L args), .i p_.in_.Size])]) Z underlying77 sizeOf81 zeroValue81 (by decide) (by decide) ⟨Z, (tm Z), trivial⟩ Z Z Z ⟨Z, Z⟩), stepg_plain Z (aop_settleS (op_appendOM (q := 0) Z underlying77 underlying77 (.inl Z) typeInfo81 Z Z Z (by decide) (tm Z) Z (given_sl (tm Z)) c18 fun t => ⟨t, Z, Z⟩) ⟨Z, Z⟩), yp Z (pu_nilCheck Z (tm Z) Z), yp Z (fa Z underlying111 Z sizeOf77 Z Z Z), stepg_plain Z (op_store (i := 0) (cs' := (parse.parser.ct (.own q0) (.own p19) { p_ with out := p_.out ++ [({ Args := args, Size := p_.in_.Size } : api.Request)] })) Z sizeOf77 (tm Z) (v := .sl (.own p19) 2 (m4L (p_.out ++ [({ Args := args, Size := p_.in_.Size } : api.Request)]))) (tm Z) Z Z Z (nb Z) Z ⟨Z, Z⟩), trivial⟩
 cases h
 exact ⟨p19, wl [1, 2, 0] Z ⟨⟨_, Z, ⟨vr, vr, vr, vr, vr, vr, vr, vr, vr, vr, vr, vr, trivial⟩, Z⟩, ⟨_, Z, Z⟩, ⟨_, Z, Z⟩, trivial⟩ ⟨tm Z, trivial⟩⟩
 refine aw_skip ?_
 cases h
 exact ⟨q1, wi [0, 1, 2] Z⟩
 intro n15
 have h := h16
 refine aw_region (xy Z (xa (.agg [.str nS, .sl .full 1 e2L, .i 0, .i 0, .bool false, .i 0, .i 0]) Z (pu_build (zs := [.str nS, .sl .full 1 e2L, .i 0, .i 0, .bool false, .i 0, .i 0]) (szs := [1, 1, 1, 1, 1, 1, 1]) (aparts := []) (cs := [.str nS, .sl .full 1 e2L, .i 0, .i 0, .bool false, .i 0, .i 0]) Z underlying74 zeroValue74 Z ⟨sizeOf9, sizeOf71, sizeOf3, sizeOf3, sizeOf4, sizeOf3, sizeOf72, trivial⟩ trivial Z) (xa (.ptr o0 0) Z (pu_nilCheck Z (tm Z) Z) (xf (.ptr o0 0) underlying111 sizeOf74 Z (xs 0 (parse.parser.ct .full (.own n15) { p_ with in_ := ({ Rest := nS, Args := ([] : List (List UInt8)), Left := 0, Size := 0, Body := false, Need := 0, Dead := 0 } : api.Input), out := s14 }) sizeOf74 Z (xe (upd_done ?_)))))))
 cases h
 exact rq [] ⟨n15, Z, Z⟩ vr trivial (wi [0, 2] Z)

theorem parse.parser.body.ok {p_ r} (h : parse.parser.body p_ = some r) (o0 q0 q1 : Nat) : Sp prog 75 [.ptr o0 0] [(o0, .cells (parse.parser.ct (.own q0) (.own q1) p_)), (q0, .spare), (q1, .spare)] (fun v H => ∃ n0 n1, v = .bool r.1 ∧ H = [(o0, .cells [.str r.2.in_.Rest, .sl (.own n0) 1 (m3L r.2.in_.Args), .i r.2.in_.Left, .i r.2.in_.Size, .bool r.2.in_.Body, .i r.2.in_.Need, .i r.2.in_.Dead, .str r.2.s, .i r.2.l.Args, .i r.2.l.Bulk, .i r.2.l.Line, .sl (.own n1) 2 (m4L r.2.out)]), (n0, .spare), (n1, .spare)]) := by
 unfold parse.parser.body at h
 refine sb [.tmp 2] func75 Z (xr (xz (.bool false) Z (xe (xr (xy Z (xa (.ptr o0 0) Z (pu_nilCheck Z (tm Z) Z) (xf (.ptr o0 0) underlying111 sizeOf74 Z ?_)))))))
 refine xf (.ptr o0 5) underlying74 sizeOf3 Z (xl 0 isAgg3 Z (xa (.i (if p_.in_.Need < 0 then 0 else p_.in_.Need)) Z (pu_max2 Z (tm Z) (AEv.int _ _)) (xy Z (xe ?_))))
 obtain ⟨s155, s155e, h106⟩ := bind_some h
 refine aw_join (σ := Unit) (ν := Unit) (fun u v => [(0, .ptr o0 0), (3, .i (if p_.in_.Need < 0 then 0 else p_.in_.Need))]) (fun u v => [(o0, .cells (parse.parser.ct (.own q0) (.own q1) p_)), (q0, .spare), (q1, .spare)]) (fun u => s155 = .inl u) ?_ ?_
 intro s105
 intro _
 rintro rfl
 have h := onSum_inl h106
 refine aw_seq ?_
 obtain ⟨c136, h⟩ := need_of h
 obtain ⟨r137, r137e, h⟩ := bind_some h
 obtain ⟨c138, h⟩ := need_of h
 refine aw_reserve fun p139 => (aw_planR (by decide +kernel) [[], [], [], [], [], [(1, 0, false)], [], [], [], [(1, 0, false)], [], [], [], [], [(2, 0, true), (0, 0, true)], [], [], [], [(1, 0, true)]] [[14], [18], [14], []] [[[(p139, .resv)], [(p139, .spare)]], [[(o0, .cells (parse.parser.ct (.own q0) (.own q1) p_))], [(o0, .cells (parse.parser.ct (.own p139) (.own q1) { p_ with in_ := { p_.in_ with Args := p_.in_.Args ++ [r137] } }))]], [[(q0, .spare)], []], [[(q1, .spare)]]] [.ptr o0 0, .ptr o0 0, .ptr o0 0, .ptr o0 0, .ptr o0 1, .sl (.own q0) 1 (m3L p_.in_.Args), .ptr o0 0, .ptr o0 0, .ptr o0 7, .str p_.s, .i (if p_.in_.Need < 0 then 0 else p_.in_.Need), .str (sub p_.s 0 (if p_.in_.Need < 0 then 0 else p_.in_.Need)), .str r137, .sl .full 1 ([r137].map AV.str), .sl (.own p139) 1 (m3L (p_.in_.Args ++ [r137])), .ptr o0 0, .ptr o0 0, .ptr o0 1, .un] (by decide +kernel) Z Z ?_ ?_)
 exact ⟨ym Z Z Z, ym Z Z Z, yp Z (pu_nilCheck Z (tm Z) Z), yp Z (fa Z underlying111 Z sizeOf74 Z Z Z), yp Z (fa Z underlying74 Z sizeOf71 Z Z Z), stepg_plain Z (op_load1 (i := 0) Z isAgg71 (tm Z) Z Z ⟨Z, Z⟩), ym Z Z Z, yp Z (pu_nilCheck Z (tm Z) Z), yp Z (fa Z underlying111 Z sizeOf9 Z Z Z), stepg_plain Z (op_load1 (i := 0) Z isAgg9 (tm Z) Z Z ⟨Z, Z⟩), ym Z Z Z, yp Z (pu_strSliceM Z underlying9 (tm Z) Z ⟨_, (tm Z)⟩ c136), stepg_plain Z (op_call (vs := [.str (sub p_.s 0 (if p_.in_.Need < 0 then 0 else p_.in_.Need))]) (H := []) Z call62 ⟨(tm Z), trivial⟩ (R := []) (List.Perm.refl _) (strings.Clone.ok r137e) (by rintro _ _ ⟨rfl, rfl⟩; exact ⟨Z, Z⟩)), stepg_plain Z (op_buildSlice (xs := ([r137] : List (List UInt8)).map AV.str) (aparts := [(0, .str r137)]) Z underlying71 sizeOf9 zeroValue9 (by decide) (by decide) ⟨Z, (tm Z), trivial⟩ Z Z Z ⟨Z, Z⟩), stepg_plain Z (aop_settleS (op_appendOM (q := 0) Z underlying71 underlying71 (.inl Z) typeInfo9 Z Z Z (by decide) (tm Z) Z (given_sl (tm Z)) c138 fun t => ⟨t, Z, Z⟩) ⟨Z, Z⟩), yp Z (pu_nilCheck Z (tm Z) Z), yp Z (fa Z underlying111 Z sizeOf74 Z Z Z), yp Z (fa Z underlying74 Z sizeOf71 Z Z Z), stepg_plain Z (op_store (i := 0) (cs' := (parse.parser.ct (.own p139) (.own q1) { p_ with in_ := { p_.in_ with Args := p_.in_.Args ++ [r137] } })) Z sizeOf71 (tm Z) (v := .sl (.own p139) 1 (m3L (p_.in_.Args ++ [r137]))) (tm Z) Z Z Z (nb Z) Z ⟨Z, Z⟩), trivial⟩
 refine xr (xy Z (xa (.ptr o0 0) Z (pu_nilCheck Z (tm Z) Z) (xf (.ptr o0 0) underlying111 sizeOf74 Z (xf (.ptr o0 2) underlying74 sizeOf3 Z (xl 1 isAgg3 Z (xz (.i (w64 (p_.in_.Left - 1))) Z (xa (.ptr o0 0) Z (pu_nilCheck Z (tm Z) Z) (xf (.ptr o0 0) underlying111 sizeOf74 Z ?_))))))))
 refine xf (.ptr o0 2) underlying74 sizeOf3 Z (xs 1 (parse.parser.ct (.own p139) (.own q1) { p_ with in_ := { p_.in_ with Args := p_.in_.Args ++ [r137], Left := w64 (p_.in_.Left - 1) } }) sizeOf3 Z (xe (xr (xy Z (xy Z (xa (.ptr o0 0) Z (pu_nilCheck Z (tm Z) Z) (xf (.ptr o0 0) underlying111 sizeOf74 Z (xf (.ptr o0 4) underlying74 sizeOf4 Z ?_))))))))
 refine xs 1 (parse.parser.ct (.own p139) (.own q1) { p_ with in_ := { p_.in_ with Args := p_.in_.Args ++ [r137], Left := w64 (p_.in_.Left - 1), Body := false } }) sizeOf4 Z (xa (.ptr o0 0) Z (pu_nilCheck Z (tm Z) Z) (xf (.ptr o0 0) underlying111 sizeOf74 Z (xf (.ptr o0 5) underlying74 sizeOf3 Z (xs 1 (parse.parser.ct (.own p139) (.own q1) { p_ with in_ := ({ Rest := p_.in_.Rest, Args := p_.in_.Args ++ [r137], Left := w64 (p_.in_.Left - 1), Size := p_.in_.Size, Body := false, Need := 0, Dead := p_.in_.Dead } : api.Input) }) sizeOf3 Z (xe (xr (xy Z (xy Z ?_))))))))
 refine xz (.i (w64 ((if p_.in_.Need < 0 then 0 else p_.in_.Need) + 2))) Z ?_
 obtain ⟨r140, r140e, h⟩ := bind_some h
 refine aops_weak (weak_pick [1, 0, 2] (by decide) Z) (xk (parse.parser.past.ok r140e o0 p139 q1) call87 Z ?_)
 rintro _ _ ⟨t141, t142, rfl, rfl⟩
 refine xe ?_
 obtain ⟨s146, s146e, h149⟩ := bind_some h
 refine aw_meet (ν := Nat × Nat) (fun v => []) (fun v => [(o0, .cells [.str s146.1, .sl (.own v.1) 1 (m3L s146.2.1), .i s146.2.2.1, .i s146.2.2.2.1, .bool s146.2.2.2.2.1, .i s146.2.2.2.2.2.1, .i s146.2.2.2.2.2.2.1, .str s146.2.2.2.2.2.2.2.1, .i s146.2.2.2.2.2.2.2.2.1, .i s146.2.2.2.2.2.2.2.2.2.1, .i s146.2.2.2.2.2.2.2.2.2.2.1, .sl (.own v.2) 2 (m4L s146.2.2.2.2.2.2.2.2.2.2.2)]), (v.1, .spare), (v.2, .spare)]) ?_ ?_
 have h := s146e
 refine aw_upd (xr (xy Z (xa (.ptr o0 0) Z (pu_nilCheck Z (tm Z) Z) (xf (.ptr o0 0) underlying111 sizeOf74 Z (xf (.ptr o0 2) underlying74 sizeOf3 Z (xl 0 isAgg3 Z (xz (bd (r140.in_.Left = 0)) Z (xe ?_))))))))
 refine aw_cond (b := decide (r140.in_.Left = 0)) (tm Z) (fun hb154 => ?_) (fun hb154 => ?_)
 replace h := ite_t (dec_t hb154) h
 refine aw_region (xy Z (xy Z (xa (.ptr o0 0) Z (pu_nilCheck Z (tm Z) Z) (xf (.ptr o0 0) underlying111 sizeOf74 Z (xf (.ptr o0 1) underlying74 sizeOf71 Z (xl 0 isAgg71 Z ?_))))))
 obtain ⟨r151, r151e, h⟩ := bind_some h
 refine xc Z (op_call (vs := [.ptr o0 0, .sl .no 1 (m3L r140.in_.Args)]) (H := [(o0, .cells (parse.parser.ct (.own t141) (.own t142) r140)), (t141, .spare), (t142, .spare)]) Z call78 ⟨(tm Z), (AEv.le (tm Z) (AV.Le.forget _ _ _)), trivial⟩ (List.Perm.refl _) (parse.parser.whole.ok r151e o0 t141 t142) ?_)
 rintro _ _ ⟨t152, rfl, rfl⟩
 refine xe (upd_claimCell 0 1 Z Z fun t153 => (upd_done ?_))
 cases h
 exact ⟨(t153, t152), wi [1, 0, 2] Z⟩
 replace h := ite_f (dec_f hb154) h
 refine aw_skip (upd_done ?_)
 cases h
 exact ⟨(t141, t142), wi [0, 1, 2] Z⟩
 rintro ⟨n147, n148⟩
 have h := h149
 refine xr (xz (.bool true) Z (xe (aw_ret ?_)))
 cases h
 exact rt ⟨n147, n148, Z, Z⟩ Z (wi [0, 1, 2] Z)
 have h := s155e
 refine xr (xz (.i 0) Z (xe (aw_block (aw_while (σ := parse.parser.body.S0) (ν := Unit) (parse.parser.body.body0 p_) (fun s124 v => [(0, .ptr o0 0), (3, .i (if p_.in_.Need < 0 then 0 else p_.in_.Need)), (11, .i s124.t11)]) (fun s124 v => [(o0, .cells (parse.parser.ct (.own q0) (.own q1) p_)), (q0, .spare), (q1, .spare)]) ⟨0⟩ () _ h (wi [0, 1, 2] Z) ?_))))
 rintro s124 _ x126 h hx125
 unfold parse.parser.body.body0 at h
 refine xr (xz (bd (s124.t11 < 2)) Z (xe (aw_seq (cd h Z (fun _ h => ?_) (fun _ h => ?_)))))
 refine aw_skip (aw_seq (aw_block (xr (xy Z (xy Z (xe (aw_seq (aw_seq ?_))))))))
 refine aw_region (xy Z (xa (.ptr o0 0) Z (pu_nilCheck Z (tm Z) Z) (xf (.ptr o0 7) underlying111 sizeOf9 Z (xl 0 isAgg9 Z (xa (.i (p_.s.length : Int)) Z (pu_strLen Z underlying9 (tm Z)) (xy Z (xz (.i (w64 ((p_.s.length : Int) - (if p_.in_.Need < 0 then 0 else p_.in_.Need)))) Z (xy Z (xz (bd ((w64 ((p_.s.length : Int) - (if p_.in_.Need < 0 then 0 else p_.in_.Need))) ≤ s124.t11)) Z ?_)))))))))
 refine xe (cd h Z (fun _ h => ?_) (fun _ h => ?_))
 refine xr (xz (.bool false) Z (xe (aw_ret ?_)))
 cases h
 cases congrArg some (hx125 _ rfl)
 cases onSum_inr h106
 exact rt ⟨q0, q1, Z, Z⟩ Z (wi [0, 1, 2] Z)
 refine aw_skip (aw_seq ?_)
 obtain ⟨c128, h⟩ := need_of h
 obtain ⟨c129, h⟩ := need_of h
 refine aw_planR (by decide +kernel) [[], [], [], [(0, 0, false)], [], [], [], [], [], [], []] [[], [], []] [[[(o0, .cells (parse.parser.ct (.own q0) (.own q1) p_))]], [[(q0, .spare)]], [[(q1, .spare)]]] [.ptr o0 0, .ptr o0 0, .ptr o0 7, .str p_.s, .i (if p_.in_.Need < 0 then 0 else p_.in_.Need), .i s124.t11, .i (w64 ((if p_.in_.Need < 0 then 0 else p_.in_.Need) + s124.t11)), .int .u8 (bix p_.s (w64 ((if p_.in_.Need < 0 then 0 else p_.in_.Need) + s124.t11))), .i s124.t11, .int .u8 (bix [13, 10] s124.t11), bn ((bix p_.s (w64 ((if p_.in_.Need < 0 then 0 else p_.in_.Need) + s124.t11))) = (bix [13, 10] s124.t11))] (by decide +kernel) Z Z ?_ ?_
 exact ⟨ym Z Z Z, yp Z (pu_nilCheck Z (tm Z) Z), yp Z (fa Z underlying111 Z sizeOf9 Z Z Z), stepg_plain Z (op_load1 (i := 0) Z isAgg9 (tm Z) Z Z ⟨Z, Z⟩), ym Z Z Z, ym Z Z Z, yp Z (pe Z), yp Z (pu_strIdxM Z underlying9 (tm Z) (tm Z) c128), ym Z Z Z, yp Z (pu_strIdxM Z underlying9 (AEv.const Z) (tm Z) c129), yp Z (pe Z), trivial⟩
 refine aw_cond (b := (!decide ((bix p_.s (w64 ((if p_.in_.Need < 0 then 0 else p_.in_.Need) + s124.t11))) = (bix [13, 10] s124.t11)))) (tm Z) (fun hb133 => ?_) (fun hb133 => ?_)
 replace h := ite_f (ndec_t hb133) h
 refine xr (xy Z ?_)
 obtain ⟨r130, r130e, h⟩ := bind_some h
 refine xk (parse.parser.dies.ok r130e o0 q0 q1) call86 Z ?_
 rintro _ _ ⟨t131, rfl, rfl⟩
 refine xy Z (xe (aw_claimCell 0 1 Z Z fun t132 => (aw_ret ?_)))
 cases h
 cases congrArg some (hx125 _ rfl)
 cases onSum_inr h106
 exact rt ⟨t132, t131, Z, Z⟩ Z (wi [1, 0, 2] Z)
 replace h := ite_t (ndec_f hb133) h
 refine aw_skip (aw_region (xz (.i (w64 (s124.t11 + 1))) Z (xy Z (xe ?_))))
 cases h
 exact ⟨_, (), Z, wi [0, 1, 2] Z⟩
 refine aw_exit ?_
 cases h
 have h := congrArg some (hx125 _ rfl)
 exact ⟨(), (), (some_of h).symm, wi [0, 1, 2] Z⟩

theorem parse.parser.header.ok {mark most over p_ r} (h : parse.parser.header mark most over p_ = some r) (o0 q0 q1 : Nat) : Sp prog 76 [.ptr o0 0, .int .u8 mark, .i most, .i over] [(o0, .cells (parse.parser.ct (.own q0) (.own q1) p_)), (q0, .spare), (q1, .spare)] (fun v H => ∃ n0 n1, v = .tup [.i r.1, .bool r.2.1] ∧ H = [(o0, .cells [.str r.2.2.in_.Rest, .sl (.own n0) 1 (m3L r.2.2.in_.Args), .i r.2.2.in_.Left, .i r.2.2.in_.Size, .bool r.2.2.in_.Body, .i r.2.2.in_.Need, .i r.2.2.in_.Dead, .str r.2.2.s, .i r.2.2.l.Args, .i r.2.2.l.Bulk, .i r.2.2.l.Line, .sl (.own n1) 2 (m4L r.2.2.out)]), (n0, .spare), (n1, .spare)]) := by
 unfold parse.parser.header at h
 refine sb [.tmp 8, .tmp 9] func76 Z (xr (xz (.i 0) Z (xz (.bool false) Z (xe (aw_seq (xr (xy Z ?_)))))))
 refine xa (.ptr o0 0) Z (pu_nilCheck Z (tm Z) Z) (xf (.ptr o0 7) underlying111 sizeOf9 Z (xl 0 isAgg9 Z (xa (bd (p_.s = nS)) Z (pu_str (v := bd (p_.s = nS)) Z Z (tm Z) (AEv.const Z) Z) (xe (cd h Z (fun _ h => ?_) (fun _ h => ?_))))))
 refine xr (xz (.i 0) Z (xz (.bool false) Z (xe (aw_ret ?_))))
 cases h
 exact rt ⟨q0, q1, Z, Z⟩ Z (wi [0, 1, 2] Z)
 refine aw_skip (aw_seq (xr (xy Z (xa (.ptr o0 0) Z (pu_nilCheck Z (tm Z) Z) (xf (.ptr o0 7) underlying111 sizeOf9 Z (xl 0 isAgg9 Z ?_))))))
 obtain ⟨c214, h⟩ := need_of h
 refine xa (.int .u8 (bix p_.s 0)) Z (pu_strIdxM Z underlying9 (tm Z) (AEv.int _ _) c214) (xy Z (xz (bn ((bix p_.s 0) = mark)) Z (xe (cn h Z (fun _ h => ?_) (fun _ h => ?_)))))
 refine xr (xy Z ?_)
 obtain ⟨r215, r215e, h⟩ := bind_some h
 refine xk (parse.parser.dies.ok r215e o0 q0 q1) call86 Z ?_
 rintro _ _ ⟨t216, rfl, rfl⟩
 refine xz (.i 0) Z (xy Z (xe (aw_claimCell 0 1 Z Z fun t217 => (aw_ret ?_))))
 cases h
 exact rt ⟨t217, t216, Z, Z⟩ Z (wi [1, 0, 2] Z)
 refine aw_skip (xr (xz (.i 0) Z (xe ?_)))
 obtain ⟨s428, s428e, h321⟩ := bind_some h
 refine aw_join (σ := Unit) (ν := Unit) (fun u v => []) (fun u v => [(o0, .cells (parse.parser.ct (.own q0) (.own q1) p_)), (q0, .spare), (q1, .spare)]) (fun u => s428 = .inl u) ?_ ?_
 intro s320
 intro _
 rintro rfl
 have h := onSum_inl h321
 refine xr (xz (.i 0) Z (xz (.bool false) Z (xe (aw_ret ?_))))
 cases h
 exact rt ⟨q0, q1, Z, Z⟩ Z (wi [0, 1, 2] Z)
 have h := s428e
 refine xr (xz (.i 1) Z (xe (aw_block (aw_while (σ := parse.parser.header.S0) (ν := Unit) (parse.parser.header.body0 p_ most over) (fun s389 v => [(0, .ptr o0 0), (2, .i most), (3, .i over), (10, .i s389.n), (11, .i s389.i)]) (fun s389 v => [(o0, .cells (parse.parser.ct (.own q0) (.own q1) p_)), (q0, .spare), (q1, .spare)]) ⟨0, 1⟩ () _ h (wi [0, 1, 2] Z) ?_))))
 rintro s389 _ x391 h hx390
 unfold parse.parser.header.body0 at h
 refine aw_seq (xr (xy Z (xy Z (xa (.ptr o0 0) Z (pu_nilCheck Z (tm Z) Z) (xf (.ptr o0 7) underlying111 sizeOf9 Z (xl 0 isAgg9 Z (xa (.i (p_.s.length : Int)) Z (pu_strLen Z underlying9 (tm Z)) (xz (bd (s389.i < (p_.s.length : Int))) Z ?_))))))))
 refine xe (cd h Z (fun _ h => ?_) (fun _ h => ?_))
 refine aw_skip (aw_seq (aw_block (xr (xy Z (xa (.ptr o0 0) Z (pu_nilCheck Z (tm Z) Z) (xf (.ptr o0 7) underlying111 sizeOf9 Z (xl 0 isAgg9 Z (xy Z ?_))))))))
 obtain ⟨c393, h⟩ := need_of h
 refine xa (.int .u8 (bix p_.s s389.i)) Z (pu_strIdxM Z underlying9 (tm Z) (tm Z) c393) (xy Z (xe (aw_seq ?_)))
 obtain ⟨s395, s395e, h396⟩ := letO_of h
 refine aw_meet (ν := Unit) (fun v => [(0, .ptr o0 0), (2, .i most), (3, .i over), (10, .i s389.n), (11, .i s389.i), (12, .int .u8 (bix p_.s s389.i)), (47, .bool s395)]) (fun v => [(o0, .cells (parse.parser.ct (.own q0) (.own q1) p_)), (q0, .spare), (q1, .spare)]) ?_ ?_
 have h := s395e.symm
 refine aw_region (xy Z (xz (bd ((bix p_.s s389.i) = 13)) Z (xy Z ?_)))
 rcases Bool.eq_false_or_eq_true (decide ((bix p_.s s389.i) = 13)) with hb398 | hb398
 replace h := ite_t (dec_t hb398) h
 refine aops_known 44 Z hb398 (xq Z Z Z Z (xp (bd (1 < s389.i)) Z Z (pe Z) (xz (bd (1 < s389.i)) Z (xe ?_))))
 subst h
 exact ⟨(), wi [0, 1, 2] Z⟩
 replace h := ite_f (dec_f hb398) h
 refine aops_known 44 Z hb398 (xu Z (xu Z (xz (.bool false) Z (xe ?_))))
 subst h
 exact ⟨(), wi [0, 1, 2] Z⟩
 intro _
 have h := h396
 refine aw_cond (b := s395) (tm Z) (fun hb426 => ?_) (fun hb426 => ?_)
 replace h := ite_t hb426 h
 refine aw_seq (xr (xy Z (xz (.i (w64 (s389.i + 1))) Z (xy Z (xa (.ptr o0 0) Z (pu_nilCheck Z (tm Z) Z) (xf (.ptr o0 7) underlying111 sizeOf9 Z (xl 0 isAgg9 Z (xa (.i (p_.s.length : Int)) Z (pu_strLen Z underlying9 (tm Z)) ?_))))))))
 refine xz (bd ((w64 (s389.i + 1)) = (p_.s.length : Int))) Z (xe (cd h Z (fun _ h => ?_) (fun _ h => ?_)))
 refine xr (xz (.i 0) Z (xz (.bool false) Z (xe (aw_ret ?_))))
 cases h
 cases congrArg some (hx390 _ rfl)
 cases onSum_inr h321
 exact rt ⟨q0, q1, Z, Z⟩ Z (wi [0, 1, 2] Z)
 refine aw_skip (aw_seq (xr (xy Z (xa (.ptr o0 0) Z (pu_nilCheck Z (tm Z) Z) (xf (.ptr o0 7) underlying111 sizeOf9 Z (xl 0 isAgg9 Z (xy Z (xz (.i (w64 (s389.i + 1))) Z ?_))))))))
 obtain ⟨c399, h⟩ := need_of h
 refine xa (.int .u8 (bix p_.s (w64 (s389.i + 1)))) Z (pu_strIdxM Z underlying9 (tm Z) (tm Z) c399) (xz (bn ((bix p_.s (w64 (s389.i + 1))) = 10)) Z (xe (cn h Z (fun _ h => ?_) (fun _ h => ?_))))
 refine xr (xy Z ?_)
 obtain ⟨r400, r400e, h⟩ := bind_some h
 refine xk (parse.parser.dies.ok r400e o0 q0 q1) call86 Z ?_
 rintro _ _ ⟨t401, rfl, rfl⟩
 refine xz (.i 0) Z (xy Z (xe (aw_claimCell 0 1 Z Z fun t402 => (aw_ret ?_))))
 cases h
 cases congrArg some (hx390 _ rfl)
 cases onSum_inr h321
 exact rt ⟨t402, t401, Z, Z⟩ Z (wi [1, 0, 2] Z)
 refine aw_skip (xr (xy Z (xy Z (xz (.i (w64 (s389.i + 2))) Z ?_))))
 obtain ⟨r403, r403e, h⟩ := bind_some h
 refine xk (parse.parser.past.ok r403e o0 q0 q1) call87 Z ?_
 rintro _ _ ⟨t404, t405, rfl, rfl⟩
 refine xe (xr (xy Z (xy Z (xz (.bool true) Z (xe (aw_ret ?_))))))
 cases h
 cases congrArg some (hx390 _ rfl)
 cases onSum_inr h321
 exact rt ⟨t404, t405, Z, Z⟩ Z (wi [0, 1, 2] Z)
 replace h := ite_fb hb426 h
 refine aw_skip (aw_seq ?_)
 obtain ⟨s411, s411e, h412⟩ := letO_of h
 refine aw_meet (ν := Unit) (fun v => [(0, .ptr o0 0), (2, .i most), (3, .i over), (10, .i s389.n), (11, .i s389.i), (12, .int .u8 (bix p_.s s389.i)), (84, .bool s411)]) (fun v => [(o0, .cells (parse.parser.ct (.own q0) (.own q1) p_)), (q0, .spare), (q1, .spare)]) ?_ ?_
 have h := s411e.symm
 refine aw_region (xy Z (xz (bd ((bix p_.s s389.i) < 48)) Z (xy Z ?_)))
 rcases Bool.eq_false_or_eq_true (decide ((bix p_.s s389.i) < 48)) with hb414 | hb414
 replace h := ite_t (dec_t hb414) h
 refine aops_known 73 Z hb414 (xu Z (xu Z (xz (.bool true) Z (xy Z (xu Z (xu Z (xu Z (xv Z Z (xv Z Z ?_)))))))))
 refine xu Z (xz (.bool true) Z (xe ?_))
 subst h
 exact ⟨(), wi [0, 1, 2] Z⟩
 replace h := ite_f (dec_f hb414) h
 refine aops_known 73 Z hb414 (xq Z Z Z Z (xp (bd (57 < (bix p_.s s389.i))) Z Z (pe Z) (xz (bd (57 < (bix p_.s s389.i))) Z (xy Z ?_))))
 rcases Bool.eq_false_or_eq_true (decide (57 < (bix p_.s s389.i))) with hb415 | hb415
 replace h := ite_t (dec_t hb415) h
 refine aops_known 77 Z hb415 (xu Z (xu Z (xu Z (xv Z Z (xv Z Z (xu Z (xz (.bool true) Z (xe ?_))))))))
 subst h
 exact ⟨(), wi [0, 1, 2] Z⟩
 replace h := ite_f (dec_f hb415) h
 refine aops_known 77 Z hb415 (xq Z Z Z Z (xp (bd (1 < s389.i)) Z Z (pe Z) (xq Z Z Z Z ?_)))
 rcases Bool.eq_false_or_eq_true (decide (1 < s389.i)) with hb416 | hb416
 replace h := ite_t (dec_t hb416) h
 refine aops_known 80 Z hb416 (xq Z Z Z Z (xp (bd (s389.n = 0)) Z Z (pe Z) (xp (bd (s389.n = 0)) Z Z (pe Z) (xz (bd (s389.n = 0)) Z (xe ?_)))))
 subst h
 exact ⟨(), wi [0, 1, 2] Z⟩
 replace h := ite_f (dec_f hb416) h
 refine aops_known 80 Z hb416 (xu Z (xu Z (xp (.bool false) Z Z (pe Z) (xz (.bool false) Z (xe ?_)))))
 subst h
 exact ⟨(), wi [0, 1, 2] Z⟩
 intro _
 have h := h412
 refine aw_cond (b := s411) (tm Z) (fun hb425 => ?_) (fun hb425 => ?_)
 replace h := ite_t hb425 h
 refine xr (xy Z ?_)
 obtain ⟨r417, r417e, h⟩ := bind_some h
 refine xk (parse.parser.dies.ok r417e o0 q0 q1) call86 Z ?_
 rintro _ _ ⟨t418, rfl, rfl⟩
 refine xz (.i 0) Z (xy Z (xe (aw_claimCell 0 1 Z Z fun t419 => (aw_ret ?_))))
 cases h
 cases congrArg some (hx390 _ rfl)
 cases onSum_inr h321
 exact rt ⟨t419, t418, Z, Z⟩ Z (wi [1, 0, 2] Z)
 replace h := ite_fb hb425 h
 refine aw_skip (xr (xy Z (xz (.i (w64 (10 * s389.n))) Z (xy Z (xz (.int .u8 (IntKind.wrap .u8 ((bix p_.s s389.i) - 48))) Z (xa (.i (w64 (IntKind.wrap .u8 ((bix p_.s s389.i) - 48)))) Z (pu_conv Z underlying5 underlying3 (tm Z)) ?_))))))
 obtain ⟨x420, x420e, h⟩ := letO_of h
 refine xa (.i x420) Z (APure.eq (pe Z) (congrArg (AV.int .i64) x420e.symm)) (xy Z (xe (xr (xy Z (xy Z (xz (bd (most < x420)) Z (xe (cd h Z (fun _ h => ?_) (fun _ h => ?_)))))))))
 refine xr (xy Z (xy Z ?_))
 obtain ⟨r421, r421e, h⟩ := bind_some h
 refine xk (parse.parser.dies.ok r421e o0 q0 q1) call86 Z ?_
 rintro _ _ ⟨t422, rfl, rfl⟩
 refine xz (.i 0) Z (xy Z (xe (aw_claimCell 0 1 Z Z fun t423 => (aw_ret ?_))))
 cases h
 cases congrArg some (hx390 _ rfl)
 cases onSum_inr h321
 exact rt ⟨t423, t422, Z, Z⟩ Z (wi [1, 0, 2] Z)
 refine aw_skip (aw_region (xy Z (xz (.i (w64 (s389.i + 1))) Z (xy Z (xe ?_)))))
 cases h
 exact ⟨_, (), Z, wi [0, 1, 2] Z⟩
 refine aw_exit ?_
 cases h
 have h := congrArg some (hx390 _ rfl)
 exact ⟨(), (), (some_of h).symm, wi [0, 1, 2] Z⟩

theorem stringslite.IndexByte.ok {s_ c_ r} (h : stringslite.IndexByte s_ c_ = some r) : Sp prog 94 [.str s_, .int .u8 c_] [] (fun v H => v = .i r ∧ H = []) := by
 unfold stringslite.IndexByte at h
 refine sb [.tmp 4] func94 Z (xr (xz (.i 0) Z (xe (xr (xy Z (xy Z (xa (.i (Lib.indexByte s_ (u8 c_))) Z (pu_indexByte Z func100 (by kernel_rfl) (by kernel_rfl) (by kernel_rfl) (by kernel_rfl) (tm Z) (tm Z)) ?_)))))))
 refine xy Z (xe (aw_ret ?_))
 cases h
 exact rt ⟨Z, Z⟩ Z w0

theorem strings.IndexByte.ok {s_ c_ r} (h : strings.IndexByte s_ c_ = some r) : Sp prog 88 [.str s_, .int .u8 c_] [] (fun v H => v = .i r ∧ H = []) := by
 unfold strings.IndexByte at h
 refine sb [.tmp 4] func88 Z (xr (xz (.i 0) Z (xe (xr (xy Z (xy Z ?_))))))
 obtain ⟨r2, r2e, h⟩ := bind_some h
 refine xo (stringslite.IndexByte.ok r2e) call94 Z (xy Z (xe (aw_ret ?_)))
 cases h
 exact rt ⟨Z, Z⟩ Z w0

theorem stringslite.HasSuffix.ok {s_ suffix r} (h : stringslite.HasSuffix s_ suffix = some r) : Sp prog 103 [.str s_, .str suffix] [] (fun v H => v = .bool r ∧ H = []) := by
 unfold stringslite.HasSuffix at h
 refine sb [.tmp 4] func103 Z (xr (xz (.bool false) Z (xe ?_)))
 obtain ⟨s10, s10e, h11⟩ := bind_some h
 refine aw_meet (ν := Unit) (fun v => [(4, .bool s10)]) (fun v => []) ?_ ?_
 have h := s10e
 refine aw_region (xy Z (xa (.i (s_.length : Int)) Z (pu_strLen Z underlying9 (tm Z)) (xy Z (xa (.i (suffix.length : Int)) Z (pu_strLen Z underlying9 (tm Z)) (xz (bd ((suffix.length : Int) ≤ (s_.length : Int))) Z (xy Z ?_))))))
 rcases Bool.eq_false_or_eq_true (decide ((suffix.length : Int) ≤ (s_.length : Int))) with hb13 | hb13
 replace h := ite_t (dec_t hb13) h
 refine aops_known 10 Z hb13 (xq Z Z Z Z (xq Z Z Z Z (xp (.i (s_.length : Int)) Z Z (pu_strLen Z underlying9 (tm Z)) (xq Z Z Z Z (xp (.i (suffix.length : Int)) Z Z (pu_strLen Z underlying9 (tm Z)) (xp (.i (w64 ((s_.length : Int) - (suffix.length : Int)))) Z Z (pe Z) ?_))))))
 obtain ⟨c14, h⟩ := need_of h
 refine xp (.str (sub s_ (w64 ((s_.length : Int) - (suffix.length : Int))) (s_.length : Int))) Z Z (pu_strSliceM Z underlying9 (tm Z) ⟨_, (tm Z)⟩ Z c14) (xq Z Z Z Z (xp (bd ((sub s_ (w64 ((s_.length : Int) - (suffix.length : Int))) (s_.length : Int)) = suffix)) Z Z (pu_str (v := bd ((sub s_ (w64 ((s_.length : Int) - (suffix.length : Int))) (s_.length : Int)) = suffix)) Z Z (tm Z) (tm Z) Z) (xz (bd ((sub s_ (w64 ((s_.length : Int) - (suffix.length : Int))) (s_.length : Int)) = suffix)) Z (xy Z (xe ?_)))))
 cases h
 exact ⟨(), wi [] Z⟩
 replace h := ite_f (dec_f hb13) h
 refine aops_known 10 Z hb13 (xu Z (xu Z (xu Z (xu Z (xu Z (xu Z (xu Z (xu Z (xu Z ?_)))))))))
 refine xz (.bool false) Z (xy Z (xe ?_))
 cases h
 exact ⟨(), wi [] Z⟩
 intro _
 have h := h11
 refine aw_ret ?_
 cases h
 exact rt ⟨Z, Z⟩ Z w0

theorem stringslite.TrimSuffix.ok {s_ suffix r} (h : stringslite.TrimSuffix s_ suffix = some r) : Sp prog 97 [.str s_, .str suffix] [] (fun v H => v = .str r ∧ H = []) := by
 unfold stringslite.TrimSuffix at h
 refine sb [.tmp 4] func97 Z (xr (xa (.str nS) Z (pu_assign Z (AEv.const Z)) (xe (aw_seq (xr (xy Z (xy Z ?_)))))))
 obtain ⟨r4, r4e, h⟩ := bind_some h
 refine xo (stringslite.HasSuffix.ok r4e) call103 Z (xe (cb h Z (fun _ h => ?_) (fun _ h => ?_)))
 refine xr (xy Z (xy Z (xa (.i (s_.length : Int)) Z (pu_strLen Z underlying9 (tm Z)) (xy Z (xa (.i (suffix.length : Int)) Z (pu_strLen Z underlying9 (tm Z)) (xz (.i (w64 ((s_.length : Int) - (suffix.length : Int)))) Z ?_))))))
 obtain ⟨c5, h⟩ := need_of h
 refine xa (.str (sub s_ 0 (w64 ((s_.length : Int) - (suffix.length : Int))))) Z (pu_strSliceM Z underlying9 (tm Z) Z ⟨_, (tm Z)⟩ c5) (xy Z (xe (aw_ret ?_)))
 cases h
 exact rt ⟨Z, Z⟩ Z w0
 refine aw_skip (xr (xy Z (xy Z (xe (aw_ret ?_)))))
 cases h
 exact rt ⟨Z, Z⟩ Z w0

theorem strings.TrimSuffix.ok {s_ suffix r} (h : strings.TrimSuffix s_ suffix = some r) : Sp prog 90 [.str s_, .str suffix] [] (fun v H => v = .str r ∧ H = []) := by
 unfold strings.TrimSuffix at h
 refine sb [.tmp 4] func90 Z (xr (xa (.str nS) Z (pu_assign Z (AEv.const Z)) (xe (xr (xy Z (xy Z ?_))))))
 obtain ⟨r2, r2e, h⟩ := bind_some h
 refine xo (stringslite.TrimSuffix.ok r2e) call97 Z (xy Z (xe (aw_ret ?_)))
 cases h
 exact rt ⟨Z, Z⟩ Z w0

theorem line.blank.ok {c_ r} (h : line.blank c_ = some r) : Sp prog 95 [.int .u8 c_] [] (fun v H => v = .bool r ∧ H = []) := by
 unfold line.blank at h
 refine sb [.tmp 2] func95 Z (xr (xz (.bool false) Z (xe ?_)))
 obtain ⟨s7, s7e, h8⟩ := letO_of h
 refine aw_meet (ν := Unit) (fun v => [(2, .bool s7)]) (fun v => []) ?_ ?_
 have h := s7e.symm
 refine aw_region (xy Z (xz (bd (c_ = 32)) Z (xy Z ?_)))
 rcases Bool.eq_false_or_eq_true (decide (c_ = 32)) with hb10 | hb10
 replace h := ite_t (dec_t hb10) h
 refine aops_known 5 Z hb10 (xu Z (xu Z (xz (.bool true) Z (xy Z (xe ?_)))))
 subst h
 exact ⟨(), wi [] Z⟩
 replace h := ite_f (dec_f hb10) h
 refine aops_known 5 Z hb10 (xq Z Z Z Z (xp (bd (c_ = 9)) Z Z (pe Z) (xz (bd (c_ = 9)) Z (xy Z (xe ?_)))))
 subst h
 exact ⟨(), wi [] Z⟩
 intro _
 have h := h8
 refine aw_ret ?_
 cases h
 exact rt ⟨Z, Z⟩ Z w0

theorem line.quoted_1.ok {i a1_ r} (h : line.quoted_1 i a1_ = some r) (o0 : Nat) : Sp prog 101 [.i i, .ptr o0 0] [(o0, .cells [.str a1_])] (fun v H => v = .bool r ∧ H = [(o0, .cells [.str a1_])]) := by
 unfold line.quoted_1 at h
 refine sb [.tmp 3] func101 Z (xr (xz (.bool false) Z (xe ?_)))
 obtain ⟨s13, s13e, h14⟩ := bind_some h
 refine aw_meet (ν := Unit) (fun v => [(3, .bool s13)]) (fun v => [(o0, .cells [.str a1_])]) ?_ ?_
 have h := s13e
 refine aw_region (xy Z (xl 0 isAgg9 Z (xa (.i (a1_.length : Int)) Z (pu_strLen Z underlying9 (tm Z)) (xz (bd (i = (a1_.length : Int))) Z (xy Z ?_)))))
 rcases Bool.eq_false_or_eq_true (decide (i = (a1_.length : Int))) with hb16 | hb16
 replace h := ite_t (dec_t hb16) h
 refine aops_known 8 Z hb16 (xu Z (xu Z (xu Z (xu Z (xz (.bool true) Z (xy Z (xe ?_)))))))
 cases h
 exact ⟨(), wi [0] Z⟩
 replace h := ite_f (dec_f hb16) h
 refine aops_known 8 Z hb16 (xg Z Z (op_load1 (i := 0) Z isAgg9 (tm Z) Z Z (xq Z Z Z Z ?_)))
 obtain ⟨c17, h⟩ := need_of h
 refine xp (.int .u8 (bix a1_ i)) Z Z (pu_strIdxM Z underlying9 (tm Z) (tm Z) c17) ?_
 obtain ⟨r18, r18e, h⟩ := bind_some h
 refine xg Z Z (op_call (vs := [.int .u8 (bix a1_ i)]) (H := []) Z call95 ⟨(tm Z), trivial⟩ (List.Perm.refl _) (line.blank.ok r18e) ?_)
 rintro _ _ ⟨rfl, rfl⟩
 refine xz (.bool r18) Z (xy Z (xe ?_))
 cases h
 exact ⟨(), wi [0] Z⟩
 intro _
 have h := h14
 refine aw_ret ?_
 cases h
 exact rt ⟨Z, Z⟩ Z (wi [0] Z)

theorem line.hex.ok {c_ r} (h : line.hex c_ = some r) : Sp prog 104 [.int .u8 c_] [] (fun v H => v = .i r ∧ H = []) := by
 unfold line.hex at h
 refine sb [.tmp 2] func104 Z (xr (xz (.i 0) Z (xe (aw_seq (aw_block ?_)))))
 obtain ⟨s20, s20e, h21⟩ := letO_of h
 refine aw_meet (ν := Unit) (fun v => [(0, .int .u8 c_), (3, .bool s20)]) (fun v => []) ?_ ?_
 have h := s20e.symm
 refine aw_region (xy Z (xz (bd (48 ≤ c_)) Z (xy Z ?_)))
 rcases Bool.eq_false_or_eq_true (decide (48 ≤ c_)) with hb23 | hb23
 replace h := ite_t (dec_t hb23) h
 refine aops_known 6 Z hb23 (xq Z Z Z Z (xp (bd (c_ ≤ 57)) Z Z (pe Z) (xz (bd (c_ ≤ 57)) Z (xy Z (xe ?_)))))
 subst h
 exact ⟨(), wi [] Z⟩
 replace h := ite_f (dec_f hb23) h
 refine aops_known 6 Z hb23 (xu Z (xu Z (xz (.bool false) Z (xy Z (xe ?_)))))
 subst h
 exact ⟨(), wi [] Z⟩
 intro _
 have h := h21
 refine aw_cond (b := s20) (tm Z) (fun hb36 => ?_) (fun hb36 => ?_)
 replace h := ite_t hb36 h
 refine xr (xy Z (xz (.int .u8 (IntKind.wrap .u8 (c_ - 48))) Z (xa (.i (w64 (IntKind.wrap .u8 (c_ - 48)))) Z (pu_conv Z underlying5 underlying3 (tm Z)) (xy Z (xe (aw_ret ?_))))))
 cases h
 exact rt ⟨Z, Z⟩ Z w0
 replace h := ite_fb hb36 h
 obtain ⟨s25, s25e, h26⟩ := letO_of h
 refine aw_meet (ν := Unit) (fun v => [(0, .int .u8 c_), (13, .bool s25)]) (fun v => []) ?_ ?_
 have h := s25e.symm
 refine aw_region (xy Z (xz (bd (97 ≤ c_)) Z (xy Z ?_)))
 rcases Bool.eq_false_or_eq_true (decide (97 ≤ c_)) with hb28 | hb28
 replace h := ite_t (dec_t hb28) h
 refine aops_known 16 Z hb28 (xq Z Z Z Z (xp (bd (c_ ≤ 102)) Z Z (pe Z) (xz (bd (c_ ≤ 102)) Z (xy Z (xe ?_)))))
 subst h
 exact ⟨(), wi [] Z⟩
 replace h := ite_f (dec_f hb28) h
 refine aops_known 16 Z hb28 (xu Z (xu Z (xz (.bool false) Z (xy Z (xe ?_)))))
 subst h
 exact ⟨(), wi [] Z⟩
 intro _
 have h := h26
 refine aw_cond (b := s25) (tm Z) (fun hb35 => ?_) (fun hb35 => ?_)
 replace h := ite_t hb35 h
 refine xr (xy Z (xz (.int .u8 (IntKind.wrap .u8 (c_ - 97))) Z (xa (.i (w64 (IntKind.wrap .u8 (c_ - 97)))) Z (pu_conv Z underlying5 underlying3 (tm Z)) (xz (.i (w64 ((w64 (IntKind.wrap .u8 (c_ - 97))) + 10))) Z (xy Z (xe (aw_ret ?_)))))))
 cases h
 exact rt ⟨Z, Z⟩ Z w0
 replace h := ite_fb hb35 h
 obtain ⟨s30, s30e, h31⟩ := letO_of h
 refine aw_meet (ν := Unit) (fun v => [(0, .int .u8 c_), (24, .bool s30)]) (fun v => []) ?_ ?_
 have h := s30e.symm
 refine aw_region (xy Z (xz (bd (65 ≤ c_)) Z (xy Z ?_)))
 rcases Bool.eq_false_or_eq_true (decide (65 ≤ c_)) with hb33 | hb33
 replace h := ite_t (dec_t hb33) h
 refine aops_known 27 Z hb33 (xq Z Z Z Z (xp (bd (c_ ≤ 70)) Z Z (pe Z) (xz (bd (c_ ≤ 70)) Z (xy Z (xe ?_)))))
 subst h
 exact ⟨(), wi [] Z⟩
 replace h := ite_f (dec_f hb33) h
 refine aops_known 27 Z hb33 (xu Z (xu Z (xz (.bool false) Z (xy Z (xe ?_)))))
 subst h
 exact ⟨(), wi [] Z⟩
 intro _
 have h := h31
 refine aw_cond (b := s30) (tm Z) (fun hb34 => ?_) (fun hb34 => ?_)
 replace h := ite_t hb34 h
 refine xr (xy Z (xz (.int .u8 (IntKind.wrap .u8 (c_ - 65))) Z (xa (.i (w64 (IntKind.wrap .u8 (c_ - 65)))) Z (pu_conv Z underlying5 underlying3 (tm Z)) (xz (.i (w64 ((w64 (IntKind.wrap .u8 (c_ - 65))) + 10))) Z (xy Z (xe (aw_ret ?_)))))))
 cases h
 exact rt ⟨Z, Z⟩ Z w0
 replace h := ite_fb hb34 h
 refine aw_skip (xr (xz (.i (-1)) Z (xe (aw_ret ?_))))
 cases h
 exact rt ⟨Z, Z⟩ Z w0

theorem line.turn.ok {s_ at_ r} (h : line.turn s_ at_ = some r) : Sp prog 102 [.str s_, .i at_] [] (fun v H => v = .tup [.int .u8 r.1, .i r.2] ∧ H = []) := by
 unfold line.turn at h
 refine sb [.tmp 4, .tmp 5] func102 Z (xr (xz (.int .u8 0) Z (xz (.i 0) Z (xe (aw_seq ?_)))))
 obtain ⟨s40, s40e, h41⟩ := bind_some h
 refine aw_meet (ν := Unit) (fun v => [(0, .str s_), (1, .i at_), (32, .bool s40)]) (fun v => []) ?_ ?_
 have h := s40e
 refine aw_region (xy Z (xy Z ?_))
 obtain ⟨c43, h⟩ := need_of h
 refine xa (.int .u8 (bix s_ at_)) Z (pu_strIdxM Z underlying9 (tm Z) (tm Z) c43) (xz (bd ((bix s_ at_) = 120)) Z (xy Z ?_))
 rcases Bool.eq_false_or_eq_true (decide ((bix s_ at_) = 120)) with hb44 | hb44
 replace h := ite_t (dec_t hb44) h
 refine aops_known 10 Z hb44 (xq Z Z Z Z (xp (.i (w64 (at_ + 2))) Z Z (pe Z) (xq Z Z Z Z (xp (.i (s_.length : Int)) Z Z (pu_strLen Z underlying9 (tm Z)) (xp (bd ((w64 (at_ + 2)) < (s_.length : Int))) Z Z (pe Z) (xz (bd ((w64 (at_ + 2)) < (s_.length : Int))) Z (xy Z ?_)))))))
 rcases Bool.eq_false_or_eq_true (decide ((w64 (at_ + 2)) < (s_.length : Int))) with hb45 | hb45
 replace h := ite_t (dec_t hb45) h
 refine aops_known 17 Z hb45 (xq Z Z Z Z (xq Z Z Z Z (xp (.i (w64 (at_ + 1))) Z Z (pe Z) ?_)))
 obtain ⟨c46, h⟩ := need_of h
 refine xp (.int .u8 (bix s_ (w64 (at_ + 1)))) Z Z (pu_strIdxM Z underlying9 (tm Z) (tm Z) c46) ?_
 obtain ⟨r47, r47e, h⟩ := bind_some h
 refine xg Z Z (op_call (vs := [.int .u8 (bix s_ (w64 (at_ + 1)))]) (H := []) Z call104 ⟨(tm Z), trivial⟩ (List.Perm.refl _) (line.hex.ok r47e) ?_)
 rintro _ _ ⟨rfl, rfl⟩
 refine xp (bd (0 ≤ r47)) Z Z (pe Z) (xz (bd (0 ≤ r47)) Z (xy Z ?_))
 rcases Bool.eq_false_or_eq_true (decide (0 ≤ r47)) with hb48 | hb48
 replace h := ite_t (dec_t hb48) h
 refine aops_known 25 Z hb48 (xq Z Z Z Z (xq Z Z Z Z (xp (.i (w64 (at_ + 2))) Z Z (pe Z) ?_)))
 obtain ⟨c49, h⟩ := need_of h
 refine xp (.int .u8 (bix s_ (w64 (at_ + 2)))) Z Z (pu_strIdxM Z underlying9 (tm Z) (tm Z) c49) ?_
 obtain ⟨r50, r50e, h⟩ := bind_some h
 refine xg Z Z (op_call (vs := [.int .u8 (bix s_ (w64 (at_ + 2)))]) (H := []) Z call104 ⟨(tm Z), trivial⟩ (List.Perm.refl _) (line.hex.ok r50e) ?_)
 rintro _ _ ⟨rfl, rfl⟩
 refine xp (bd (0 ≤ r50)) Z Z (pe Z) (xz (bd (0 ≤ r50)) Z (xe ?_))
 cases h
 exact ⟨(), wi [] Z⟩
 replace h := ite_f (dec_f hb48) h
 refine aops_known 25 Z hb48 (xu Z (xu Z (xu Z (xu Z (xu Z (xu Z (xz (.bool false) Z (xe ?_))))))))
 cases h
 exact ⟨(), wi [] Z⟩
 replace h := ite_f (dec_f hb45) h
 refine aops_known 17 Z hb45 (xu Z (xu Z (xu Z (xu Z (xu Z (xu Z (xz (.bool false) Z (xy Z (xu Z ?_)))))))))
 refine xu Z (xu Z (xu Z (xu Z (xu Z (xz (.bool false) Z (xe ?_))))))
 cases h
 exact ⟨(), wi [] Z⟩
 replace h := ite_f (dec_f hb44) h
 refine aops_known 10 Z hb44 (xu Z (xu Z (xu Z (xu Z (xu Z (xz (.bool false) Z (xy Z (xu Z (xu Z ?_)))))))))
 refine xu Z (xu Z (xu Z (xu Z (xz (.bool false) Z (xy Z (xu Z (xu Z (xu Z (xu Z ?_)))))))))
 refine xu Z (xu Z (xz (.bool false) Z (xe ?_)))
 cases h
 exact ⟨(), wi [] Z⟩
 intro _
 have h := h41
 refine aw_cond (b := s40) (tm Z) (fun hb62 => ?_) (fun hb62 => ?_)
 replace h := ite_t hb62 h
 refine aw_seq ?_
 obtain ⟨c51, h⟩ := need_of h
 obtain ⟨r52, r52e, h⟩ := bind_some h
 obtain ⟨c53, h⟩ := need_of h
 obtain ⟨r54, r54e, h⟩ := bind_some h
 refine aw_planR (by decide +kernel) [[], [], [], [], [], [], [], [], [], [], [], [], [], [], [], [], []] [] [] [.str s_, .i at_, .i (w64 (at_ + 1)), .int .u8 (bix s_ (w64 (at_ + 1))), .i r52, .i (w64 (16 * r52)), .str s_, .i at_, .i (w64 (at_ + 2)), .int .u8 (bix s_ (w64 (at_ + 2))), .i r54, .i (w64 ((w64 (16 * r52)) + r54)), .int .u8 (IntKind.wrap .u8 (w64 ((w64 (16 * r52)) + r54))), .i at_, .i (w64 (at_ + 3)), .int .u8 (IntKind.wrap .u8 (w64 ((w64 (16 * r52)) + r54))), .i (w64 (at_ + 3))] (by decide +kernel) Z Z ?_ ?_
 exact ⟨ym Z Z Z, ym Z Z Z, yp Z (pe Z), yp Z (pu_strIdxM Z underlying9 (tm Z) (tm Z) c51), stepg_plain Z (op_call (vs := [.int .u8 (bix s_ (w64 (at_ + 1)))]) (H := []) Z call104 ⟨(tm Z), trivial⟩ (R := []) (List.Perm.refl _) (line.hex.ok r52e) (by rintro _ _ ⟨rfl, rfl⟩; exact ⟨Z, Z⟩)), yp Z (pe Z), ym Z Z Z, ym Z Z Z, yp Z (pe Z), yp Z (pu_strIdxM Z underlying9 (tm Z) (tm Z) c53), stepg_plain Z (op_call (vs := [.int .u8 (bix s_ (w64 (at_ + 2)))]) (H := []) Z call104 ⟨(tm Z), trivial⟩ (R := []) (List.Perm.refl _) (line.hex.ok r54e) (by rintro _ _ ⟨rfl, rfl⟩; exact ⟨Z, Z⟩)), yp Z (pe Z), yp Z (pu_conv Z underlying3 underlying5 (tm Z)), ym Z Z Z, yp Z (pe Z), ym Z Z Z, ym Z Z Z, trivial⟩
 refine aw_ret ?_
 cases h
 exact rt ⟨Z, Z⟩ Z w0
 replace h := ite_fb hb62 h
 refine aw_skip (aw_seq (xr (xy Z (xy Z ?_))))
 obtain ⟨c55, h⟩ := need_of h
 refine xa (.int .u8 (bix s_ at_)) Z (pu_strIdxM Z underlying9 (tm Z) (tm Z) c55) (xe (aw_block (xr (xz (bd ((bix s_ at_) = 110)) Z (xy Z (xe (cd h Z (fun _ h => ?_) (fun _ h => ?_))))))))
 refine xr (xy Z (xz (.i (w64 (at_ + 1))) Z (xz (.int .u8 10) Z (xy Z (xe (aw_ret ?_))))))
 cases h
 exact rt ⟨Z, Z⟩ Z w0
 refine xr (xz (bd ((bix s_ at_) = 114)) Z (xy Z (xe (cd h Z (fun _ h => ?_) (fun _ h => ?_)))))
 refine xr (xy Z (xz (.i (w64 (at_ + 1))) Z (xz (.int .u8 13) Z (xy Z (xe (aw_ret ?_))))))
 cases h
 exact rt ⟨Z, Z⟩ Z w0
 refine xr (xz (bd ((bix s_ at_) = 116)) Z (xy Z (xe (cd h Z (fun _ h => ?_) (fun _ h => ?_)))))
 refine xr (xy Z (xz (.i (w64 (at_ + 1))) Z (xz (.int .u8 9) Z (xy Z (xe (aw_ret ?_))))))
 cases h
 exact rt ⟨Z, Z⟩ Z w0
 refine xr (xz (bd ((bix s_ at_) = 98)) Z (xy Z (xe (cd h Z (fun _ h => ?_) (fun _ h => ?_)))))
 refine xr (xy Z (xz (.i (w64 (at_ + 1))) Z (xz (.int .u8 8) Z (xy Z (xe (aw_ret ?_))))))
 cases h
 exact rt ⟨Z, Z⟩ Z w0
 refine xr (xz (bd ((bix s_ at_) = 97)) Z (xy Z (xe (cd h Z (fun _ h => ?_) (fun _ h => ?_)))))
 refine xr (xy Z (xz (.i (w64 (at_ + 1))) Z (xz (.int .u8 7) Z (xy Z (xe (aw_ret ?_))))))
 cases h
 exact rt ⟨Z, Z⟩ Z w0
 refine aw_skip (xr (xy Z (xy Z ?_)))
 obtain ⟨c56, h⟩ := need_of h
 refine xa (.int .u8 (bix s_ at_)) Z (pu_strIdxM Z underlying9 (tm Z) (tm Z) c56) (xy Z (xz (.i (w64 (at_ + 1))) Z (xy Z (xy Z (xe (aw_ret ?_))))))
 cases h
 exact rt ⟨Z, Z⟩ Z w0

end Go.Pu
