/- Printed by lift.py: the functions come to them. -/
import Derived.Test.YtmognhokagemiaaGreatLiftWS
import Derived.Test.YtmognhokagemiaaGreatRZK4
set_option maxRecDepth 100000
set_option maxHeartbeats 0
namespace Go.Pu
open Go.Lift Go.Proofs.Tryz Go.RowKit Go.Proofs

theorem restore.Swap.ok {d name r} (h : restore.Swap d name = some r) : Sp prog 19 [.agg [.sl .no 3 (m0L d.Files), .sl .no 3 (m1L d.Faults)], .str name] [] (fun v H => v = .tup [.agg [.sl .no 3 (m0L r.1.Files), .sl .no 3 (m1L r.1.Faults)], .i r.2] ∧ H = []) := by
 unfold restore.Swap at h
 refine sb [.cell 4 25, .tmp 5] func19 Z (xr (xb [.sl .no 3 (m0L d.Files), .sl .no 3 (m1L d.Faults)] Z fun p8 => xA (.agg [.sl .full 3 e0L, .sl .full 3 e1L]) zeroValue25 Z fun p9 => xz (.i 0) Z (xe (aw_seq ?_))))
 obtain ⟨r10, r10e, h⟩ := bind_some h
 obtain ⟨r11, r11e, h⟩ := bind_some h
 refine aw_planR (by decide +kernel) [[(1, 0, false)], [], [], [], [], [], [], [(1, 0, true)], []] [[], [7]] [[[(p9, .cells [.sl .full 3 e0L, .sl .full 3 e1L])]], [[(p8, .cells [.sl .no 3 (m0L d.Files), .sl .no 3 (m1L d.Faults)])], [(p8, .cells [.sl .no 3 (m0L r11.1.Files), .sl .no 3 (m1L r11.1.Faults)])]]] [.agg [.sl .no 3 (m0L d.Files), .sl .no 3 (m1L d.Faults)], .str name, .str r10, .tup [.agg [.sl .no 3 (m0L r11.1.Files), .sl .no 3 (m1L r11.1.Faults)], .i r11.2], .tup [.agg [.sl .no 3 (m0L r11.1.Files), .sl .no 3 (m1L r11.1.Faults)], .i r11.2], .agg [.sl .no 3 (m0L r11.1.Files), .sl .no 3 (m1L r11.1.Faults)], .i r11.2, .un, .i r11.2] (by decide +kernel) Z Z ?_ ?_
 exact ⟨stepg_plain Z (op_loadN (i := 0) Z isAgg25 sizeOf25 (tm Z) Z (nb Z) Z ⟨Z, Z⟩), ym Z Z Z, stepg_plain Z (op_call (vs := [.str name]) (H := []) Z call12 ⟨(tm Z), trivial⟩ (R := []) (List.Perm.refl _) (restore.Other.ok r10e) (by rintro _ _ ⟨rfl, rfl⟩; exact ⟨Z, Z⟩)), stepg_plain Z (op_call (vs := [.agg [.sl .no 3 (m0L d.Files), .sl .no 3 (m1L d.Faults)], .str r10]) (H := []) Z call29 ⟨(tm Z), (tm Z), trivial⟩ (R := []) (List.Perm.refl _) (spec_pub (v' := .tup [.agg [.sl .no 3 (m0L r11.1.Files), .sl .no 3 (m1L r11.1.Faults)], .i r11.2]) (disk.Sync.ok r11e) (by rintro _ _ ⟨x0, x1, rfl, rfl⟩; exact (pubs_cons (v1 := .tup [.agg [.sl .no 3 (m0L r11.1.Files), .vec x1], .i r11.2]) (PubTo.tup ⟨(PubTo.agg ⟨PubTo.vec, (PubTo.refl _), trivial⟩), (PubTo.refl _), trivial⟩) (pubs_cons (v1 := .tup [.agg [.sl .no 3 (m0L r11.1.Files), .sl .no 3 (m1L r11.1.Faults)], .i r11.2]) (PubTo.tup ⟨(PubTo.agg ⟨(PubTo.refl _), PubTo.vec, trivial⟩), (PubTo.refl _), trivial⟩) (pubs_nil vr))))) (by rintro _ _ ⟨rfl, rfl⟩; exact ⟨Z, Z⟩)), ym Z Z Z, yp Z (pe Z), yp Z (pe Z), stepg_plain Z (op_store (i := 0) (cs' := [.sl .no 3 (m0L r11.1.Files), .sl .no 3 (m1L r11.1.Faults)]) Z sizeOf25 (tm Z) (v := .agg [.sl .no 3 (m0L r11.1.Files), .sl .no 3 (m1L r11.1.Faults)]) (tm Z) Z Z Z (nb Z) Z ⟨Z, Z⟩), ym Z Z Z, trivial⟩
 refine aw_seq (xr (xy Z (xz (bn (r11.2 = 0)) Z (xe (cn h Z (fun _ h => ?_) (fun _ h => ?_))))))
 refine xr (xL 1 isAgg25 sizeOf25 Z (xy Z (xs 0 [.sl .no 3 (m0L r11.1.Files), .sl .no 3 (m1L r11.1.Faults)] sizeOf25 Z (xy Z (xe (aw_ret ?_))))))
 cases h
 exact rq [.agg [.sl .no 3 (m0L r11.1.Files), .sl .no 3 (m1L r11.1.Faults)], .i r11.2] ⟨Z, Z⟩ (AV.Le.tup cr) ⟨(CellOk.agg 0 (tm Z) Z isAgg25 sizeOf25 (nb Z) Z), (tm Z), trivial⟩ w0
 refine aw_skip (aw_seq ?_)
 obtain ⟨r12, r12e, h⟩ := bind_some h
 obtain ⟨r13, r13e, h⟩ := bind_some h
 refine aw_planR (by decide +kernel) [[(1, 0, false)], [], [], [], [], [], [], [(0, 0, true)], []] [[7], []] [[[(p9, .cells [.sl .full 3 e0L, .sl .full 3 e1L])], [(p9, .cells [.sl .no 3 (m0L r13.1.Files), .sl .no 3 (m1L r13.1.Faults)])]], [[(p8, .cells [.sl .no 3 (m0L r11.1.Files), .sl .no 3 (m1L r11.1.Faults)])]]] [.agg [.sl .no 3 (m0L r11.1.Files), .sl .no 3 (m1L r11.1.Faults)], .str name, .str r12, .str name, .tup [.agg [.sl .no 3 (m0L r13.1.Files), .sl .no 3 (m1L r13.1.Faults)], .i r13.2], .agg [.sl .no 3 (m0L r13.1.Files), .sl .no 3 (m1L r13.1.Faults)], .i r13.2, .un, .i r13.2] (by decide +kernel) Z Z ?_ ?_
 exact ⟨stepg_plain Z (op_loadN (i := 0) Z isAgg25 sizeOf25 (tm Z) Z (nb Z) Z ⟨Z, Z⟩), ym Z Z Z, stepg_plain Z (op_call (vs := [.str name]) (H := []) Z call12 ⟨(tm Z), trivial⟩ (R := []) (List.Perm.refl _) (restore.Other.ok r12e) (by rintro _ _ ⟨rfl, rfl⟩; exact ⟨Z, Z⟩)), ym Z Z Z, stepg_plain Z (op_call (vs := [.agg [.sl .no 3 (m0L r11.1.Files), .sl .no 3 (m1L r11.1.Faults)], .str r12, .str name]) (H := []) Z call47 ⟨(tm Z), (tm Z), (tm Z), trivial⟩ (R := []) (List.Perm.refl _) (spec_pub (v' := .tup [.agg [.sl .no 3 (m0L r13.1.Files), .sl .no 3 (m1L r13.1.Faults)], .i r13.2]) (disk.Rename.ok r13e) (by rintro _ _ ⟨x0, x1, rfl, rfl⟩; exact (pubs_cons (v1 := .tup [.agg [.sl .no 3 (m0L r13.1.Files), .vec x1], .i r13.2]) (PubTo.tup ⟨(PubTo.agg ⟨PubTo.vec, (PubTo.refl _), trivial⟩), (PubTo.refl _), trivial⟩) (pubs_cons (v1 := .tup [.agg [.sl .no 3 (m0L r13.1.Files), .sl .no 3 (m1L r13.1.Faults)], .i r13.2]) (PubTo.tup ⟨(PubTo.agg ⟨(PubTo.refl _), PubTo.vec, trivial⟩), (PubTo.refl _), trivial⟩) (pubs_nil vr))))) (by rintro _ _ ⟨rfl, rfl⟩; exact ⟨Z, Z⟩)), yp Z (pe Z), yp Z (pe Z), stepg_plain Z (op_store (i := 0) (cs' := [.sl .no 3 (m0L r13.1.Files), .sl .no 3 (m1L r13.1.Faults)]) Z sizeOf25 (tm Z) (v := .agg [.sl .no 3 (m0L r13.1.Files), .sl .no 3 (m1L r13.1.Faults)]) (tm Z) Z Z Z (nb Z) Z ⟨Z, Z⟩), ym Z Z Z, trivial⟩
 refine aw_ret ?_
 cases h
 exact rq [.agg [.sl .no 3 (m0L r13.1.Files), .sl .no 3 (m1L r13.1.Faults)], .i r13.2] ⟨Z, Z⟩ (AV.Le.tup cr) ⟨(CellOk.agg 0 (tm Z) Z isAgg25 sizeOf25 (nb Z) Z), (tm Z), trivial⟩ w0

theorem mewsref16.Rename.ok {d from_ to r} (h : mewsref16.Rename d from_ to = some r) : Sp prog 48 [.agg [.sl .no 3 (m0L d.Files), .sl .no 3 (m1L d.Faults)], .str from_, .str to] [] (fun v H => v = .tup [.agg [.sl .no 3 (m0L r.1.Files), .sl .no 3 (m1L r.1.Faults)], .i r.2] ∧ H = []) := by
 unfold mewsref16.Rename at h
 refine sb [.cell 6 25, .tmp 7] func48 Z (xr (xb [.sl .no 3 (m0L d.Files), .sl .no 3 (m1L d.Faults)] Z fun p158 => xA (.agg [.sl .full 3 e0L, .sl .full 3 e1L]) zeroValue25 Z fun p159 => xz (.i 0) Z (xe (xr (xL 1 isAgg25 sizeOf25 Z (xy Z ?_))))))
 obtain ⟨r160, r160e, h⟩ := bind_some h
 refine xo (mewsref16.Find.ok r160e) call31 Z (xy Z (xz (.agg [.str r160.1.Name, .str r160.1.Data, .i r160.1.Synced]) Z (xz (.bool r160.2) Z (xA (.agg [.str nS, .str nS, .i 0]) zeroValue60 Z fun p161 => xs 0 [.str r160.1.Name, .str r160.1.Data, .i r160.1.Synced] sizeOf60 Z (xy Z (xe (aw_seq (xr (xy Z (xz (.bool (!r160.2)) Z (xe (cb h Z (fun _ h => ?_) (fun _ h => ?_)))))))))))))
 refine xr (xL 2 isAgg25 sizeOf25 Z (xs 1 [.sl .no 3 (m0L d.Files), .sl .no 3 (m1L d.Faults)] sizeOf25 Z (xz (.i 8) Z (xe (aw_ret ?_)))))
 cases h
 exact rq [.agg [.sl .no 3 (m0L d.Files), .sl .no 3 (m1L d.Faults)], .i 8] ⟨Z, Z⟩ (AV.Le.tup cr) ⟨(CellOk.agg 1 (tm Z) Z isAgg25 sizeOf25 (nb Z) Z), (tm Z), trivial⟩ w0
 refine aw_skip (xr (xL 2 isAgg25 sizeOf25 Z (xy Z ?_)))
 obtain ⟨r162, r162e, h⟩ := bind_some h
 refine xk (mewsref16.Meets.ok r162e) call62 Z ?_
 rintro _ _ ⟨t163, rfl, rfl⟩
 refine xy Z (xz (.agg [.sl .no 3 (m0L r162.1.Files), .sl (.own t163) 3 (m1L r162.1.Faults)]) Z (xz (.agg [.str r162.2.1.Name, .i r162.2.1.Kind, .i r162.2.1.Short]) Z (xz (.bool r162.2.2) Z (xA (.agg [.str nS, .i 0, .i 0]) zeroValue79 Z fun p164 => xs 4 [.sl .no 3 (m0L r162.1.Files), .sl (.own t163) 3 (m1L r162.1.Faults)] sizeOf25 Z (xs 0 [.str r162.2.1.Name, .i r162.2.1.Kind, .i r162.2.1.Short] sizeOf79 Z (xy Z (xe (aw_seq (xr (xy Z (xe (cb h Z (fun _ h => ?_) (fun _ h => ?_)))))))))))))
 refine xr (xL 4 isAgg25 sizeOf25 Z (xs 3 [.sl .no 3 (m0L r162.1.Files), .sl (.own t163) 3 (m1L r162.1.Faults)] sizeOf25 Z (xz (.i 15) Z (xe (aw_ret ?_)))))
 cases h
 exact rq [.agg [.sl .no 3 (m0L r162.1.Files), .sl (.own t163) 3 (m1L r162.1.Faults)], .i 15] ⟨Z, Z⟩ (AV.Le.tup ⟨(AV.Le.agg ⟨vr, (AV.Le.forget _ _ _), trivial⟩), vr, trivial⟩) ⟨(CellOk.agg 3 (tm Z) Z isAgg25 sizeOf25 (nb Z) Z), (tm Z), trivial⟩ w0
 refine aw_skip ?_
 obtain ⟨s168, s168e, h169⟩ := bind_some h
 refine aw_meet (ν := Unit) (fun v => [(1, .str from_), (2, .str to), (3, .ptr p158 0), (6, .ptr p159 0), (8, .ptr p161 0)]) (fun v => [(p158, .cells [.sl .no 3 (m0L s168.1), .sl .no 3 (m1L s168.2)]), (p159, .cells [.sl .full 3 e0L, .sl .full 3 e1L]), (p161, .cells [.str r160.1.Name, .str r160.1.Data, .i r160.1.Synced])]) ?_ ?_
 have h := s168e
 refine xr (xy Z (xy Z (xa (bn (from_ = to)) Z (pu_str (v := bn (from_ = to)) Z Z (tm Z) (tm Z) Z) (xe (cn h Z (fun _ h => ?_) (fun _ h => ?_))))))
 refine aw_region (xL 4 isAgg25 sizeOf25 Z (xy Z ?_))
 obtain ⟨r171, r171e, h⟩ := bind_some h
 refine xc Z (op_call (vs := [.agg [.sl .no 3 (m0L r162.1.Files), .sl .no 3 (m1L r162.1.Faults)], .str to]) (H := []) Z call30 ⟨(AEv.le (tm Z) (AV.Le.agg ⟨vr, (AV.Le.forget _ _ _), trivial⟩)), (tm Z), trivial⟩ (List.Perm.refl _) (mewsref16.Remove.ok r171e) ?_)
 rintro _ _ ⟨t172, rfl, rfl⟩
 refine xs 5 [.sl (.own t172) 3 (m0L r171.Files), .sl .no 3 (m1L r171.Faults)] sizeOf25 Z (xe ?_)
 cases h
 exact ⟨(), wl [5, 4, 3] Z ⟨⟨_, Z, ⟨(AV.Le.forget _ _ _), vr, trivial⟩, Z⟩, ⟨_, Z, cr, Z⟩, ⟨_, Z, cr, Z⟩, trivial⟩ ⟨tm Z, tm Z, tm Z, tm Z, tm Z, trivial⟩⟩
 refine aw_skip ?_
 cases h
 exact ⟨(), wl [4, 3, 2] Z ⟨⟨_, Z, ⟨vr, (AV.Le.forget _ _ _), trivial⟩, Z⟩, ⟨_, Z, cr, Z⟩, ⟨_, Z, cr, Z⟩, trivial⟩ ⟨tm Z, tm Z, tm Z, tm Z, tm Z, trivial⟩⟩
 intro _
 have h := h169
 refine xr (xL 0 isAgg25 sizeOf25 Z ?_)
 obtain ⟨r174, r174e, h⟩ := bind_some h
 refine xk (mewsref16.Files.ok r174e) call35 Z ?_
 rintro _ _ ⟨t175, rfl, rfl⟩
 refine xy Z (xe (xr (xf (.ptr p158 1) underlying25 sizeOf23 Z (xl 1 isAgg23 Z (xa (.agg [.sl .full 3 e0L, .sl .no 3 (m1L s168.2)]) Z (pu_build (zs := [.sl .full 3 e0L, .sl .full 3 e1L]) (szs := [1, 1]) (aparts := [(1, .sl .no 3 (m1L s168.2))]) (cs := [.sl .full 3 e0L, .sl .no 3 (m1L s168.2)]) Z underlying25 zeroValue25 Z ⟨sizeOf22, sizeOf23, trivial⟩ ⟨Z, (tm Z), trivial⟩ Z) (xA (.agg [.sl .full 3 e0L, .sl .full 3 e1L]) zeroValue25 Z fun p176 => xs 0 [.sl .full 3 e0L, .sl .no 3 (m1L s168.2)] sizeOf25 Z (xe ?_)))))))
 obtain ⟨s243, s243e, h245⟩ := bind_some h
 refine aw_meet (ν := Nat) (fun v => [(6, .ptr p159 0), (13, .ptr p176 0)]) (fun v => [(p159, .cells [.sl .full 3 e0L, .sl .full 3 e1L]), (p176, .cells [.sl (.own v) 3 (m0L s243), .sl .no 3 (m1L s168.2)]), (v, .spare)]) ?_ ?_
 have h := s243e
 refine xr (xz (.i 0) Z (xe (aw_block (aw_claimCell 0 0 Z Z fun t312 => (aw_while (σ := mewsref16.Rename.S0) (ν := Nat) (mewsref16.Rename.body0 r174 from_ r160 to) (fun s288 v => [(1, .str from_), (2, .str to), (6, .ptr p159 0), (8, .ptr p161 0), (12, .sl (.own t175) 3 (m0L r174)), (13, .ptr p176 0), (14, .i s288.i)]) (fun s288 v => [(p159, .cells [.sl .full 3 e0L, .sl .full 3 e1L]), (p161, .cells [.str s288.c, .str r160.1.Data, .i r160.1.Synced]), (t175, .spare), (p176, .cells [.sl (.own v) 3 (m0L s288.c2), .sl .no 3 (m1L s168.2)]), (v, .spare)]) ⟨0, r160.1.Name, ([] : List api.File)⟩ t312 _ h (wi [4, 5, 2, 1, 0] Z) ?_)))))
 rintro s288 n289 x291 h hx290
 unfold mewsref16.Rename.body0 at h
 refine aw_seq (xr (xy Z (xy Z (xa (.i (r174.length : Int)) Z (pu_lenM Z underlying22 (tm Z)) (xz (bd (s288.i < (r174.length : Int))) Z (xe (cd h Z (fun _ h => ?_) (fun _ h => ?_))))))))
 refine aw_skip ?_
 obtain ⟨s300, s300e, h302⟩ := bind_some h
 refine aw_meet (ν := Nat) (fun v => [(1, .str from_), (2, .str to), (6, .ptr p159 0), (8, .ptr p161 0), (12, .sl (.own t175) 3 (m0L r174)), (13, .ptr p176 0), (14, .i s288.i)]) (fun v => [(p159, .cells [.sl .full 3 e0L, .sl .full 3 e1L]), (p161, .cells [.str s300.1, .str r160.1.Data, .i r160.1.Synced]), (t175, .spare), (p176, .cells [.sl (.own v) 3 (m0L s300.2), .sl .no 3 (m1L s168.2)]), (v, .spare)]) ?_ ?_
 have h := s300e
 refine aw_block (xr (xy Z (xy Z ?_)))
 obtain ⟨c304, h⟩ := need_of h
 refine xa (.vptr [.str (ix r174 s288.i).Name, .str (ix r174 s288.i).Data, .i (ix r174 s288.i).Synced]) Z (pu_indexAddrM Z underlying22 sizeOf60 (tm Z) (tm Z) c304 Z) (xf (.vptr [.str (ix r174 s288.i).Name, .str (ix r174 s288.i).Data, .i (ix r174 s288.i).Synced]) underlying60 sizeOf9 Z (xc Z (op_loadV1 Z isAgg9 (tm Z) Z (xy Z (xa (bd ((ix r174 s288.i).Name = from_)) Z (pu_str (v := bd ((ix r174 s288.i).Name = from_)) Z Z (tm Z) (tm Z) Z) (xe (cd h Z (fun _ h => ?_) (fun _ h => ?_))))))))
 refine xr (xy Z (xf (.ptr p161 0) underlying60 sizeOf9 Z (xs 1 [.str to, .str r160.1.Data, .i r160.1.Synced] sizeOf9 Z (xe (aw_region (xf (.ptr p176 0) underlying25 sizeOf22 Z (xl 3 isAgg22 Z (xL 1 isAgg60 sizeOf60 Z ?_))))))))
 refine xc Z (op_buildSlice (xs := ([{ r160.1 with Name := to }] : List api.File).map api.File.av) (aparts := [(0, .agg [.str to, .str r160.1.Data, .i r160.1.Synced])]) Z underlying22 sizeOf60 zeroValue60 (by decide) (by decide) ⟨Z, (tm Z), trivial⟩ Z Z Z ?_)
 obtain ⟨c305, h⟩ := need_of h
 refine xc Z (op_appendOM (q := 4) Z underlying22 underlying22 (.inl Z) typeInfo60 Z Z Z (by decide) (tm Z) Z (given_sl (tm Z)) c305 ?_)
 intro t306
 refine xf (.ptr p176 0) underlying25 sizeOf22 Z (xs 3 [.sl (.own t306) 3 (m0L (s288.c2 ++ [{ r160.1 with Name := to }])), .sl .no 3 (m1L s168.2)] sizeOf22 Z (xe ?_))
 cases h
 exact ⟨t306, wl [0, 1, 2, 3, 4] Z ⟨⟨_, Z, cr, Z⟩, ⟨_, Z, cr, Z⟩, ⟨_, Z, Z⟩, ⟨_, Z, ⟨vr, vr, trivial⟩, Z⟩, ⟨_, Z, Z⟩, trivial⟩ ⟨tm Z, tm Z, tm Z, tm Z, tm Z, tm Z, tm Z, trivial⟩⟩
 obtain ⟨c307, h⟩ := need_of h
 obtain ⟨c308, h⟩ := need_of h
 refine aw_reserve fun p309 => (aw_planR (by decide +kernel) [[], [(4, 0, false)], [], [], [], [], [], [(5, 0, true), (0, 0, true)], [], [(4, 0, true)]] [[7], [], [], [], [9], [7]] [[[(p309, .resv)], [(p309, .spare)]], [[(p159, .cells [.sl .full 3 e0L, .sl .full 3 e1L])]], [[(p161, .cells [.str s288.c, .str r160.1.Data, .i r160.1.Synced])]], [[(t175, .spare)]], [[(p176, .cells [.sl (.own n289) 3 (m0L s288.c2), .sl .no 3 (m1L s168.2)])], [(p176, .cells [.sl (.own p309) 3 (m0L (s288.c2 ++ [(ix r174 s288.i)])), .sl .no 3 (m1L s168.2)])]], [[(n289, .spare)], []]] [.ptr p176 0, .sl (.own n289) 3 (m0L s288.c2), .sl (.own t175) 3 (m0L r174), .i s288.i, .vptr [.str (ix r174 s288.i).Name, .str (ix r174 s288.i).Data, .i (ix r174 s288.i).Synced], .agg [.str (ix r174 s288.i).Name, .str (ix r174 s288.i).Data, .i (ix r174 s288.i).Synced], .sl .full 3 ([(ix r174 s288.i)].map api.File.av), .sl (.own p309) 3 (m0L (s288.c2 ++ [(ix r174 s288.i)])), .ptr p176 0, .un] (by decide +kernel) Z Z ?_ ?_)
 exact ⟨yp Z (fa Z underlying25 Z sizeOf22 Z Z Z), stepg_plain Z (op_load1 (i := 0) Z isAgg22 (tm Z) Z Z ⟨Z, Z⟩), ym Z Z Z, ym Z Z Z, yp Z (pu_indexAddrM Z underlying22 sizeOf60 (tm Z) (tm Z) c307 Z), stepg_plain Z (op_loadVN Z isAgg60 sizeOf60 (tm Z) (nb Z) Z ⟨Z, Z⟩), stepg_plain Z (op_buildSlice (xs := ([(ix r174 s288.i)] : List api.File).map api.File.av) (aparts := [(0, .agg [.str (ix r174 s288.i).Name, .str (ix r174 s288.i).Data, .i (ix r174 s288.i).Synced])]) Z underlying22 sizeOf60 zeroValue60 (by decide) (by decide) ⟨Z, (tm Z), trivial⟩ Z Z Z ⟨Z, Z⟩), stepg_plain Z (aop_settleS (op_appendOM (q := 0) Z underlying22 underlying22 (.inl Z) typeInfo60 Z Z Z (by decide) (tm Z) Z (given_sl (tm Z)) c308 fun t => ⟨t, Z, Z⟩) ⟨Z, Z⟩), yp Z (fa Z underlying25 Z sizeOf22 Z Z Z), stepg_plain Z (op_store (i := 0) (cs' := [.sl (.own p309) 3 (m0L (s288.c2 ++ [(ix r174 s288.i)])), .sl .no 3 (m1L s168.2)]) Z sizeOf22 (tm Z) (v := .sl (.own p309) 3 (m0L (s288.c2 ++ [(ix r174 s288.i)]))) (tm Z) Z Z Z (nb Z) Z ⟨Z, Z⟩), trivial⟩
 cases h
 exact ⟨p309, wl [1, 2, 3, 4, 0] Z ⟨⟨_, Z, cr, Z⟩, ⟨_, Z, cr, Z⟩, ⟨_, Z, Z⟩, ⟨_, Z, ⟨vr, vr, trivial⟩, Z⟩, ⟨_, Z, Z⟩, trivial⟩ ⟨tm Z, tm Z, tm Z, tm Z, tm Z, tm Z, tm Z, trivial⟩⟩
 intro n301
 have h := h302
 refine aw_region (xy Z (xz (.i (w64 (s288.i + 1))) Z (xy Z (xe ?_))))
 cases h
 exact ⟨_, n301, Z, wi [0, 1, 2, 3, 4] Z⟩
 refine aw_exit ?_
 cases h
 cases congrArg some (hx290 _ rfl)
 exact ⟨n289, wi [0, 3, 4] Z⟩
 intro n244
 have h := h245
 refine xr (xL 1 isAgg25 sizeOf25 Z (xs 0 [.sl (.own n244) 3 (m0L s243), .sl .no 3 (m1L s168.2)] sizeOf25 Z (xz (.i 0) Z (xe (aw_ret ?_)))))
 cases h
 exact rq [.agg [.sl (.own n244) 3 (m0L s243), .sl .no 3 (m1L s168.2)], .i 0] ⟨Z, Z⟩ (AV.Le.tup ⟨(AV.Le.agg ⟨(AV.Le.forget _ _ _), vr, trivial⟩), vr, trivial⟩) ⟨(CellOk.agg 0 (tm Z) Z isAgg25 sizeOf25 (nb Z) Z), (tm Z), trivial⟩ w0

theorem mewsref18.Swap.ok {d name r} (h : mewsref18.Swap d name = some r) : Sp prog 20 [.agg [.sl .no 3 (m0L d.Files), .sl .no 3 (m1L d.Faults)], .str name] [] (fun v H => v = .tup [.agg [.sl .no 3 (m0L r.1.Files), .sl .no 3 (m1L r.1.Faults)], .i r.2] ∧ H = []) := by
 unfold mewsref18.Swap at h
 refine sb [.cell 4 25, .tmp 5] func20 Z (xr (xb [.sl .no 3 (m0L d.Files), .sl .no 3 (m1L d.Faults)] Z fun p8 => xA (.agg [.sl .full 3 e0L, .sl .full 3 e1L]) zeroValue25 Z fun p9 => xz (.i 0) Z (xe (xr (xL 1 isAgg25 sizeOf25 Z (xy Z ?_))))))
 obtain ⟨c10, h⟩ := need_of h
 refine xa (.str (name ++ [46, 110, 101, 119])) Z (pu_strAdd Z (tm Z) (AEv.const Z) c10) ?_
 obtain ⟨r11, r11e, h⟩ := bind_some h
 refine xo (mewsref16.Sync.ok r11e) call34 Z (xy Z (xz (.agg [.sl .no 3 (m0L r11.1.Files), .sl .no 3 (m1L r11.1.Faults)]) Z (xz (.i r11.2) Z (xs 1 [.sl .no 3 (m0L r11.1.Files), .sl .no 3 (m1L r11.1.Faults)] sizeOf25 Z (xy Z (xe (aw_seq (xr (xy Z ?_)))))))))
 refine xz (bn (r11.2 = 0)) Z (xe (cn h Z (fun _ h => ?_) (fun _ h => ?_)))
 refine xr (xL 1 isAgg25 sizeOf25 Z (xy Z (xs 0 [.sl .no 3 (m0L r11.1.Files), .sl .no 3 (m1L r11.1.Faults)] sizeOf25 Z (xy Z (xe (aw_ret ?_))))))
 cases h
 exact rq [.agg [.sl .no 3 (m0L r11.1.Files), .sl .no 3 (m1L r11.1.Faults)], .i r11.2] ⟨Z, Z⟩ (AV.Le.tup cr) ⟨(CellOk.agg 0 (tm Z) Z isAgg25 sizeOf25 (nb Z) Z), (tm Z), trivial⟩ w0
 refine aw_skip (xr (xL 1 isAgg25 sizeOf25 Z (xy Z ?_)))
 obtain ⟨c12, h⟩ := need_of h
 refine xa (.str (name ++ [46, 110, 101, 119])) Z (pu_strAdd Z (tm Z) (AEv.const Z) c12) (xy Z ?_)
 obtain ⟨r13, r13e, h⟩ := bind_some h
 refine xo (mewsref16.Rename.ok r13e) call48 Z (xz (.agg [.sl .no 3 (m0L r13.1.Files), .sl .no 3 (m1L r13.1.Faults)]) Z (xz (.i r13.2) Z (xs 0 [.sl .no 3 (m0L r13.1.Files), .sl .no 3 (m1L r13.1.Faults)] sizeOf25 Z (xy Z (xe (aw_ret ?_))))))
 cases h
 exact rq [.agg [.sl .no 3 (m0L r13.1.Files), .sl .no 3 (m1L r13.1.Faults)], .i r13.2] ⟨Z, Z⟩ (AV.Le.tup cr) ⟨(CellOk.agg 0 (tm Z) Z isAgg25 sizeOf25 (nb Z) Z), (tm Z), trivial⟩ w0

theorem aof.Open.ok {name policy quota size now r} (h : aof.Open name policy quota size now = some r) : Sp prog 49 [.str name, .i policy, .i quota, .i size, .i now] [] (fun v H => v = .agg [.str r.Name, .i r.Policy, .i r.Quota, .i r.Size, .str r.Pending, .i r.Logged, .i r.Durable, .sl .full 1 (r.Ends.map (AV.int .i64)), .i r.Last] ∧ H = []) := by
 unfold aof.Open at h
 refine sb [.cell 10 43] func49 Z (xr (xA (.agg [.str nS, .i 0, .i 0, .i 0, .str nS, .i 0, .i 0, .sl .full 1 (([] : List Int).map (AV.int .i64)), .i 0]) zeroValue43 Z fun p2 => xe (xr (xy Z (xy Z (xy Z (xy Z (xa (.i (if size < 0 then 0 else size)) Z (pu_max2 Z (tm Z) (AEv.int _ _)) (xy Z (xa (.agg [.str name, .i policy, .i quota, .i (if size < 0 then 0 else size), .str nS, .i 0, .i 0, .sl .full 1 (([] : List Int).map (AV.int .i64)), .i now]) Z (pu_build (zs := [.str nS, .i 0, .i 0, .i 0, .str nS, .i 0, .i 0, .sl .full 1 (([] : List Int).map (AV.int .i64)), .i 0]) (szs := [1, 1, 1, 1, 1, 1, 1, 1, 1]) (aparts := [(0, .str name), (1, .i policy), (2, .i quota), (3, .i (if size < 0 then 0 else size)), (8, .i now)]) (cs := [.str name, .i policy, .i quota, .i (if size < 0 then 0 else size), .str nS, .i 0, .i 0, .sl .full 1 (([] : List Int).map (AV.int .i64)), .i now]) Z underlying43 zeroValue43 Z ⟨sizeOf9, sizeOf3, sizeOf3, sizeOf3, sizeOf9, sizeOf3, sizeOf3, sizeOf41, sizeOf2, trivial⟩ ⟨Z, (tm Z), ⟨Z, (tm Z), ⟨Z, (tm Z), ⟨Z, (tm Z), ⟨Z, (tm Z), trivial⟩⟩⟩⟩⟩ Z) ?_))))))))))
 refine xs 0 [.str name, .i policy, .i quota, .i (if size < 0 then 0 else size), .str nS, .i 0, .i 0, .sl .full 1 (([] : List Int).map (AV.int .i64)), .i now] sizeOf43 Z (xe (aw_ret ?_))
 cases h
 exact rq [.agg [.str name, .i policy, .i quota, .i (if size < 0 then 0 else size), .str nS, .i 0, .i 0, .sl .full 1 (([] : List Int).map (AV.int .i64)), .i now]] ⟨Z, Z⟩ vr ⟨(CellOk.agg 0 (tm Z) Z isAgg43 sizeOf43 (nb Z) Z), trivial⟩ w0

theorem restore.Anew.ok {d g l now r} (h : restore.Anew d g l now = some r) : Sp prog 21 [.agg [.sl .no 3 (m0L d.Files), .sl .no 3 (m1L d.Faults)], .agg (api.Log.ct .no g), .sl .no 1 (m7L l), .i now] [] (fun v H => v = .tup [.agg [.sl .no 3 (m0L r.1.Files), .sl .no 3 (m1L r.1.Faults)], .agg [.str r.2.1.Name, .i r.2.1.Policy, .i r.2.1.Quota, .i r.2.1.Size, .str r.2.1.Pending, .i r.2.1.Logged, .i r.2.1.Durable, .sl .no 1 (r.2.1.Ends.map (AV.int .i64)), .i r.2.1.Last], .i r.2.2] ∧ H = []) := by
 unfold restore.Anew at h
 refine sb [.cell 8 25, .cell 9 43, .tmp 10] func21 Z (xr (xb [.sl .no 3 (m0L d.Files), .sl .no 3 (m1L d.Faults)] Z fun p24 => xb (api.Log.ct .no g) Z fun p25 => xA (.agg [.sl .full 3 e0L, .sl .full 3 e1L]) zeroValue25 Z fun p26 => xA (.agg [.str nS, .i 0, .i 0, .i 0, .str nS, .i 0, .i 0, .sl .full 1 (([] : List Int).map (AV.int .i64)), .i 0]) zeroValue43 Z fun p27 => xz (.i 0) Z (xe (xr (xy Z ?_)))))
 obtain ⟨r28, r28e, h⟩ := bind_some h
 refine xo (restore.bytes.ok r28e) call44 Z (xy Z (xz (.str r28.1) Z (xz (.i r28.2) Z (xy Z (xy Z (xe (aw_seq (aw_block (aw_seq (aw_region ?_))))))))))
 refine xy Z (xz (bn (r28.2 = 0)) Z (xy Z (xe (cn h Z (fun _ h => ?_) (fun _ h => ?_)))))
 refine aw_seq (aw_planR (by decide +kernel) [[(3, 0, false)], [(2, 0, false)], [], [(1, 0, true)], [(0, 0, true)], []] [[4], [3], [], []] [[[(p27, .cells [.str nS, .i 0, .i 0, .i 0, .str nS, .i 0, .i 0, .sl .full 1 (([] : List Int).map (AV.int .i64)), .i 0])], [(p27, .cells (api.Log.ct .no g))]], [[(p26, .cells [.sl .full 3 e0L, .sl .full 3 e1L])], [(p26, .cells [.sl .no 3 (m0L d.Files), .sl .no 3 (m1L d.Faults)])]], [[(p25, .cells (api.Log.ct .no g))]], [[(p24, .cells [.sl .no 3 (m0L d.Files), .sl .no 3 (m1L d.Faults)])]]] [.agg [.sl .no 3 (m0L d.Files), .sl .no 3 (m1L d.Faults)], .agg (api.Log.ct .no g), .i r28.2, .un, .un, .i r28.2] (by decide +kernel) Z Z ?_ ?_)
 exact ⟨stepg_plain Z (op_loadN (i := 0) Z isAgg25 sizeOf25 (tm Z) Z (nb Z) Z ⟨Z, Z⟩), stepg_plain Z (op_loadN (i := 0) Z isAgg43 sizeOf43 (tm Z) Z (nb Z) Z ⟨Z, Z⟩), ym Z Z Z, stepg_plain Z (op_store (i := 0) (cs' := [.sl .no 3 (m0L d.Files), .sl .no 3 (m1L d.Faults)]) Z sizeOf25 (tm Z) (v := .agg [.sl .no 3 (m0L d.Files), .sl .no 3 (m1L d.Faults)]) (tm Z) Z Z Z (nb Z) Z ⟨Z, Z⟩), stepg_plain Z (op_store (i := 0) (cs' := (api.Log.ct .no g)) Z sizeOf43 (tm Z) (v := .agg (api.Log.ct .no g)) (tm Z) Z Z Z (nb Z) Z ⟨Z, Z⟩), ym Z Z Z, trivial⟩
 refine aw_ret ?_
 cases h
 exact rq [.agg [.sl .no 3 (m0L d.Files), .sl .no 3 (m1L d.Faults)], .agg (api.Log.ct .no g), .i r28.2] ⟨Z, Z⟩ (AV.Le.tup cr) ⟨(CellOk.agg 1 (tm Z) Z isAgg25 sizeOf25 (nb Z) Z), (CellOk.agg 0 (tm Z) Z isAgg43 sizeOf43 (nb Z) Z), (tm Z), trivial⟩ w0
 refine xr (xy Z (xa (.i (r28.1.length : Int)) Z (pu_strLen Z underlying9 (tm Z)) (xf (.ptr p25 2) underlying43 sizeOf3 Z (xl 2 isAgg3 Z (xz (bd (g.Quota < (r28.1.length : Int))) Z (xy Z (xe (cd h Z (fun _ h => ?_) (fun _ h => ?_)))))))))
 refine aw_seq (aw_planR (by decide +kernel) [[(3, 0, false)], [(2, 0, false)], [(1, 0, true)], [(0, 0, true)], []] [[3], [2], [], []] [[[(p27, .cells [.str nS, .i 0, .i 0, .i 0, .str nS, .i 0, .i 0, .sl .full 1 (([] : List Int).map (AV.int .i64)), .i 0])], [(p27, .cells (api.Log.ct .no g))]], [[(p26, .cells [.sl .full 3 e0L, .sl .full 3 e1L])], [(p26, .cells [.sl .no 3 (m0L d.Files), .sl .no 3 (m1L d.Faults)])]], [[(p25, .cells (api.Log.ct .no g))]], [[(p24, .cells [.sl .no 3 (m0L d.Files), .sl .no 3 (m1L d.Faults)])]]] [.agg [.sl .no 3 (m0L d.Files), .sl .no 3 (m1L d.Faults)], .agg (api.Log.ct .no g), .un, .un, .i 11] (by decide +kernel) Z Z ?_ ?_)
 exact ⟨stepg_plain Z (op_loadN (i := 0) Z isAgg25 sizeOf25 (tm Z) Z (nb Z) Z ⟨Z, Z⟩), stepg_plain Z (op_loadN (i := 0) Z isAgg43 sizeOf43 (tm Z) Z (nb Z) Z ⟨Z, Z⟩), stepg_plain Z (op_store (i := 0) (cs' := [.sl .no 3 (m0L d.Files), .sl .no 3 (m1L d.Faults)]) Z sizeOf25 (tm Z) (v := .agg [.sl .no 3 (m0L d.Files), .sl .no 3 (m1L d.Faults)]) (tm Z) Z Z Z (nb Z) Z ⟨Z, Z⟩), stepg_plain Z (op_store (i := 0) (cs' := (api.Log.ct .no g)) Z sizeOf43 (tm Z) (v := .agg (api.Log.ct .no g)) (tm Z) Z Z Z (nb Z) Z ⟨Z, Z⟩), yp Z (pe Z), trivial⟩
 refine aw_ret ?_
 cases h
 exact rq [.agg [.sl .no 3 (m0L d.Files), .sl .no 3 (m1L d.Faults)], .agg (api.Log.ct .no g), .i 11] ⟨Z, Z⟩ (AV.Le.tup cr) ⟨(CellOk.agg 1 (tm Z) Z isAgg25 sizeOf25 (nb Z) Z), (CellOk.agg 0 (tm Z) Z isAgg43 sizeOf43 (nb Z) Z), (tm Z), trivial⟩ w0
 refine aw_skip (aw_seq ?_)
 obtain ⟨r29, r29e, h⟩ := bind_some h
 obtain ⟨r30, r30e, h⟩ := bind_some h
 obtain ⟨r31, r31e, h⟩ := bind_some h
 obtain ⟨r32, r32e, h⟩ := bind_some h
 refine aw_planR (by decide +kernel) [[(3, 0, false)], [], [(2, 0, false)], [], [], [], [(2, 0, false)], [], [], [], [], [], [], [], [(3, 0, true)], []] [[], [], [], [14]] [[[(p27, .cells [.str nS, .i 0, .i 0, .i 0, .str nS, .i 0, .i 0, .sl .full 1 (([] : List Int).map (AV.int .i64)), .i 0])]], [[(p26, .cells [.sl .full 3 e0L, .sl .full 3 e1L])]], [[(p25, .cells (api.Log.ct .no g))]], [[(p24, .cells [.sl .no 3 (m0L d.Files), .sl .no 3 (m1L d.Faults)])], [(p24, .cells [.sl .no 3 (m0L r32.1.Files), .sl .no 3 (m1L r32.1.Faults)])]]] [.agg [.sl .no 3 (m0L d.Files), .sl .no 3 (m1L d.Faults)], .ptr p25 0, .str g.Name, .str r29, .agg [.sl .no 3 (m0L r30.Files), .sl .no 3 (m1L r30.Faults)], .ptr p25 0, .str g.Name, .str r31, .str r28.1, .tup [.agg [.sl .no 3 (m0L r32.1.Files), .sl .no 3 (m1L r32.1.Faults)], .i r32.2.1, .i r32.2.2], .tup [.agg [.sl .no 3 (m0L r32.1.Files), .sl .no 3 (m1L r32.1.Faults)], .i r32.2.1, .i r32.2.2], .agg [.sl .no 3 (m0L r32.1.Files), .sl .no 3 (m1L r32.1.Faults)], .i r32.2.1, .i r32.2.2, .un, .i r32.2.2] (by decide +kernel) Z Z ?_ ?_
 exact ⟨stepg_plain Z (op_loadN (i := 0) Z isAgg25 sizeOf25 (tm Z) Z (nb Z) Z ⟨Z, Z⟩), yp Z (fa Z underlying43 Z sizeOf9 Z Z Z), stepg_plain Z (op_load1 (i := 0) Z isAgg9 (tm Z) Z Z ⟨Z, Z⟩), stepg_plain Z (op_call (vs := [.str g.Name]) (H := []) Z call12 ⟨(tm Z), trivial⟩ (R := []) (List.Perm.refl _) (restore.Other.ok r29e) (by rintro _ _ ⟨rfl, rfl⟩; exact ⟨Z, Z⟩)), stepg_plain Z (op_call (vs := [.agg [.sl .no 3 (m0L d.Files), .sl .no 3 (m1L d.Faults)], .str r29]) (H := []) Z call25 ⟨(tm Z), (tm Z), trivial⟩ (R := []) (List.Perm.refl _) (spec_pub (v' := .agg [.sl .no 3 (m0L r30.Files), .sl .no 3 (m1L r30.Faults)]) (disk.Remove.ok r30e) (by rintro _ _ ⟨x0, x1, rfl, rfl⟩; exact (pubs_cons (v1 := .agg [.sl .no 3 (m0L r30.Files), .vec x1]) (PubTo.agg ⟨PubTo.vec, (PubTo.refl _), trivial⟩) (pubs_cons (v1 := .agg [.sl .no 3 (m0L r30.Files), .sl .no 3 (m1L r30.Faults)]) (PubTo.agg ⟨(PubTo.refl _), PubTo.vec, trivial⟩) (pubs_nil vr))))) (by rintro _ _ ⟨rfl, rfl⟩; exact ⟨Z, Z⟩)), yp Z (fa Z underlying43 Z sizeOf9 Z Z Z), stepg_plain Z (op_load1 (i := 0) Z isAgg9 (tm Z) Z Z ⟨Z, Z⟩), stepg_plain Z (op_call (vs := [.str g.Name]) (H := []) Z call12 ⟨(tm Z), trivial⟩ (R := []) (List.Perm.refl _) (restore.Other.ok r31e) (by rintro _ _ ⟨rfl, rfl⟩; exact ⟨Z, Z⟩)), ym Z Z Z, stepg_plain Z (op_call (vs := [.agg [.sl .no 3 (m0L r30.Files), .sl .no 3 (m1L r30.Faults)], .str r31, .str r28.1]) (H := []) Z call45 ⟨(tm Z), (tm Z), (tm Z), trivial⟩ (R := []) (List.Perm.refl _) (spec_pub (v' := .tup [.agg [.sl .no 3 (m0L r32.1.Files), .sl .no 3 (m1L r32.1.Faults)], .i r32.2.1, .i r32.2.2]) (disk.Write.ok r32e) (by rintro _ _ ⟨x0, x1, rfl, rfl⟩; exact (pubs_cons (v1 := .tup [.agg [.sl .no 3 (m0L r32.1.Files), .vec x1], .i r32.2.1, .i r32.2.2]) (PubTo.tup ⟨(PubTo.agg ⟨PubTo.vec, (PubTo.refl _), trivial⟩), (PubTo.refl _), (PubTo.refl _), trivial⟩) (pubs_cons (v1 := .tup [.agg [.sl .no 3 (m0L r32.1.Files), .sl .no 3 (m1L r32.1.Faults)], .i r32.2.1, .i r32.2.2]) (PubTo.tup ⟨(PubTo.agg ⟨(PubTo.refl _), PubTo.vec, trivial⟩), (PubTo.refl _), (PubTo.refl _), trivial⟩) (pubs_nil vr))))) (by rintro _ _ ⟨rfl, rfl⟩; exact ⟨Z, Z⟩)), ym Z Z Z, yp Z (pe Z), yp Z (pe Z), yp Z (pe Z), stepg_plain Z (op_store (i := 0) (cs' := [.sl .no 3 (m0L r32.1.Files), .sl .no 3 (m1L r32.1.Faults)]) Z sizeOf25 (tm Z) (v := .agg [.sl .no 3 (m0L r32.1.Files), .sl .no 3 (m1L r32.1.Faults)]) (tm Z) Z Z Z (nb Z) Z ⟨Z, Z⟩), ym Z Z Z, trivial⟩
 obtain ⟨s35, s35e, h36⟩ := bind_some h
 refine aw_meet (ν := Unit) (fun v => [(3, .i now), (4, .ptr p24 0), (5, .ptr p25 0), (8, .ptr p26 0), (9, .ptr p27 0), (11, .str r28.1), (12, .i s35.1)]) (fun v => [(p24, .cells [.sl .no 3 (m0L s35.2.1), .sl .no 3 (m1L s35.2.2)]), (p25, .cells (api.Log.ct .no g)), (p26, .cells [.sl .full 3 e0L, .sl .full 3 e1L]), (p27, .cells [.str nS, .i 0, .i 0, .i 0, .str nS, .i 0, .i 0, .sl .full 1 (([] : List Int).map (AV.int .i64)), .i 0])]) ?_ ?_
 have h := s35e
 refine xr (xy Z (xz (bd (r32.2.2 = 0)) Z (xe (cd h Z (fun _ h => ?_) (fun _ h => ?_)))))
 refine aw_region (xL 3 isAgg25 sizeOf25 Z (xf (.ptr p25 0) underlying43 sizeOf9 Z (xl 2 isAgg9 Z ?_)))
 obtain ⟨r38, r38e, h⟩ := bind_some h
 refine xo (restore.Swap.ok r38e) call19 Z (xy Z (xz (.agg [.sl .no 3 (m0L r38.1.Files), .sl .no 3 (m1L r38.1.Faults)]) Z (xz (.i r38.2) Z (xs 3 [.sl .no 3 (m0L r38.1.Files), .sl .no 3 (m1L r38.1.Faults)] sizeOf25 Z (xy Z (xe ?_))))))
 cases h
 exact ⟨(), wi [3, 2, 1, 0] Z⟩
 refine aw_skip ?_
 cases h
 exact ⟨(), wi [3, 2, 1, 0] Z⟩
 intro _
 have h := h36
 refine aw_seq (xr (xy Z (xz (bn (s35.1 = 0)) Z (xe (cn h Z (fun _ h => ?_) (fun _ h => ?_))))))
 refine aw_seq ?_
 obtain ⟨r40, r40e, h⟩ := bind_some h
 obtain ⟨r41, r41e, h⟩ := bind_some h
 refine aw_planR (by decide +kernel) [[(0, 0, false)], [], [(1, 0, false)], [], [], [(1, 0, false)], [], [(2, 0, true)], [(3, 0, true)], []] [[], [], [7], [8]] [[[(p24, .cells [.sl .no 3 (m0L s35.2.1), .sl .no 3 (m1L s35.2.2)])]], [[(p25, .cells (api.Log.ct .no g))]], [[(p26, .cells [.sl .full 3 e0L, .sl .full 3 e1L])], [(p26, .cells [.sl .no 3 (m0L r41.Files), .sl .no 3 (m1L r41.Faults)])]], [[(p27, .cells [.str nS, .i 0, .i 0, .i 0, .str nS, .i 0, .i 0, .sl .full 1 (([] : List Int).map (AV.int .i64)), .i 0])], [(p27, .cells (api.Log.ct .no g))]]] [.agg [.sl .no 3 (m0L s35.2.1), .sl .no 3 (m1L s35.2.2)], .ptr p25 0, .str g.Name, .str r40, .agg [.sl .no 3 (m0L r41.Files), .sl .no 3 (m1L r41.Faults)], .agg (api.Log.ct .no g), .i s35.1, .un, .un, .i s35.1] (by decide +kernel) Z Z ?_ ?_
 exact ⟨stepg_plain Z (op_loadN (i := 0) Z isAgg25 sizeOf25 (tm Z) Z (nb Z) Z ⟨Z, Z⟩), yp Z (fa Z underlying43 Z sizeOf9 Z Z Z), stepg_plain Z (op_load1 (i := 0) Z isAgg9 (tm Z) Z Z ⟨Z, Z⟩), stepg_plain Z (op_call (vs := [.str g.Name]) (H := []) Z call12 ⟨(tm Z), trivial⟩ (R := []) (List.Perm.refl _) (restore.Other.ok r40e) (by rintro _ _ ⟨rfl, rfl⟩; exact ⟨Z, Z⟩)), stepg_plain Z (op_call (vs := [.agg [.sl .no 3 (m0L s35.2.1), .sl .no 3 (m1L s35.2.2)], .str r40]) (H := []) Z call25 ⟨(tm Z), (tm Z), trivial⟩ (R := []) (List.Perm.refl _) (spec_pub (v' := .agg [.sl .no 3 (m0L r41.Files), .sl .no 3 (m1L r41.Faults)]) (disk.Remove.ok r41e) (by rintro _ _ ⟨x0, x1, rfl, rfl⟩; exact (pubs_cons (v1 := .agg [.sl .no 3 (m0L r41.Files), .vec x1]) (PubTo.agg ⟨PubTo.vec, (PubTo.refl _), trivial⟩) (pubs_cons (v1 := .agg [.sl .no 3 (m0L r41.Files), .sl .no 3 (m1L r41.Faults)]) (PubTo.agg ⟨(PubTo.refl _), PubTo.vec, trivial⟩) (pubs_nil vr))))) (by rintro _ _ ⟨rfl, rfl⟩; exact ⟨Z, Z⟩)), stepg_plain Z (op_loadN (i := 0) Z isAgg43 sizeOf43 (tm Z) Z (nb Z) Z ⟨Z, Z⟩), ym Z Z Z, stepg_plain Z (op_store (i := 0) (cs' := [.sl .no 3 (m0L r41.Files), .sl .no 3 (m1L r41.Faults)]) Z sizeOf25 (tm Z) (v := .agg [.sl .no 3 (m0L r41.Files), .sl .no 3 (m1L r41.Faults)]) (tm Z) Z Z Z (nb Z) Z ⟨Z, Z⟩), stepg_plain Z (op_store (i := 0) (cs' := (api.Log.ct .no g)) Z sizeOf43 (tm Z) (v := .agg (api.Log.ct .no g)) (tm Z) Z Z Z (nb Z) Z ⟨Z, Z⟩), ym Z Z Z, trivial⟩
 refine aw_ret ?_
 cases h
 exact rq [.agg [.sl .no 3 (m0L r41.Files), .sl .no 3 (m1L r41.Faults)], .agg (api.Log.ct .no g), .i s35.1] ⟨Z, Z⟩ (AV.Le.tup cr) ⟨(CellOk.agg 2 (tm Z) Z isAgg25 sizeOf25 (nb Z) Z), (CellOk.agg 3 (tm Z) Z isAgg43 sizeOf43 (nb Z) Z), (tm Z), trivial⟩ w0
 refine aw_skip (xr (xf (.ptr p25 0) underlying43 sizeOf9 Z (xl 1 isAgg9 Z (xf (.ptr p25 1) underlying43 sizeOf3 Z (xl 1 isAgg3 Z (xf (.ptr p25 2) underlying43 sizeOf3 Z (xl 1 isAgg3 Z (xy Z ?_))))))))
 refine xa (.i (r28.1.length : Int)) Z (pu_strLen Z underlying9 (tm Z)) (xy Z ?_)
 obtain ⟨r42, r42e, h⟩ := bind_some h
 refine xo (aof.Open.ok r42e) call49 Z (xA (.agg [.str nS, .i 0, .i 0, .i 0, .str nS, .i 0, .i 0, .sl .full 1 (([] : List Int).map (AV.int .i64)), .i 0]) zeroValue43 Z fun p43 => xs 0 (api.Log.ct .full r42) sizeOf43 Z (xe (aw_seq (aw_planR (by decide +kernel) [[], [(2, 0, false)], [], [(2, 0, false)], [], [(0, 0, true)], [], [(0, 1, true)]] [[5, 7], [], [], [], []] [[[(p43, .cells (api.Log.ct .full r42))], [(p43, .cells (api.Log.ct .full { r42 with Logged := g.Logged }))], [(p43, .cells (api.Log.ct .full { r42 with Logged := g.Logged, Durable := g.Logged }))]], [[(p24, .cells [.sl .no 3 (m0L s35.2.1), .sl .no 3 (m1L s35.2.2)])]], [[(p25, .cells (api.Log.ct .no g))]], [[(p26, .cells [.sl .full 3 e0L, .sl .full 3 e1L])]], [[(p27, .cells [.str nS, .i 0, .i 0, .i 0, .str nS, .i 0, .i 0, .sl .full 1 (([] : List Int).map (AV.int .i64)), .i 0])]]] [.ptr p25 5, .i g.Logged, .ptr p25 5, .i g.Logged, .ptr p43 5, .un, .ptr p43 6, .un] (by decide +kernel) Z Z ?_ ?_))))
 exact ⟨yp Z (fa Z underlying43 Z sizeOf3 Z Z Z), stepg_plain Z (op_load1 (i := 0) Z isAgg3 (tm Z) Z Z ⟨Z, Z⟩), yp Z (fa Z underlying43 Z sizeOf3 Z Z Z), stepg_plain Z (op_load1 (i := 0) Z isAgg3 (tm Z) Z Z ⟨Z, Z⟩), yp Z (fa Z underlying43 Z sizeOf3 Z Z Z), stepg_plain Z (op_store (i := 0) (cs' := (api.Log.ct .full { r42 with Logged := g.Logged })) Z sizeOf3 (tm Z) (v := .i g.Logged) (tm Z) Z Z Z (nb Z) Z ⟨Z, Z⟩), yp Z (fa Z underlying43 Z sizeOf3 Z Z Z), stepg_plain Z (op_store (i := 0) (cs' := (api.Log.ct .full { r42 with Logged := g.Logged, Durable := g.Logged })) Z sizeOf3 (tm Z) (v := .i g.Logged) (tm Z) Z Z Z (nb Z) Z ⟨Z, Z⟩), trivial⟩
 refine aw_seq (aw_planR (by decide +kernel) [[(1, 0, false)], [(0, 0, false)], [(3, 0, true)], [(4, 0, true)], []] [[], [], [], [2], [3]] [[[(p43, .cells (api.Log.ct .full { r42 with Logged := g.Logged, Durable := g.Logged }))]], [[(p24, .cells [.sl .no 3 (m0L s35.2.1), .sl .no 3 (m1L s35.2.2)])]], [[(p25, .cells (api.Log.ct .no g))]], [[(p26, .cells [.sl .full 3 e0L, .sl .full 3 e1L])], [(p26, .cells [.sl .no 3 (m0L s35.2.1), .sl .no 3 (m1L s35.2.2)])]], [[(p27, .cells [.str nS, .i 0, .i 0, .i 0, .str nS, .i 0, .i 0, .sl .full 1 (([] : List Int).map (AV.int .i64)), .i 0])], [(p27, .cells (api.Log.ct .full { r42 with Logged := g.Logged, Durable := g.Logged }))]]] [.agg [.sl .no 3 (m0L s35.2.1), .sl .no 3 (m1L s35.2.2)], .agg (api.Log.ct .full { r42 with Logged := g.Logged, Durable := g.Logged }), .un, .un, .i 0] (by decide +kernel) Z Z ?_ ?_)
 exact ⟨stepg_plain Z (op_loadN (i := 0) Z isAgg25 sizeOf25 (tm Z) Z (nb Z) Z ⟨Z, Z⟩), stepg_plain Z (op_loadN (i := 0) Z isAgg43 sizeOf43 (tm Z) Z (nb Z) Z ⟨Z, Z⟩), stepg_plain Z (op_store (i := 0) (cs' := [.sl .no 3 (m0L s35.2.1), .sl .no 3 (m1L s35.2.2)]) Z sizeOf25 (tm Z) (v := .agg [.sl .no 3 (m0L s35.2.1), .sl .no 3 (m1L s35.2.2)]) (tm Z) Z Z Z (nb Z) Z ⟨Z, Z⟩), stepg_plain Z (op_store (i := 0) (cs' := (api.Log.ct .full { r42 with Logged := g.Logged, Durable := g.Logged })) Z sizeOf43 (tm Z) (v := .agg (api.Log.ct .full { r42 with Logged := g.Logged, Durable := g.Logged })) (tm Z) Z Z Z (nb Z) Z ⟨Z, Z⟩), yp Z (pe Z), trivial⟩
 refine aw_ret ?_
 cases h
 exact rq [.agg [.sl .no 3 (m0L s35.2.1), .sl .no 3 (m1L s35.2.2)], .agg (api.Log.ct .full { r42 with Logged := g.Logged, Durable := g.Logged }), .i 0] ⟨Z, Z⟩ (AV.Le.tup ⟨vr, (AV.Le.agg ⟨vr, vr, vr, vr, vr, vr, vr, (AV.Le.forget _ _ _), vr, trivial⟩), vr, trivial⟩) ⟨(CellOk.agg 3 (tm Z) Z isAgg25 sizeOf25 (nb Z) Z), (CellOk.agg 4 (tm Z) Z isAgg43 sizeOf43 (nb Z) Z), (tm Z), trivial⟩ w0

theorem mewsref18.Anew.ok {d name quota l r} (h : mewsref18.Anew d name quota l = some r) : Sp prog 22 [.agg [.sl .no 3 (m0L d.Files), .sl .no 3 (m1L d.Faults)], .str name, .i quota, .sl .no 1 (m7L l)] [] (fun v H => v = .tup [.agg [.sl .no 3 (m0L r.1.Files), .sl .no 3 (m1L r.1.Faults)], .i r.2.1, .i r.2.2] ∧ H = []) := by
 unfold mewsref18.Anew at h
 refine sb [.cell 8 25, .tmp 9, .tmp 10] func22 Z (xr (xb [.sl .no 3 (m0L d.Files), .sl .no 3 (m1L d.Faults)] Z fun p23 => xA (.agg [.sl .full 3 e0L, .sl .full 3 e1L]) zeroValue25 Z fun p24 => xz (.i 0) Z (xz (.i 0) Z (xe (xr (xy Z ?_))))))
 obtain ⟨r25, r25e, h⟩ := bind_some h
 refine xo (mewsref18.Bytes.ok r25e) call13 Z (xy Z (xz (.str r25.1) Z (xz (.i r25.2) Z (xy Z (xy Z (xe (aw_seq (xr (xy Z ?_)))))))))
 refine xz (bn (r25.2 = 0)) Z (xe (cn h Z (fun _ h => ?_) (fun _ h => ?_)))
 refine xr (xL 1 isAgg25 sizeOf25 Z (xy Z (xs 0 [.sl .no 3 (m0L d.Files), .sl .no 3 (m1L d.Faults)] sizeOf25 Z (xz (.i 0) Z (xy Z (xe (aw_ret ?_)))))))
 cases h
 exact rq [.agg [.sl .no 3 (m0L d.Files), .sl .no 3 (m1L d.Faults)], .i 0, .i r25.2] ⟨Z, Z⟩ (AV.Le.tup cr) ⟨(CellOk.agg 0 (tm Z) Z isAgg25 sizeOf25 (nb Z) Z), (tm Z), (tm Z), trivial⟩ w0
 refine aw_skip (aw_seq (xr (xy Z (xa (.i (r25.1.length : Int)) Z (pu_strLen Z underlying9 (tm Z)) (xy Z (xz (bd (quota < (r25.1.length : Int))) Z (xe (cd h Z (fun _ h => ?_) (fun _ h => ?_)))))))))
 refine xr (xL 1 isAgg25 sizeOf25 Z (xs 0 [.sl .no 3 (m0L d.Files), .sl .no 3 (m1L d.Faults)] sizeOf25 Z (xz (.i 0) Z (xz (.i 11) Z (xe (aw_ret ?_))))))
 cases h
 exact rq [.agg [.sl .no 3 (m0L d.Files), .sl .no 3 (m1L d.Faults)], .i 0, .i 11] ⟨Z, Z⟩ (AV.Le.tup cr) ⟨(CellOk.agg 0 (tm Z) Z isAgg25 sizeOf25 (nb Z) Z), (tm Z), (tm Z), trivial⟩ w0
 refine aw_skip (xr (xL 1 isAgg25 sizeOf25 Z (xy Z ?_)))
 obtain ⟨c26, h⟩ := need_of h
 refine xa (.str (name ++ [46, 110, 101, 119])) Z (pu_strAdd Z (tm Z) (AEv.const Z) c26) ?_
 obtain ⟨r27, r27e, h⟩ := bind_some h
 refine xk (mewsref16.Remove.ok r27e) call30 Z ?_
 rintro _ _ ⟨t28, rfl, rfl⟩
 refine xs 2 [.sl (.own t28) 3 (m0L r27.Files), .sl .no 3 (m1L r27.Faults)] sizeOf25 Z (xe (xr (xL 2 isAgg25 sizeOf25 Z (xy Z ?_))))
 obtain ⟨c29, h⟩ := need_of h
 refine xa (.str (name ++ [46, 110, 101, 119])) Z (pu_strAdd Z (tm Z) (AEv.const Z) c29) (xy Z ?_)
 obtain ⟨r30, r30e, h⟩ := bind_some h
 refine xc Z (op_call (vs := [.agg [.sl .no 3 (m0L r27.Files), .sl .no 3 (m1L r27.Faults)], .str (name ++ [46, 110, 101, 119]), .str r25.1]) (H := []) Z call46 ⟨(AEv.le (tm Z) (AV.Le.agg ⟨(AV.Le.forget _ _ _), vr, trivial⟩)), (tm Z), (tm Z), trivial⟩ (List.Perm.refl _) (mewsref16.Write.ok r30e) ?_)
 rintro _ _ ⟨t31, rfl, rfl⟩
 refine xy Z (xz (.agg [.sl (.own t31) 3 (m0L r30.1.Files), .sl .no 3 (m1L r30.1.Faults)]) Z (xz (.i r30.2.1) Z (xz (.i r30.2.2) Z (xs 3 [.sl (.own t31) 3 (m0L r30.1.Files), .sl .no 3 (m1L r30.1.Faults)] sizeOf25 Z (xy Z (xe ?_))))))
 obtain ⟨s34, s34e, h35⟩ := bind_some h
 refine aw_meet (ν := Unit) (fun v => [(1, .str name), (4, .ptr p23 0), (8, .ptr p24 0), (11, .str r25.1), (12, .i s34.1)]) (fun v => [(p23, .cells [.sl .no 3 (m0L s34.2.1), .sl .no 3 (m1L s34.2.2)]), (p24, .cells [.sl .full 3 e0L, .sl .full 3 e1L])]) ?_ ?_
 have h := s34e
 refine xr (xy Z (xz (bd (r30.2.2 = 0)) Z (xe (cd h Z (fun _ h => ?_) (fun _ h => ?_)))))
 refine aw_region (xL 3 isAgg25 sizeOf25 Z (xy Z ?_))
 obtain ⟨r37, r37e, h⟩ := bind_some h
 refine xc Z (op_call (vs := [.agg [.sl .no 3 (m0L r30.1.Files), .sl .no 3 (m1L r30.1.Faults)], .str name]) (H := []) Z call20 ⟨(AEv.le (tm Z) (AV.Le.agg ⟨(AV.Le.forget _ _ _), vr, trivial⟩)), (tm Z), trivial⟩ (List.Perm.refl _) (mewsref18.Swap.ok r37e) ?_)
 rintro _ _ ⟨rfl, rfl⟩
 refine xy Z (xz (.agg [.sl .no 3 (m0L r37.1.Files), .sl .no 3 (m1L r37.1.Faults)]) Z (xz (.i r37.2) Z (xs 3 [.sl .no 3 (m0L r37.1.Files), .sl .no 3 (m1L r37.1.Faults)] sizeOf25 Z (xy Z (xe ?_)))))
 cases h
 exact ⟨(), wi [3, 2] Z⟩
 refine aw_skip ?_
 cases h
 exact ⟨(), wl [3, 2] Z ⟨⟨_, Z, ⟨(AV.Le.forget _ _ _), vr, trivial⟩, Z⟩, ⟨_, Z, cr, Z⟩, trivial⟩ ⟨tm Z, tm Z, tm Z, tm Z, tm Z, trivial⟩⟩
 intro _
 have h := h35
 refine aw_seq (xr (xy Z (xz (bn (s34.1 = 0)) Z (xe (cn h Z (fun _ h => ?_) (fun _ h => ?_))))))
 refine xr (xL 0 isAgg25 sizeOf25 Z (xy Z ?_))
 obtain ⟨c39, h⟩ := need_of h
 refine xa (.str (name ++ [46, 110, 101, 119])) Z (pu_strAdd Z (tm Z) (AEv.const Z) c39) ?_
 obtain ⟨r40, r40e, h⟩ := bind_some h
 refine xk (mewsref16.Remove.ok r40e) call30 Z ?_
 rintro _ _ ⟨t41, rfl, rfl⟩
 refine xy Z (xs 2 [.sl (.own t41) 3 (m0L r40.Files), .sl .no 3 (m1L r40.Faults)] sizeOf25 Z (xz (.i 0) Z (xy Z (xe (aw_ret ?_)))))
 cases h
 exact rq [.agg [.sl (.own t41) 3 (m0L r40.Files), .sl .no 3 (m1L r40.Faults)], .i 0, .i s34.1] ⟨Z, Z⟩ (AV.Le.tup ⟨(AV.Le.agg ⟨(AV.Le.forget _ _ _), vr, trivial⟩), vr, vr, trivial⟩) ⟨(CellOk.agg 2 (tm Z) Z isAgg25 sizeOf25 (nb Z) Z), (tm Z), (tm Z), trivial⟩ w0
 refine aw_skip (xr (xL 0 isAgg25 sizeOf25 Z (xy Z (xa (.i (r25.1.length : Int)) Z (pu_strLen Z underlying9 (tm Z)) (xs 1 [.sl .no 3 (m0L s34.2.1), .sl .no 3 (m1L s34.2.2)] sizeOf25 Z (xy Z (xz (.i 0) Z (xe ?_))))))))
 refine aw_ret ?_
 cases h
 exact rq [.agg [.sl .no 3 (m0L s34.2.1), .sl .no 3 (m1L s34.2.2)], .i (r25.1.length : Int), .i 0] ⟨Z, Z⟩ (AV.Le.tup cr) ⟨(CellOk.agg 1 (tm Z) Z isAgg25 sizeOf25 (nb Z) Z), (tm Z), (tm Z), trivial⟩ w0

theorem mewsref17.Same.ok {a b r} (h : mewsref17.Same a b = some r) : Sp prog 23 [.agg (api.Log.ct .no a), .agg (api.Log.ct .no b)] [] (fun v H => v = .bool r ∧ H = []) := by
 unfold mewsref17.Same at h
 refine sb [.tmp 4] func23 Z (xr (xb (api.Log.ct .no a) Z fun p61 => xb (api.Log.ct .no b) Z fun p62 => xz (.bool false) Z (xe (aw_seq (xr (xf (.ptr p61 7) underlying43 sizeOf41 Z (xl 1 isAgg41 Z (xa (.i (a.Ends.length : Int)) Z (pu_lenM Z underlying41 (tm Z)) (xf (.ptr p62 7) underlying43 sizeOf41 Z (xl 0 isAgg41 Z ?_))))))))))
 refine xa (.i (b.Ends.length : Int)) Z (pu_lenM Z underlying41 (tm Z)) (xz (bn ((a.Ends.length : Int) = (b.Ends.length : Int))) Z (xe (cn h Z (fun _ h => ?_) (fun _ h => ?_))))
 refine xr (xz (.bool false) Z (xe (aw_ret ?_)))
 cases h
 exact rt ⟨Z, Z⟩ Z w0
 refine aw_skip ?_
 obtain ⟨s119, s119e, h82⟩ := bind_some h
 refine aw_join (σ := Unit) (ν := Unit) (fun u v => [(2, .ptr p61 0), (3, .ptr p62 0)]) (fun u v => [(p61, .cells (api.Log.ct .no a)), (p62, .cells (api.Log.ct .no b))]) (fun u => s119 = .inl u) ?_ ?_
 intro s81
 intro _
 rintro rfl
 have h := onSum_inl h82
 obtain ⟨s109, s109e, h110⟩ := letO_of h
 refine aw_meet (ν := Unit) (fun v => [(4, .bool s109)]) (fun v => []) ?_ ?_
 have h := s109e.symm
 refine aw_region (xf (.ptr p61 0) underlying43 sizeOf9 Z (xl 0 isAgg9 Z (xf (.ptr p62 0) underlying43 sizeOf9 Z (xl 1 isAgg9 Z (xa (bd (a.Name = b.Name)) Z (pu_str (v := bd (a.Name = b.Name)) Z Z (tm Z) (tm Z) Z) (xy Z ?_))))))
 rcases Bool.eq_false_or_eq_true (decide (a.Name = b.Name)) with hb112 | hb112
 replace h := ite_t (dec_t hb112) h
 refine aops_known 36 Z hb112 (xp (.ptr p61 1) Z Z (fa Z underlying43 Z sizeOf3 Z Z Z) (xg Z Z (op_load1 (i := 0) Z isAgg3 (tm Z) Z Z (xp (.ptr p62 1) Z Z (fa Z underlying43 Z sizeOf3 Z Z Z) (xg Z Z (op_load1 (i := 1) Z isAgg3 (tm Z) Z Z (xp (bd (a.Policy = b.Policy)) Z Z (pe Z) (xz (bd (a.Policy = b.Policy)) Z (xy Z ?_)))))))))
 rcases Bool.eq_false_or_eq_true (decide (a.Policy = b.Policy)) with hb113 | hb113
 replace h := ite_t (dec_t hb113) h
 refine aops_known 43 Z hb113 (xp (.ptr p61 2) Z Z (fa Z underlying43 Z sizeOf3 Z Z Z) (xg Z Z (op_load1 (i := 0) Z isAgg3 (tm Z) Z Z (xp (.ptr p62 2) Z Z (fa Z underlying43 Z sizeOf3 Z Z Z) (xg Z Z (op_load1 (i := 1) Z isAgg3 (tm Z) Z Z (xp (bd (a.Quota = b.Quota)) Z Z (pe Z) (xz (bd (a.Quota = b.Quota)) Z (xy Z ?_)))))))))
 rcases Bool.eq_false_or_eq_true (decide (a.Quota = b.Quota)) with hb114 | hb114
 replace h := ite_t (dec_t hb114) h
 refine aops_known 50 Z hb114 (xp (.ptr p61 3) Z Z (fa Z underlying43 Z sizeOf3 Z Z Z) (xg Z Z (op_load1 (i := 0) Z isAgg3 (tm Z) Z Z (xp (.ptr p62 3) Z Z (fa Z underlying43 Z sizeOf3 Z Z Z) (xg Z Z (op_load1 (i := 1) Z isAgg3 (tm Z) Z Z (xp (bd (a.Size = b.Size)) Z Z (pe Z) (xz (bd (a.Size = b.Size)) Z (xy Z ?_)))))))))
 rcases Bool.eq_false_or_eq_true (decide (a.Size = b.Size)) with hb115 | hb115
 replace h := ite_t (dec_t hb115) h
 refine aops_known 57 Z hb115 (xp (.ptr p61 4) Z Z (fa Z underlying43 Z sizeOf9 Z Z Z) (xg Z Z (op_load1 (i := 0) Z isAgg9 (tm Z) Z Z (xp (.ptr p62 4) Z Z (fa Z underlying43 Z sizeOf9 Z Z Z) (xg Z Z (op_load1 (i := 1) Z isAgg9 (tm Z) Z Z (xp (bd (a.Pending = b.Pending)) Z Z (pu_str (v := bd (a.Pending = b.Pending)) Z Z (tm Z) (tm Z) Z) (xz (bd (a.Pending = b.Pending)) Z (xy Z ?_)))))))))
 rcases Bool.eq_false_or_eq_true (decide (a.Pending = b.Pending)) with hb116 | hb116
 replace h := ite_t (dec_t hb116) h
 refine aops_known 64 Z hb116 (xp (.ptr p61 5) Z Z (fa Z underlying43 Z sizeOf3 Z Z Z) (xg Z Z (op_load1 (i := 0) Z isAgg3 (tm Z) Z Z (xp (.ptr p62 5) Z Z (fa Z underlying43 Z sizeOf3 Z Z Z) (xg Z Z (op_load1 (i := 1) Z isAgg3 (tm Z) Z Z (xp (bd (a.Logged = b.Logged)) Z Z (pe Z) (xz (bd (a.Logged = b.Logged)) Z (xy Z ?_)))))))))
 rcases Bool.eq_false_or_eq_true (decide (a.Logged = b.Logged)) with hb117 | hb117
 replace h := ite_t (dec_t hb117) h
 refine aops_known 71 Z hb117 (xp (.ptr p61 6) Z Z (fa Z underlying43 Z sizeOf3 Z Z Z) (xg Z Z (op_load1 (i := 0) Z isAgg3 (tm Z) Z Z (xp (.ptr p62 6) Z Z (fa Z underlying43 Z sizeOf3 Z Z Z) (xg Z Z (op_load1 (i := 1) Z isAgg3 (tm Z) Z Z (xp (bd (a.Durable = b.Durable)) Z Z (pe Z) (xz (bd (a.Durable = b.Durable)) Z (xy Z ?_)))))))))
 rcases Bool.eq_false_or_eq_true (decide (a.Durable = b.Durable)) with hb118 | hb118
 replace h := ite_t (dec_t hb118) h
 refine aops_known 78 Z hb118 (xp (.ptr p61 8) Z Z (fa Z underlying43 Z sizeOf2 Z Z Z) (xg Z Z (op_load1 (i := 0) Z isAgg2 (tm Z) Z Z (xp (.ptr p62 8) Z Z (fa Z underlying43 Z sizeOf2 Z Z Z) (xg Z Z (op_load1 (i := 1) Z isAgg2 (tm Z) Z Z (xp (bd (a.Last = b.Last)) Z Z (pe Z) (xz (bd (a.Last = b.Last)) Z (xy Z (xe ?_))))))))))
 subst h
 exact ⟨(), wi [] Z⟩
 replace h := ite_f (dec_f hb118) h
 refine aops_known 78 Z hb118 (xu Z (xu Z (xu Z (xu Z (xu Z (xz (.bool false) Z (xy Z (xe ?_))))))))
 subst h
 exact ⟨(), wi [] Z⟩
 replace h := ite_f (dec_f hb117) h
 refine aops_known 71 Z hb117 (xu Z (xu Z (xu Z (xu Z (xu Z (xz (.bool false) Z (xy Z (xu Z (xu Z ?_)))))))))
 refine xu Z (xu Z (xu Z (xz (.bool false) Z (xy Z (xe ?_)))))
 subst h
 exact ⟨(), wi [] Z⟩
 replace h := ite_f (dec_f hb116) h
 refine aops_known 64 Z hb116 (xu Z (xu Z (xu Z (xu Z (xu Z (xz (.bool false) Z (xy Z (xu Z (xu Z ?_)))))))))
 refine xu Z (xu Z (xu Z (xz (.bool false) Z (xy Z (xu Z (xu Z (xu Z (xu Z (xu Z ?_)))))))))
 refine xz (.bool false) Z (xy Z (xe ?_))
 subst h
 exact ⟨(), wi [] Z⟩
 replace h := ite_f (dec_f hb115) h
 refine aops_known 57 Z hb115 (xu Z (xu Z (xu Z (xu Z (xu Z (xz (.bool false) Z (xy Z (xu Z (xu Z ?_)))))))))
 refine xu Z (xu Z (xu Z (xz (.bool false) Z (xy Z (xu Z (xu Z (xu Z (xu Z (xu Z ?_)))))))))
 refine xz (.bool false) Z (xy Z (xu Z (xu Z (xu Z (xu Z (xu Z (xz (.bool false) Z (xy Z (xe ?_)))))))))
 subst h
 exact ⟨(), wi [] Z⟩
 replace h := ite_f (dec_f hb114) h
 refine aops_known 50 Z hb114 (xu Z (xu Z (xu Z (xu Z (xu Z (xz (.bool false) Z (xy Z (xu Z (xu Z ?_)))))))))
 refine xu Z (xu Z (xu Z (xz (.bool false) Z (xy Z (xu Z (xu Z (xu Z (xu Z (xu Z ?_)))))))))
 refine xz (.bool false) Z (xy Z (xu Z (xu Z (xu Z (xu Z (xu Z (xz (.bool false) Z (xy Z (xu Z ?_)))))))))
 refine xu Z (xu Z (xu Z (xu Z (xz (.bool false) Z (xy Z (xe ?_))))))
 subst h
 exact ⟨(), wi [] Z⟩
 replace h := ite_f (dec_f hb113) h
 refine aops_known 43 Z hb113 (xu Z (xu Z (xu Z (xu Z (xu Z (xz (.bool false) Z (xy Z (xu Z (xu Z ?_)))))))))
 refine xu Z (xu Z (xu Z (xz (.bool false) Z (xy Z (xu Z (xu Z (xu Z (xu Z (xu Z ?_)))))))))
 refine xz (.bool false) Z (xy Z (xu Z (xu Z (xu Z (xu Z (xu Z (xz (.bool false) Z (xy Z (xu Z ?_)))))))))
 refine xu Z (xu Z (xu Z (xu Z (xz (.bool false) Z (xy Z (xu Z (xu Z (xu Z (xu Z ?_)))))))))
 refine xu Z (xz (.bool false) Z (xy Z (xe ?_)))
 subst h
 exact ⟨(), wi [] Z⟩
 replace h := ite_f (dec_f hb112) h
 refine aops_known 36 Z hb112 (xu Z (xu Z (xu Z (xu Z (xu Z (xz (.bool false) Z (xy Z (xu Z (xu Z ?_)))))))))
 refine xu Z (xu Z (xu Z (xz (.bool false) Z (xy Z (xu Z (xu Z (xu Z (xu Z (xu Z ?_)))))))))
 refine xz (.bool false) Z (xy Z (xu Z (xu Z (xu Z (xu Z (xu Z (xz (.bool false) Z (xy Z (xu Z ?_)))))))))
 refine xu Z (xu Z (xu Z (xu Z (xz (.bool false) Z (xy Z (xu Z (xu Z (xu Z (xu Z ?_)))))))))
 refine xu Z (xz (.bool false) Z (xy Z (xu Z (xu Z (xu Z (xu Z (xu Z (xz (.bool false) Z (xy Z ?_)))))))))
 refine xe ?_
 subst h
 exact ⟨(), wi [] Z⟩
 intro _
 have h := h110
 refine aw_ret ?_
 cases h
 exact rt ⟨Z, Z⟩ Z w0
 have h := s119e
 refine xr (xz (.i 0) Z (xe (aw_block (aw_while (σ := mewsref17.Same.S0) (ν := Unit) (mewsref17.Same.body0 a b) (fun s94 v => [(2, .ptr p61 0), (3, .ptr p62 0), (5, .i s94.i)]) (fun s94 v => [(p61, .cells (api.Log.ct .no a)), (p62, .cells (api.Log.ct .no b))]) ⟨0⟩ () _ h (wi [1, 0] Z) ?_))))
 rintro s94 _ x96 h hx95
 unfold mewsref17.Same.body0 at h
 refine aw_seq (xr (xy Z (xf (.ptr p61 7) underlying43 sizeOf41 Z (xl 0 isAgg41 Z (xa (.i (a.Ends.length : Int)) Z (pu_lenM Z underlying41 (tm Z)) (xz (bd (s94.i < (a.Ends.length : Int))) Z (xe (cd h Z (fun _ h => ?_) (fun _ h => ?_)))))))))
 refine aw_skip (aw_seq (aw_block (aw_seq ?_)))
 obtain ⟨c98, h⟩ := need_of h
 obtain ⟨c99, h⟩ := need_of h
 refine aw_planR (by decide +kernel) [[], [(0, 0, false)], [], [], [], [], [(1, 0, false)], [], [], [], []] [[], []] [[[(p61, .cells (api.Log.ct .no a))]], [[(p62, .cells (api.Log.ct .no b))]]] [.ptr p61 7, .sl .no 1 (a.Ends.map (AV.int .i64)), .i s94.i, .vptr [.i (ix a.Ends s94.i)], .i (ix a.Ends s94.i), .ptr p62 7, .sl .no 1 (b.Ends.map (AV.int .i64)), .i s94.i, .vptr [.i (ix b.Ends s94.i)], .i (ix b.Ends s94.i), bn ((ix a.Ends s94.i) = (ix b.Ends s94.i))] (by decide +kernel) Z Z ?_ ?_
 exact ⟨yp Z (fa Z underlying43 Z sizeOf41 Z Z Z), stepg_plain Z (op_load1 (i := 0) Z isAgg41 (tm Z) Z Z ⟨Z, Z⟩), ym Z Z Z, yp Z (pu_indexAddrM Z underlying41 sizeOf3 (tm Z) (tm Z) c98 Z), stepg_plain Z (op_loadV1 Z isAgg3 (tm Z) Z ⟨Z, Z⟩), yp Z (fa Z underlying43 Z sizeOf41 Z Z Z), stepg_plain Z (op_load1 (i := 0) Z isAgg41 (tm Z) Z Z ⟨Z, Z⟩), ym Z Z Z, yp Z (pu_indexAddrM Z underlying41 sizeOf3 (tm Z) (tm Z) c99 Z), stepg_plain Z (op_loadV1 Z isAgg3 (tm Z) Z ⟨Z, Z⟩), yp Z (pe Z), trivial⟩
 refine aw_cond (b := (!decide ((ix a.Ends s94.i) = (ix b.Ends s94.i)))) (tm Z) (fun hb100 => ?_) (fun hb100 => ?_)
 replace h := ite_f (ndec_t hb100) h
 refine xr (xz (.bool false) Z (xe (aw_ret ?_)))
 cases h
 cases congrArg some (hx95 _ rfl)
 cases onSum_inr h82
 exact rt ⟨Z, Z⟩ Z w0
 replace h := ite_t (ndec_f hb100) h
 refine aw_skip (aw_region (xy Z (xz (.i (w64 (s94.i + 1))) Z (xy Z (xe ?_)))))
 cases h
 exact ⟨_, (), Z, wi [0, 1] Z⟩
 refine aw_exit ?_
 cases h
 have h := congrArg some (hx95 _ rfl)
 exact ⟨(), (), (some_of h).symm, wi [0, 1] Z⟩

theorem mewslaw18.RestoreLays.ok {d g l r} (h : mewslaw18.RestoreLays d g l = some r) : Sp prog 5 [.agg [.sl .no 3 (m0L d.Files), .sl .no 3 (m1L d.Faults)], .agg (api.Log.ct .no g), .sl .no 1 (m7L l)] [] (fun v H => v = .bool r ∧ H = []) := by
 unfold mewslaw18.RestoreLays at h
 refine sb [.tmp 6] func5 Z (xr (xb [.sl .no 3 (m0L d.Files), .sl .no 3 (m1L d.Faults)] Z fun p66 => xb (api.Log.ct .no g) Z fun p67 => xz (.bool false) Z (xe (aw_seq ?_))))
 obtain ⟨s72, s72e, h73⟩ := bind_some h
 refine aw_meet (ν := Unit) (fun v => [(2, .sl .no 1 (m7L l)), (3, .ptr p66 0), (4, .ptr p67 0), (39, .bool s72)]) (fun v => [(p66, .cells [.sl .no 3 (m0L d.Files), .sl .no 3 (m1L d.Faults)]), (p67, .cells (api.Log.ct .no g))]) ?_ ?_
 have h := s72e
 refine aw_region (xL 1 isAgg25 sizeOf25 Z ?_)
 obtain ⟨r75, r75e, h⟩ := bind_some h
 refine xc Z (op_call (vs := [.agg [.sl .no 3 (m0L d.Files), .sl .no 3 (m1L d.Faults)], .sl .no 4 e7L]) (H := []) Z call6 ⟨(tm Z), (AEv.le (AEv.nil 4 (by decide)) (AV.Le.forget _ _ _)), trivial⟩ (List.Perm.refl _) (mewslaw16.Far.ok r75e) ?_)
 rintro _ _ ⟨rfl, rfl⟩
 refine xy Z ?_
 rcases Bool.eq_false_or_eq_true r75 with hb76 | hb76
 replace h := ite_t hb76 h
 refine aops_known 26 Z hb76 (xu Z (xu Z (xz (.bool true) Z (xy Z (xu Z (xu Z (xu Z (xu Z (xu Z ?_)))))))))
 refine xu Z (xu Z (xu Z (xz (.bool true) Z (xe ?_))))
 cases h
 exact ⟨(), wi [1, 0] Z⟩
 replace h := ite_fb hb76 h
 refine aops_known 26 Z hb76 (xq Z Z Z Z ?_)
 obtain ⟨r77, r77e, h⟩ := bind_some h
 refine xg Z Z (op_call (vs := [.sl .no 1 (m7L l)]) (H := []) Z call16 ⟨(tm Z), trivial⟩ (List.Perm.refl _) (mewslaw15.Far.ok r77e) ?_)
 rintro _ _ ⟨rfl, rfl⟩
 refine xz (.bool r77) Z (xy Z ?_)
 rcases Bool.eq_false_or_eq_true r77 with hb78 | hb78
 replace h := ite_t hb78 h
 refine aops_known 30 Z hb78 (xu Z (xu Z (xu Z (xu Z (xu Z (xu Z (xu Z (xu Z (xz (.bool true) Z ?_)))))))))
 refine xe ?_
 cases h
 exact ⟨(), wi [1, 0] Z⟩
 replace h := ite_fb hb78 h
 refine aops_known 30 Z hb78 (xp (.ptr p67 0) Z Z (fa Z underlying43 Z sizeOf9 Z Z Z) (xg Z Z (op_load1 (i := 0) Z isAgg9 (tm Z) Z Z (xp (.i (g.Name.length : Int)) Z Z (pu_strLen Z underlying9 (tm Z)) (xp (.ptr p67 4) Z Z (fa Z underlying43 Z sizeOf9 Z Z Z) (xg Z Z (op_load1 (i := 0) Z isAgg9 (tm Z) Z Z (xp (.i (g.Pending.length : Int)) Z Z (pu_strLen Z underlying9 (tm Z)) (xp (.i (w64 ((g.Name.length : Int) + (g.Pending.length : Int)))) Z Z (pe Z) (xp (bd (300 < (w64 ((g.Name.length : Int) + (g.Pending.length : Int))))) Z Z (pe Z) (xz (bd (300 < (w64 ((g.Name.length : Int) + (g.Pending.length : Int))))) Z ?_)))))))))))
 refine xe ?_
 cases h
 exact ⟨(), wi [1, 0] Z⟩
 intro _
 have h := h73
 refine aw_cond (b := s72) (tm Z) (fun hb130 => ?_) (fun hb130 => ?_)
 replace h := ite_t hb130 h
 refine aw_seq (aw_region ?_)
 obtain ⟨r79, r79e, h⟩ := bind_some h
 refine xo (mewslaw18.alive.ok r79e) call7 Z (xy Z (xe (aw_ret ?_)))
 cases h
 exact rt ⟨Z, Z⟩ Z w0
 replace h := ite_fb hb130 h
 refine aw_skip (xr (xL 0 isAgg25 sizeOf25 Z (xf (.ptr p67 0) underlying43 sizeOf9 Z (xl 1 isAgg9 Z (xy Z ?_)))))
 obtain ⟨r80, r80e, h⟩ := bind_some h
 refine xo (restore.Lay.ok r80e) call17 Z (xy Z (xz (.agg [.sl .no 3 (m0L r80.1.Files), .sl .no 3 (m1L r80.1.Faults)]) Z (xz (.i r80.2.1) Z (xz (.i r80.2.2) Z (xA (.agg [.sl .full 3 e0L, .sl .full 3 e1L]) zeroValue25 Z fun p81 => xs 0 [.sl .no 3 (m0L r80.1.Files), .sl .no 3 (m1L r80.1.Faults)] sizeOf25 Z (xy Z (xy Z (xe (xr (xL 1 isAgg25 sizeOf25 Z (xf (.ptr p67 0) underlying43 sizeOf9 Z (xl 2 isAgg9 Z (xy Z ?_)))))))))))))
 obtain ⟨r82, r82e, h⟩ := bind_some h
 refine xo (mewsref18.Lay.ok r82e) call18 Z (xy Z (xz (.agg [.sl .no 3 (m0L r82.1.Files), .sl .no 3 (m1L r82.1.Faults)]) Z (xz (.i r82.2.1) Z (xz (.i r82.2.2) Z (xA (.agg [.sl .full 3 e0L, .sl .full 3 e1L]) zeroValue25 Z fun p83 => xs 0 [.sl .no 3 (m0L r82.1.Files), .sl .no 3 (m1L r82.1.Faults)] sizeOf25 Z (xy Z (xy Z (xe (xr (xL 1 isAgg25 sizeOf25 Z (xf (.ptr p67 0) underlying43 sizeOf9 Z (xl 3 isAgg9 Z ?_))))))))))))
 obtain ⟨r84, r84e, h⟩ := bind_some h
 refine xo (restore.Swap.ok r84e) call19 Z (xy Z (xz (.agg [.sl .no 3 (m0L r84.1.Files), .sl .no 3 (m1L r84.1.Faults)]) Z (xz (.i r84.2) Z (xA (.agg [.sl .full 3 e0L, .sl .full 3 e1L]) zeroValue25 Z fun p85 => xs 0 [.sl .no 3 (m0L r84.1.Files), .sl .no 3 (m1L r84.1.Faults)] sizeOf25 Z (xy Z (xe (xr (xL 1 isAgg25 sizeOf25 Z (xf (.ptr p67 0) underlying43 sizeOf9 Z (xl 4 isAgg9 Z ?_))))))))))
 obtain ⟨r86, r86e, h⟩ := bind_some h
 refine xo (mewsref18.Swap.ok r86e) call20 Z (xy Z (xz (.agg [.sl .no 3 (m0L r86.1.Files), .sl .no 3 (m1L r86.1.Faults)]) Z (xz (.i r86.2) Z (xA (.agg [.sl .full 3 e0L, .sl .full 3 e1L]) zeroValue25 Z fun p87 => xs 0 [.sl .no 3 (m0L r86.1.Files), .sl .no 3 (m1L r86.1.Faults)] sizeOf25 Z (xy Z (xe (aw_seq ?_)))))))
 obtain ⟨s94, s94e, h95⟩ := bind_some h
 refine aw_meet (ν := Unit) (fun v => [(2, .sl .no 1 (m7L l)), (3, .ptr p66 0), (4, .ptr p67 0), (97, .bool s94)]) (fun v => [(p66, .cells [.sl .no 3 (m0L d.Files), .sl .no 3 (m1L d.Faults)]), (p67, .cells (api.Log.ct .no g))]) ?_ ?_
 have h := s94e
 refine aw_region (xL 3 isAgg25 sizeOf25 Z (xL 2 isAgg25 sizeOf25 Z ?_))
 obtain ⟨r97, r97e, h⟩ := bind_some h
 refine xo (mewsref16.Same.ok r97e) call10 Z (xz (.bool (!r97)) Z (xy Z ?_))
 rcases Bool.eq_false_or_eq_true (!r97) with hb98 | hb98
 replace h := ite_t hb98 h
 refine aops_known 77 Z hb98 (xu Z (xu Z (xu Z (xz (.bool true) Z (xy Z (xu Z (xu Z (xu Z (xz (.bool true) Z ?_)))))))))
 refine xy Z (xu Z (xu Z (xu Z (xu Z (xz (.bool true) Z (xy Z (xu Z (xu Z (xu Z ?_)))))))))
 refine xz (.bool true) Z (xe ?_)
 cases h
 exact ⟨(), wi [4, 5] Z⟩
 replace h := ite_fb hb98 h
 refine aops_known 77 Z hb98 (xq Z Z Z Z (xq Z Z Z Z (xp (bn (r80.2.1 = r82.2.1)) Z Z (pe Z) (xz (bn (r80.2.1 = r82.2.1)) Z (xy Z ?_)))))
 rcases Bool.eq_false_or_eq_true (!decide (r80.2.1 = r82.2.1)) with hb99 | hb99
 replace h := ite_f (ndec_t hb99) h
 refine aops_known 82 Z hb99 (xu Z (xu Z (xu Z (xz (.bool true) Z (xy Z (xu Z (xu Z (xu Z (xu Z ?_)))))))))
 refine xz (.bool true) Z (xy Z (xu Z (xu Z (xu Z (xz (.bool true) Z (xe ?_))))))
 cases h
 exact ⟨(), wi [4, 5] Z⟩
 replace h := ite_t (ndec_f hb99) h
 refine aops_known 82 Z hb99 (xq Z Z Z Z (xq Z Z Z Z (xp (bn (r80.2.2 = r82.2.2)) Z Z (pe Z) (xz (bn (r80.2.2 = r82.2.2)) Z (xy Z ?_)))))
 rcases Bool.eq_false_or_eq_true (!decide (r80.2.2 = r82.2.2)) with hb100 | hb100
 replace h := ite_f (ndec_t hb100) h
 refine aops_known 87 Z hb100 (xu Z (xu Z (xu Z (xu Z (xz (.bool true) Z (xy Z (xu Z (xu Z (xu Z ?_)))))))))
 refine xz (.bool true) Z (xe ?_)
 cases h
 exact ⟨(), wi [4, 5] Z⟩
 replace h := ite_t (ndec_f hb100) h
 refine aops_known 87 Z hb100 (xg Z Z (op_loadN (i := 1) Z isAgg25 sizeOf25 (tm Z) Z (nb Z) Z (xg Z Z (op_loadN (i := 0) Z isAgg25 sizeOf25 (tm Z) Z (nb Z) Z ?_))))
 obtain ⟨r101, r101e, h⟩ := bind_some h
 refine xg Z Z (op_call (vs := [.agg [.sl .no 3 (m0L r84.1.Files), .sl .no 3 (m1L r84.1.Faults)], .agg [.sl .no 3 (m0L r86.1.Files), .sl .no 3 (m1L r86.1.Faults)]]) (H := []) Z call10 ⟨(tm Z), (tm Z), trivial⟩ (List.Perm.refl _) (mewsref16.Same.ok r101e) ?_)
 rintro _ _ ⟨rfl, rfl⟩
 refine xp (.bool (!r101)) Z Z (pe Z) (xz (.bool (!r101)) Z (xy Z ?_))
 rcases Bool.eq_false_or_eq_true (!r101) with hb102 | hb102
 replace h := ite_t hb102 h
 refine aops_known 93 Z hb102 (xu Z (xu Z (xu Z (xz (.bool true) Z (xe ?_)))))
 cases h
 exact ⟨(), wi [4, 5] Z⟩
 replace h := ite_fb hb102 h
 refine aops_known 93 Z hb102 (xq Z Z Z Z (xq Z Z Z Z (xp (bn (r84.2 = r86.2)) Z Z (pe Z) (xz (bn (r84.2 = r86.2)) Z (xe ?_)))))
 cases h
 exact ⟨(), wi [4, 5] Z⟩
 intro _
 have h := h95
 refine aw_cond (b := s94) (tm Z) (fun hb129 => ?_) (fun hb129 => ?_)
 replace h := ite_t hb129 h
 refine xr (xz (.bool false) Z (xe (aw_ret ?_)))
 cases h
 exact rt ⟨Z, Z⟩ Z w0
 replace h := ite_fb hb129 h
 refine aw_skip (xr (xL 0 isAgg25 sizeOf25 Z (xL 1 isAgg43 sizeOf43 Z (xy Z ?_))))
 obtain ⟨r103, r103e, h⟩ := bind_some h
 refine xo (restore.Anew.ok r103e) call21 Z (xy Z (xz (.agg [.sl .no 3 (m0L r103.1.Files), .sl .no 3 (m1L r103.1.Faults)]) Z (xz (.agg (api.Log.ct .no r103.2.1)) Z (xz (.i r103.2.2) Z (xA (.agg [.sl .full 3 e0L, .sl .full 3 e1L]) zeroValue25 Z fun p104 => xA (.agg [.str nS, .i 0, .i 0, .i 0, .str nS, .i 0, .i 0, .sl .full 1 (([] : List Int).map (AV.int .i64)), .i 0]) zeroValue43 Z fun p105 => xs 1 [.sl .no 3 (m0L r103.1.Files), .sl .no 3 (m1L r103.1.Faults)] sizeOf25 Z (xs 0 (api.Log.ct .no r103.2.1) sizeOf43 Z (xy Z (xe (xr (xL 2 isAgg25 sizeOf25 Z (xf (.ptr p67 0) underlying43 sizeOf9 Z (xl 3 isAgg9 Z (xf (.ptr p67 2) underlying43 sizeOf3 Z ?_)))))))))))))
 refine xl 3 isAgg3 Z (xy Z ?_)
 obtain ⟨r106, r106e, h⟩ := bind_some h
 refine xo (mewsref18.Anew.ok r106e) call22 Z (xy Z (xz (.agg [.sl .no 3 (m0L r106.1.Files), .sl .no 3 (m1L r106.1.Faults)]) Z (xz (.i r106.2.1) Z (xz (.i r106.2.2) Z (xA (.agg [.sl .full 3 e0L, .sl .full 3 e1L]) zeroValue25 Z fun p107 => xs 0 [.sl .no 3 (m0L r106.1.Files), .sl .no 3 (m1L r106.1.Faults)] sizeOf25 Z (xy Z (xy Z (xe (xr (xL 4 isAgg43 sizeOf43 Z (xA (.agg [.str nS, .i 0, .i 0, .i 0, .str nS, .i 0, .i 0, .sl .full 1 (([] : List Int).map (AV.int .i64)), .i 0]) zeroValue43 Z fun p108 => xs 0 (api.Log.ct .no g) sizeOf43 Z (xe ?_))))))))))))
 obtain ⟨s110, s110e, h111⟩ := letO_of h
 refine aw_meet (ν := Unit) (fun v => [(17, .ptr p104 0), (18, .ptr p105 0), (19, .i r103.2.2), (20, .ptr p107 0), (22, .i r106.2.2), (23, .ptr p108 0)]) (fun v => [(p104, .cells [.sl .no 3 (m0L r103.1.Files), .sl .no 3 (m1L r103.1.Faults)]), (p105, .cells (api.Log.ct .no r103.2.1)), (p107, .cells [.sl .no 3 (m0L r106.1.Files), .sl .no 3 (m1L r106.1.Faults)]), (p108, .cells [.str g.Name, .i g.Policy, .i g.Quota, .i s110.1, .str s110.2.1, .i g.Logged, .i s110.2.2.1, .sl .no 1 (s110.2.2.2.1.map (AV.int .i64)), .i s110.2.2.2.2])]) ?_ ?_
 have h := s110e.symm
 refine xr (xy Z (xz (bd (r106.2.2 = 0)) Z (xe (cd h Z (fun _ h => ?_) (fun _ h => ?_)))))
 refine aw_region (xf (.ptr p67 0) underlying43 sizeOf9 Z (xl 5 isAgg9 Z (xf (.ptr p67 1) underlying43 sizeOf3 Z (xl 5 isAgg3 Z (xf (.ptr p67 2) underlying43 sizeOf3 Z (xl 5 isAgg3 Z (xy Z (xf (.ptr p67 5) underlying43 sizeOf3 Z (xl 5 isAgg3 Z ?_)))))))))
 refine xf (.ptr p67 5) underlying43 sizeOf3 Z (xl 5 isAgg3 Z (xa (.agg [.str g.Name, .i g.Policy, .i g.Quota, .i r106.2.1, .str nS, .i g.Logged, .i g.Logged, .sl .full 1 (([] : List Int).map (AV.int .i64)), .i 7]) Z (pu_build (zs := [.str nS, .i 0, .i 0, .i 0, .str nS, .i 0, .i 0, .sl .full 1 (([] : List Int).map (AV.int .i64)), .i 0]) (szs := [1, 1, 1, 1, 1, 1, 1, 1, 1]) (aparts := [(0, .str g.Name), (1, .i g.Policy), (2, .i g.Quota), (3, .i r106.2.1), (5, .i g.Logged), (6, .i g.Logged), (8, .i 7)]) (cs := [.str g.Name, .i g.Policy, .i g.Quota, .i r106.2.1, .str nS, .i g.Logged, .i g.Logged, .sl .full 1 (([] : List Int).map (AV.int .i64)), .i 7]) Z underlying43 zeroValue43 Z ⟨sizeOf9, sizeOf3, sizeOf3, sizeOf3, sizeOf9, sizeOf3, sizeOf3, sizeOf41, sizeOf2, trivial⟩ ⟨Z, (tm Z), ⟨Z, (tm Z), ⟨Z, (tm Z), ⟨Z, (tm Z), ⟨Z, (tm Z), ⟨Z, (tm Z), ⟨Z, (AEv.int _ _), trivial⟩⟩⟩⟩⟩⟩⟩ Z) (xs 0 [.str g.Name, .i g.Policy, .i g.Quota, .i r106.2.1, .str nS, .i g.Logged, .i g.Logged, .sl .full 1 (([] : List Int).map (AV.int .i64)), .i 7] sizeOf43 Z (xe ?_))))
 subst h
 exact ⟨(), wl [3, 2, 1, 0] Z ⟨⟨_, Z, cr, Z⟩, ⟨_, Z, cr, Z⟩, ⟨_, Z, cr, Z⟩, ⟨_, Z, ⟨vr, vr, vr, vr, vr, vr, vr, (AV.Le.forget _ _ _), vr, trivial⟩, Z⟩, trivial⟩ ⟨tm Z, tm Z, tm Z, tm Z, tm Z, tm Z, trivial⟩⟩
 refine aw_skip ?_
 subst h
 exact ⟨(), wi [3, 2, 1, 0] Z⟩
 intro _
 have h := h111
 obtain ⟨s120, s120e, h121⟩ := bind_some h
 refine aw_meet (ν := Unit) (fun v => [(6, .bool s120)]) (fun v => []) ?_ ?_
 have h := s120e
 refine aw_region (xL 0 isAgg25 sizeOf25 Z (xL 2 isAgg25 sizeOf25 Z ?_))
 obtain ⟨r123, r123e, h⟩ := bind_some h
 refine xo (mewsref16.Same.ok r123e) call10 Z (xy Z ?_)
 rcases Bool.eq_false_or_eq_true r123 with hb124 | hb124
 replace h := ite_t hb124 h
 refine aops_known 135 Z hb124 (xg Z Z (op_loadN (i := 1) Z isAgg43 sizeOf43 (tm Z) Z (nb Z) Z (xg Z Z (op_loadN (i := 3) Z isAgg43 sizeOf43 (tm Z) Z (nb Z) Z ?_))))
 obtain ⟨r125, r125e, h⟩ := bind_some h
 refine xg Z Z (op_call (vs := [.agg (api.Log.ct .no r103.2.1), .agg [.str g.Name, .i g.Policy, .i g.Quota, .i s110.1, .str s110.2.1, .i g.Logged, .i s110.2.2.1, .sl .no 1 (s110.2.2.2.1.map (AV.int .i64)), .i s110.2.2.2.2]]) (H := []) Z call23 ⟨(tm Z), (tm Z), trivial⟩ (List.Perm.refl _) (mewsref17.Same.ok r125e) ?_)
 rintro _ _ ⟨rfl, rfl⟩
 refine xz (.bool r125) Z (xy Z ?_)
 rcases Bool.eq_false_or_eq_true r125 with hb126 | hb126
 replace h := ite_t hb126 h
 refine aops_known 140 Z hb126 (xq Z Z Z Z (xq Z Z Z Z (xp (bd (r103.2.2 = r106.2.2)) Z Z (pe Z) (xz (bd (r103.2.2 = r106.2.2)) Z (xy Z ?_)))))
 rcases Bool.eq_false_or_eq_true (decide (r103.2.2 = r106.2.2)) with hb127 | hb127
 replace h := ite_t (dec_t hb127) h
 refine aops_known 145 Z hb127 ?_
 obtain ⟨r128, r128e, h⟩ := bind_some h
 refine xg Z Z (op_call (vs := []) (H := []) Z call7 trivial (List.Perm.refl _) (mewslaw18.alive.ok r128e) ?_)
 rintro _ _ ⟨rfl, rfl⟩
 refine xz (.bool r128) Z (xy Z (xe ?_))
 cases h
 exact ⟨(), wi [] Z⟩
 replace h := ite_f (dec_f hb127) h
 refine aops_known 145 Z hb127 (xu Z (xz (.bool false) Z (xy Z (xe ?_))))
 cases h
 exact ⟨(), wi [] Z⟩
 replace h := ite_fb hb126 h
 refine aops_known 140 Z hb126 (xu Z (xu Z (xu Z (xz (.bool false) Z (xy Z (xu Z (xz (.bool false) Z (xy Z (xe ?_)))))))))
 cases h
 exact ⟨(), wi [] Z⟩
 replace h := ite_fb hb124 h
 refine aops_known 135 Z hb124 (xu Z (xu Z (xu Z (xz (.bool false) Z (xy Z (xu Z (xu Z (xu Z (xz (.bool false) Z ?_)))))))))
 refine xy Z (xu Z (xz (.bool false) Z (xy Z (xe ?_))))
 cases h
 exact ⟨(), wi [] Z⟩
 intro _
 have h := h121
 refine aw_ret ?_
 cases h
 exact rt ⟨Z, Z⟩ Z w0

end Go.Pu
