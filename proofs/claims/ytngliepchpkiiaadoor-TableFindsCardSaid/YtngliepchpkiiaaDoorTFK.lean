/- Printed by lift.py: the functions come to them. -/
import Derived.Test.YtngliepchpkiiaaDoorLiftWS
import Derived.Test.YtngliepchpkiiaaDoorTFK1
set_option maxRecDepth 100000
set_option maxHeartbeats 0
namespace Go.Pu
open Go.Lift Go.Proofs.Tryd Go.RowKit Go.Proofs

theorem mewsref28.Commands.ok  {r : List api.Command} (h : mewsref28.Commands = some r) : Sp prog 18 [] [] (fun v H => ∃ n0, v = .sl (.own n0) 10 (m3L r) ∧ H = [(n0, .spare)]) := by
 unfold mewsref28.Commands at h
 refine sb [.tmp 0] func18 Z (xr (xa (.sl .full 10 e2L) Z (pu_assign Z (AEv.nil 10 (by decide))) (xe (xr (xa (.sl .full 10 e2L) Z (pu_assign Z (AEv.nil 10 (by decide))) (xe (aw_seq ?_)))))))
 refine aw_region ?_
 obtain ⟨r175, r175e, h⟩ := bind_some h
 refine xc Z (op_call (vs := [.str longS1, .int .u8 10]) (H := []) Z call25 ⟨(AEv.const (by kernel_rfl)), (AEv.int _ _), trivial⟩ (List.Perm.refl _) (mewsref28.split.ok r175e) ?_)
 rintro _ _ ⟨t176, rfl, rfl⟩
 refine xy Z (xe ?_)
 obtain ⟨s261, s261e, h263⟩ := bind_some h
 refine aw_meet (ν := Nat) (fun v => [(1, .sl (.own v) 10 (m3L s261))]) (fun v => [(v, .spare)]) ?_ ?_
 have h := s261e
 refine xr (xz (.i 0) Z (xe (aw_block (aw_claim 1 (tm Z) fun t348 => (aw_while (σ := mewsref28.Commands.S0) (ν := Nat) (mewsref28.Commands.body0 r175) (fun s318 v => [(1, .sl (.own v) 10 (m3L s318.out)), (2, .sl (.own t176) 1 (m0L r175)), (3, .i s318.i)]) (fun s318 v => [(v, .spare), (t176, .spare)]) ⟨([] : List api.Command), 0⟩ t348 _ h (wi [0, 1] Z) ?_)))))
 rintro s318 n319 x321 h hx320
 unfold mewsref28.Commands.body0 at h
 refine aw_seq (xr (xy Z (xy Z (xa (.i (r175.length : Int)) Z (pu_lenM Z underlying31 (tm Z)) (xz (bd (s318.i < (r175.length : Int))) Z (xe (cd h Z (fun _ h => ?_) (fun _ h => ?_))))))))
 refine aw_skip (aw_seq (aw_block (xr (xy Z (xy Z ?_)))))
 obtain ⟨c323, h⟩ := need_of h
 refine xa (.vptr [.str (ix r175 s318.i)]) Z (pu_indexAddrM Z underlying31 sizeOf9 (tm Z) (tm Z) c323 Z) (xc Z (op_loadV1 Z isAgg9 (tm Z) Z ?_))
 obtain ⟨r324, r324e, h⟩ := bind_some h
 refine xk (mewsref28.split.ok r324e) call25 Z ?_
 rintro _ _ ⟨t325, rfl, rfl⟩
 refine xy Z (xe ?_)
 obtain ⟨c326, h⟩ := need_of h
 obtain ⟨c327, h⟩ := need_of h
 obtain ⟨r328, r328e, h⟩ := bind_some h
 obtain ⟨c329, h⟩ := need_of h
 obtain ⟨r330, r330e, h⟩ := bind_some h
 obtain ⟨c331, h⟩ := need_of h
 obtain ⟨r332, r332e, h⟩ := bind_some h
 obtain ⟨c333, h⟩ := need_of h
 obtain ⟨r334, r334e, h⟩ := bind_some h
 obtain ⟨c335, h⟩ := need_of h
 obtain ⟨r336, r336e, h⟩ := bind_some h
 obtain ⟨c337, h⟩ := need_of h
 obtain ⟨r338, r338e, h⟩ := bind_some h
 obtain ⟨c339, h⟩ := need_of h
 obtain ⟨r340, r340e, h⟩ := bind_some h
 obtain ⟨c341, h⟩ := need_of h
 obtain ⟨r342, r342e, h⟩ := bind_some h
 obtain ⟨c343, h⟩ := need_of h
 obtain ⟨r344, r344e, h⟩ := bind_some h
 obtain ⟨c345, h⟩ := need_of h
 refine aw_reserve fun p346 => (aw_planR (by decide +kernel) [[], [], [], [], [], [], [], [], [], [], [], [], [], [], [], [], [], [], [], [], [], [], [], [], [], [], [], [], [], [], [], [], [], [], [], [], [], [], [], [], [], [], [(2, 0, true), (0, 0, true)], []] [[42], [], [42], []] [[[(p346, .resv)], [(p346, .spare)]], [[(t325, .spare)]], [[(n319, .spare)], []], [[(t176, .spare)]]] [.sl (.own n319) 10 (m3L s318.out), .sl (.own t325) 1 (m0L r324), .vptr [.str (ix r324 0)], .str (ix r324 0), .sl (.own t325) 1 (m0L r324), .vptr [.str (ix r324 1)], .str (ix r324 1), .i r328, .sl (.own t325) 1 (m0L r324), .vptr [.str (ix r324 2)], .str (ix r324 2), .i r330, .sl (.own t325) 1 (m0L r324), .vptr [.str (ix r324 3)], .str (ix r324 3), .bool r332, .sl (.own t325) 1 (m0L r324), .vptr [.str (ix r324 3)], .str (ix r324 3), .bool r334, .sl (.own t325) 1 (m0L r324), .vptr [.str (ix r324 3)], .str (ix r324 3), .bool r336, .sl (.own t325) 1 (m0L r324), .vptr [.str (ix r324 4)], .str (ix r324 4), .i r338, .sl (.own t325) 1 (m0L r324), .vptr [.str (ix r324 5)], .str (ix r324 5), .i r340, .sl (.own t325) 1 (m0L r324), .vptr [.str (ix r324 6)], .str (ix r324 6), .i r342, .sl (.own t325) 1 (m0L r324), .vptr [.str (ix r324 7)], .str (ix r324 7), .i r344, .agg [.str (ix r324 0), .i r328, .i r330, .bool r332, .bool r334, .bool r336, .i r338, .i r340, .i r342, .i r344], .sl .full 10 ([({ Name := ix r324 0, Arity := r328, Of := r330, Write := r332, Grow := r334, Free := r336, Keys := r338, First := r340, Last := r342, Step := r344 } : api.Command)].map api.Command.av), .sl (.own p346) 10 (m3L (s318.out ++ [({ Name := ix r324 0, Arity := r328, Of := r330, Write := r332, Grow := r334, Free := r336, Keys := r338, First := r340, Last := r342, Step := r344 } : api.Command)])), .sl (.own p346) 10 (m3L (s318.out ++ [({ Name := ix r324 0, Arity := r328, Of := r330, Write := r332, Grow := r334, Free := r336, Keys := r338, First := r340, Last := r342, Step := r344 } : api.Command)]))] (by decide +kernel) Z Z ?_ ?_)
 exact ⟨ym Z Z Z, ym Z Z Z, yp Z (pu_indexAddrM Z underlying31 sizeOf9 (tm Z) (AEv.int _ _) c326 Z), stepg_plain Z (op_loadV1 Z isAgg9 (tm Z) Z ⟨Z, Z⟩), ym Z Z Z, yp Z (pu_indexAddrM Z underlying31 sizeOf9 (tm Z) (AEv.int _ _) c327 Z), stepg_plain Z (op_loadV1 Z isAgg9 (tm Z) Z ⟨Z, Z⟩), stepg_plain Z (op_call (vs := [.str (ix r324 1)]) (H := []) Z call26 ⟨(tm Z), trivial⟩ (R := []) (List.Perm.refl _) (mewsref28.number.ok r328e) (by rintro _ _ ⟨rfl, rfl⟩; exact ⟨Z, Z⟩)), ym Z Z Z, yp Z (pu_indexAddrM Z underlying31 sizeOf9 (tm Z) (AEv.int _ _) c329 Z), stepg_plain Z (op_loadV1 Z isAgg9 (tm Z) Z ⟨Z, Z⟩), stepg_plain Z (op_call (vs := [.str (ix r324 2)]) (H := []) Z call26 ⟨(tm Z), trivial⟩ (R := []) (List.Perm.refl _) (mewsref28.number.ok r330e) (by rintro _ _ ⟨rfl, rfl⟩; exact ⟨Z, Z⟩)), ym Z Z Z, yp Z (pu_indexAddrM Z underlying31 sizeOf9 (tm Z) (AEv.int _ _) c331 Z), stepg_plain Z (op_loadV1 Z isAgg9 (tm Z) Z ⟨Z, Z⟩), stepg_plain Z (op_call (vs := [.str (ix r324 3), .int .u8 119]) (H := []) Z call27 ⟨(tm Z), (AEv.int _ _), trivial⟩ (R := []) (List.Perm.refl _) (mewsref28.has.ok r332e) (by rintro _ _ ⟨rfl, rfl⟩; exact ⟨Z, Z⟩)), ym Z Z Z, yp Z (pu_indexAddrM Z underlying31 sizeOf9 (tm Z) (AEv.int _ _) c333 Z), stepg_plain Z (op_loadV1 Z isAgg9 (tm Z) Z ⟨Z, Z⟩), stepg_plain Z (op_call (vs := [.str (ix r324 3), .int .u8 103]) (H := []) Z call27 ⟨(tm Z), (AEv.int _ _), trivial⟩ (R := []) (List.Perm.refl _) (mewsref28.has.ok r334e) (by rintro _ _ ⟨rfl, rfl⟩; exact ⟨Z, Z⟩)), ym Z Z Z, yp Z (pu_indexAddrM Z underlying31 sizeOf9 (tm Z) (AEv.int _ _) c335 Z), stepg_plain Z (op_loadV1 Z isAgg9 (tm Z) Z ⟨Z, Z⟩), stepg_plain Z (op_call (vs := [.str (ix r324 3), .int .u8 102]) (H := []) Z call27 ⟨(tm Z), (AEv.int _ _), trivial⟩ (R := []) (List.Perm.refl _) (mewsref28.has.ok r336e) (by rintro _ _ ⟨rfl, rfl⟩; exact ⟨Z, Z⟩)), ym Z Z Z, yp Z (pu_indexAddrM Z underlying31 sizeOf9 (tm Z) (AEv.int _ _) c337 Z), stepg_plain Z (op_loadV1 Z isAgg9 (tm Z) Z ⟨Z, Z⟩), stepg_plain Z (op_call (vs := [.str (ix r324 4)]) (H := []) Z call26 ⟨(tm Z), trivial⟩ (R := []) (List.Perm.refl _) (mewsref28.number.ok r338e) (by rintro _ _ ⟨rfl, rfl⟩; exact ⟨Z, Z⟩)), ym Z Z Z, yp Z (pu_indexAddrM Z underlying31 sizeOf9 (tm Z) (AEv.int _ _) c339 Z), stepg_plain Z (op_loadV1 Z isAgg9 (tm Z) Z ⟨Z, Z⟩), stepg_plain Z (op_call (vs := [.str (ix r324 5)]) (H := []) Z call26 ⟨(tm Z), trivial⟩ (R := []) (List.Perm.refl _) (mewsref28.number.ok r340e) (by rintro _ _ ⟨rfl, rfl⟩; exact ⟨Z, Z⟩)), ym Z Z Z, yp Z (pu_indexAddrM Z underlying31 sizeOf9 (tm Z) (AEv.int _ _) c341 Z), stepg_plain Z (op_loadV1 Z isAgg9 (tm Z) Z ⟨Z, Z⟩), stepg_plain Z (op_call (vs := [.str (ix r324 6)]) (H := []) Z call26 ⟨(tm Z), trivial⟩ (R := []) (List.Perm.refl _) (mewsref28.number.ok r342e) (by rintro _ _ ⟨rfl, rfl⟩; exact ⟨Z, Z⟩)), ym Z Z Z, yp Z (pu_indexAddrM Z underlying31 sizeOf9 (tm Z) (AEv.int _ _) c343 Z), stepg_plain Z (op_loadV1 Z isAgg9 (tm Z) Z ⟨Z, Z⟩), stepg_plain Z (op_call (vs := [.str (ix r324 7)]) (H := []) Z call26 ⟨(tm Z), trivial⟩ (R := []) (List.Perm.refl _) (mewsref28.number.ok r344e) (by rintro _ _ ⟨rfl, rfl⟩; exact ⟨Z, Z⟩)), yp Z (pu_build (zs := [.str nS, .i 0, .i 0, .bool false, .bool false, .bool false, .i 0, .i 0, .i 0, .i 0]) (szs := [1, 1, 1, 1, 1, 1, 1, 1, 1, 1]) (aparts := [(0, .str (ix r324 0)), (1, .i r328), (2, .i r330), (3, .bool r332), (4, .bool r334), (5, .bool r336), (6, .i r338), (7, .i r340), (8, .i r342), (9, .i r344)]) (cs := [.str (ix r324 0), .i r328, .i r330, .bool r332, .bool r334, .bool r336, .i r338, .i r340, .i r342, .i r344]) Z underlying23 zeroValue23 Z ⟨sizeOf9, sizeOf3, sizeOf3, sizeOf4, sizeOf4, sizeOf4, sizeOf3, sizeOf3, sizeOf3, sizeOf3, trivial⟩ ⟨Z, (tm Z), ⟨Z, (tm Z), ⟨Z, (tm Z), ⟨Z, (tm Z), ⟨Z, (tm Z), ⟨Z, (tm Z), ⟨Z, (tm Z), ⟨Z, (tm Z), ⟨Z, (tm Z), ⟨Z, (tm Z), trivial⟩⟩⟩⟩⟩⟩⟩⟩⟩⟩ Z), stepg_plain Z (op_buildSlice (xs := ([({ Name := ix r324 0, Arity := r328, Of := r330, Write := r332, Grow := r334, Free := r336, Keys := r338, First := r340, Last := r342, Step := r344 } : api.Command)] : List api.Command).map api.Command.av) (aparts := [(0, .agg [.str (ix r324 0), .i r328, .i r330, .bool r332, .bool r334, .bool r336, .i r338, .i r340, .i r342, .i r344])]) Z underlying37 sizeOf23 zeroValue23 (by decide) (by decide) ⟨Z, (tm Z), trivial⟩ Z Z Z ⟨Z, Z⟩), stepg_plain Z (aop_settleS (op_appendOM (q := 0) Z underlying37 underlying37 (.inl Z) typeInfo23 Z Z Z (by decide) (tm Z) Z (given_sl (tm Z)) c345 fun t => ⟨t, Z, Z⟩) ⟨Z, Z⟩), ym Z Z Z, trivial⟩
 refine aw_region (xy Z (xz (.i (w64 (s318.i + 1))) Z (xy Z (xe ?_))))
 cases h
 exact ⟨_, p346, Z, wi [0, 2] Z⟩
 refine aw_exit ?_
 cases h
 cases congrArg some (hx320 _ rfl)
 exact ⟨n319, wi [0] Z⟩
 intro n262
 have h := h263
 refine xr (xy Z (xy Z (xe (aw_ret ?_))))
 cases h
 exact rt ⟨n262, Z, Z⟩ Z (wi [0] Z)

theorem mewsref28.Find.ok {name r} (h : mewsref28.Find name = some r) : Sp prog 9 [.str name] [] (fun v H => v = .tup [.agg [.str r.1.Name, .i r.1.Arity, .i r.1.Of, .bool r.1.Write, .bool r.1.Grow, .bool r.1.Free, .i r.1.Keys, .i r.1.First, .i r.1.Last, .i r.1.Step], .bool r.2] ∧ H = []) := by
 unfold mewsref28.Find at h
 refine sb [.cell 2 23, .tmp 3] func9 Z (xr (xA (.agg [.str nS, .i 0, .i 0, .bool false, .bool false, .bool false, .i 0, .i 0, .i 0, .i 0]) zeroValue23 Z fun p45 => xz (.bool false) Z (xe (xr (xy Z ?_)))))
 obtain ⟨r46, r46e, h⟩ := bind_some h
 refine xo (mewsref28.Upper.ok r46e) call13 Z (xy Z (xe (aw_seq (aw_region ?_))))
 obtain ⟨r47, r47e, h⟩ := bind_some h
 refine xk (mewsref28.Commands.ok r47e) call18 Z ?_
 rintro _ _ ⟨t48, rfl, rfl⟩
 refine xy Z (xe ?_)
 obtain ⟨s88, s88e, h68⟩ := bind_some h
 refine aw_join (σ := Unit) (ν := Unit) (fun u v => [(2, .ptr p45 0)]) (fun u v => [(p45, .cells [.str nS, .i 0, .i 0, .bool false, .bool false, .bool false, .i 0, .i 0, .i 0, .i 0])]) (fun u => s88 = .inl u) ?_ ?_
 intro s67
 intro _
 rintro rfl
 have h := onSum_inl h68
 refine xr (xa (.agg [.str nS, .i 0, .i 0, .bool false, .bool false, .bool false, .i 0, .i 0, .i 0, .i 0]) Z (pu_build (zs := [.str nS, .i 0, .i 0, .bool false, .bool false, .bool false, .i 0, .i 0, .i 0, .i 0]) (szs := [1, 1, 1, 1, 1, 1, 1, 1, 1, 1]) (aparts := []) (cs := [.str nS, .i 0, .i 0, .bool false, .bool false, .bool false, .i 0, .i 0, .i 0, .i 0]) Z underlying23 zeroValue23 Z ⟨sizeOf9, sizeOf3, sizeOf3, sizeOf4, sizeOf4, sizeOf4, sizeOf3, sizeOf3, sizeOf3, sizeOf3, trivial⟩ trivial Z) (xs 0 [.str nS, .i 0, .i 0, .bool false, .bool false, .bool false, .i 0, .i 0, .i 0, .i 0] sizeOf23 Z (xz (.bool false) Z (xe (aw_ret ?_)))))
 cases h
 exact rq [.agg [.str nS, .i 0, .i 0, .bool false, .bool false, .bool false, .i 0, .i 0, .i 0, .i 0], .bool false] ⟨Z, Z⟩ (AV.Le.tup cr) ⟨(CellOk.agg 0 (tm Z) Z isAgg23 sizeOf23 (nb Z) Z), (tm Z), trivial⟩ w0
 have h := s88e
 refine xr (xz (.i 0) Z (xe (aw_block (aw_while (σ := mewsref28.Find.S0) (ν := Unit) (mewsref28.Find.body0 r47 r46) (fun s80 v => [(2, .ptr p45 0), (4, .str r46), (5, .sl (.own t48) 10 (m3L r47)), (6, .i s80.i)]) (fun s80 v => [(p45, .cells [.str nS, .i 0, .i 0, .bool false, .bool false, .bool false, .i 0, .i 0, .i 0, .i 0]), (t48, .spare)]) ⟨0⟩ () _ h (wi [1, 0] Z) ?_))))
 rintro s80 _ x82 h hx81
 unfold mewsref28.Find.body0 at h
 refine aw_seq (xr (xy Z (xy Z (xa (.i (r47.length : Int)) Z (pu_lenM Z underlying37 (tm Z)) (xz (bd (s80.i < (r47.length : Int))) Z (xe (cd h Z (fun _ h => ?_) (fun _ h => ?_))))))))
 refine aw_skip (aw_seq (aw_block (xr (xy Z (xy Z ?_)))))
 obtain ⟨c84, h⟩ := need_of h
 refine xa (.vptr [.str (ix r47 s80.i).Name, .i (ix r47 s80.i).Arity, .i (ix r47 s80.i).Of, .bool (ix r47 s80.i).Write, .bool (ix r47 s80.i).Grow, .bool (ix r47 s80.i).Free, .i (ix r47 s80.i).Keys, .i (ix r47 s80.i).First, .i (ix r47 s80.i).Last, .i (ix r47 s80.i).Step]) Z (pu_indexAddrM Z underlying37 sizeOf23 (tm Z) (tm Z) c84 Z) (xf (.vptr [.str (ix r47 s80.i).Name, .i (ix r47 s80.i).Arity, .i (ix r47 s80.i).Of, .bool (ix r47 s80.i).Write, .bool (ix r47 s80.i).Grow, .bool (ix r47 s80.i).Free, .i (ix r47 s80.i).Keys, .i (ix r47 s80.i).First, .i (ix r47 s80.i).Last, .i (ix r47 s80.i).Step]) underlying23 sizeOf9 Z (xc Z (op_loadV1 Z isAgg9 (tm Z) Z (xy Z (xa (bd ((ix r47 s80.i).Name = r46)) Z (pu_str (v := bd ((ix r47 s80.i).Name = r46)) Z Z (tm Z) (tm Z) Z) (xe (cd h Z (fun _ h => ?_) (fun _ h => ?_))))))))
 refine xr (xy Z (xy Z ?_))
 obtain ⟨c85, h⟩ := need_of h
 refine xa (.vptr [.str (ix r47 s80.i).Name, .i (ix r47 s80.i).Arity, .i (ix r47 s80.i).Of, .bool (ix r47 s80.i).Write, .bool (ix r47 s80.i).Grow, .bool (ix r47 s80.i).Free, .i (ix r47 s80.i).Keys, .i (ix r47 s80.i).First, .i (ix r47 s80.i).Last, .i (ix r47 s80.i).Step]) Z (pu_indexAddrM Z underlying37 sizeOf23 (tm Z) (tm Z) c85 Z) (xc Z (op_loadVN Z isAgg23 sizeOf23 (tm Z) (nb Z) Z (xs 0 (api.Command.ct (ix r47 s80.i)) sizeOf23 Z (xz (.bool true) Z (xe (aw_ret ?_))))))
 cases h
 cases congrArg some (hx81 _ rfl)
 cases onSum_inr h68
 exact rq [.agg (api.Command.ct (ix r47 s80.i)), .bool true] ⟨Z, Z⟩ (AV.Le.tup cr) ⟨(CellOk.agg 0 (tm Z) Z isAgg23 sizeOf23 (nb Z) Z), (tm Z), trivial⟩ w0
 refine aw_skip (aw_region (xy Z (xz (.i (w64 (s80.i + 1))) Z (xy Z (xe ?_)))))
 cases h
 exact ⟨_, (), Z, wi [0, 1] Z⟩
 refine aw_exit ?_
 cases h
 have h := congrArg some (hx81 _ rfl)
 exact ⟨(), (), (some_of h).symm, wi [0] Z⟩

theorem mewsref28.Fits.ok {c_ n_ r} (h : mewsref28.Fits c_ n_ = some r) : Sp prog 11 [.agg (api.Command.ct c_), .i n_] [] (fun v H => v = .bool r ∧ H = []) := by
 unfold mewsref28.Fits at h
 refine sb [.tmp 4] func11 Z (xr (xb (api.Command.ct c_) Z fun p8 => xz (.bool false) Z (xe (aw_seq (xr (xf (.ptr p8 1) underlying23 sizeOf3 Z (xl 0 isAgg3 Z (xz (bd (0 ≤ c_.Arity)) Z (xe (cd h Z (fun _ h => ?_) (fun _ h => ?_)))))))))))
 refine xr (xy Z (xf (.ptr p8 1) underlying23 sizeOf3 Z (xl 0 isAgg3 Z (xz (bd (n_ = c_.Arity)) Z (xy Z (xe (aw_ret ?_)))))))
 cases h
 exact rt ⟨Z, Z⟩ Z w0
 refine aw_skip ?_
 obtain ⟨s10, s10e, h11⟩ := letO_of h
 refine aw_meet (ν := Unit) (fun v => [(4, .bool s10)]) (fun v => []) ?_ ?_
 have h := s10e.symm
 refine aw_region (xy Z (xz (bd (0 ≤ n_)) Z (xy Z ?_)))
 rcases Bool.eq_false_or_eq_true (decide (0 ≤ n_)) with hb13 | hb13
 replace h := ite_t (dec_t hb13) h
 refine aops_known 14 Z hb13 (xp (.ptr p8 1) Z Z (fa Z underlying23 Z sizeOf3 Z Z Z) (xg Z Z (op_load1 (i := 0) Z isAgg3 (tm Z) Z Z (xq Z Z Z Z (xp (.i (w64 (c_.Arity + n_))) Z Z (pe Z) (xp (bd (0 ≤ (w64 (c_.Arity + n_)))) Z Z (pe Z) (xz (bd (0 ≤ (w64 (c_.Arity + n_)))) Z (xy Z (xe ?_)))))))))
 subst h
 exact ⟨(), wi [] Z⟩
 replace h := ite_f (dec_f hb13) h
 refine aops_known 14 Z hb13 (xu Z (xu Z (xu Z (xu Z (xu Z (xz (.bool false) Z (xy Z (xe ?_))))))))
 subst h
 exact ⟨(), wi [] Z⟩
 intro _
 have h := h11
 refine aw_ret ?_
 cases h
 exact rt ⟨Z, Z⟩ Z w0

theorem mewslaw28.TableFinds.ok {name n_ c_ r} (h : mewslaw28.TableFinds name n_ c_ = some r) : Sp prog 3 [.str name, .i n_, .agg (api.Command.ct c_)] [] (fun v H => v = .bool r ∧ H = []) := by
 unfold mewslaw28.TableFinds at h
 refine sb [.tmp 6] func3 Z (xr (xb (api.Command.ct c_) Z fun p36 => xz (.bool false) Z (xe (aw_seq (xr (xy Z (xc Z (op_buildSlice (xs := ([name] : List (List UInt8)).map AV.str) (aparts := [(0, .str name)]) Z underlying31 sizeOf9 zeroValue9 (by decide) (by decide) ⟨Z, (tm Z), trivial⟩ Z Z Z ?_))))))))
 obtain ⟨r37, r37e, h⟩ := bind_some h
 refine xc Z (op_call (vs := [.sl .no 1 ([name].map AV.str)]) (H := []) Z call6 ⟨(AEv.le (tm Z) (AV.Le.forget _ _ _)), trivial⟩ (List.Perm.refl _) (mewslaw28.far.ok r37e) ?_)
 rintro _ _ ⟨rfl, rfl⟩
 refine xe (cb h Z (fun _ h => ?_) (fun _ h => ?_))
 refine aw_seq (aw_region ?_)
 obtain ⟨r38, r38e, h⟩ := bind_some h
 refine xo (mewslaw28.alive.ok r38e) call7 Z (xy Z (xe (aw_ret ?_)))
 cases h
 exact rt ⟨Z, Z⟩ Z w0
 refine aw_skip (xr (xy Z ?_))
 obtain ⟨r39, r39e, h⟩ := bind_some h
 refine xo (table.Find.ok r39e) call8 Z (xy Z (xz (.agg (api.Command.ct r39.1)) Z (xz (.bool r39.2) Z (xA (.agg [.str nS, .i 0, .i 0, .bool false, .bool false, .bool false, .i 0, .i 0, .i 0, .i 0]) zeroValue23 Z fun p40 => xs 0 (api.Command.ct r39.1) sizeOf23 Z (xy Z (xe (xr (xy Z ?_))))))))
 obtain ⟨r41, r41e, h⟩ := bind_some h
 refine xo (mewsref28.Find.ok r41e) call9 Z (xy Z (xz (.agg (api.Command.ct r41.1)) Z (xz (.bool r41.2) Z (xA (.agg [.str nS, .i 0, .i 0, .bool false, .bool false, .bool false, .i 0, .i 0, .i 0, .i 0]) zeroValue23 Z fun p42 => xs 0 (api.Command.ct r41.1) sizeOf23 Z (xy Z (xe ?_))))))
 obtain ⟨s55, s55e, h56⟩ := bind_some h
 refine aw_meet (ν := Unit) (fun v => [(6, .bool s55)]) (fun v => []) ?_ ?_
 have h := s55e
 rcases Bool.eq_false_or_eq_true (decide (r39.1 = r41.1)) with hb58 | hb58
 replace h := ite_t (dec_t hb58) h
 rcases Bool.eq_false_or_eq_true (r39.2 == r41.2) with hb59 | hb59
 replace h := ite_t hb59 h
 obtain ⟨r60, r60e, h⟩ := bind_some h
 obtain ⟨r61, r61e, h⟩ := bind_some h
 rcases Bool.eq_false_or_eq_true (r60 == r61) with hb62 | hb62
 replace h := ite_t hb62 h
 obtain ⟨r63, r63e, h⟩ := bind_some h
 obtain ⟨r64, r64e, h⟩ := bind_some h
 rcases Bool.eq_false_or_eq_true (r63 == r64) with hb65 | hb65
 replace h := ite_t hb65 h
 obtain ⟨r66, r66e, h⟩ := bind_some h
 obtain ⟨r67, r67e, h⟩ := bind_some h
 rcases Bool.eq_false_or_eq_true (decide (r66 = r67)) with hb68 | hb68
 replace h := ite_t (dec_t hb68) h
 obtain ⟨r69, r69e, h⟩ := bind_some h
 refine aw_planR (by decide +kernel) [[(1, 0, false)], [(0, 0, false)], [], [], [], [], [], [], [], [(1, 0, false)], [], [], [(0, 0, false)], [], [], [], [], [], [(2, 0, false)], [], [], [(2, 0, false)], [], [], [], [], [], [], [], [], [], [], [], [], [], [], []] [[], [], []] [[[(p42, .cells (api.Command.ct r41.1))]], [[(p40, .cells (api.Command.ct r39.1))]], [[(p36, .cells (api.Command.ct c_))]]] [.agg (api.Command.ct r39.1), .agg (api.Command.ct r41.1), bd (r39.1 = r41.1), .bool true, .bool r39.2, .bool r41.2, .bool (r39.2 == r41.2), .bool (r39.2 == r41.2), .bool true, .agg (api.Command.ct r39.1), .i n_, .bool r60, .agg (api.Command.ct r41.1), .i n_, .bool r61, .bool (r60 == r61), .bool (r60 == r61), .bool true, .agg (api.Command.ct c_), .i n_, .bool r63, .agg (api.Command.ct c_), .i n_, .bool r64, .bool (r63 == r64), .bool (r63 == r64), .bool true, .str name, .str r66, .str name, .str r67, bd (r66 = r67), bd (r66 = r67), .bool true, .bool r69, .bool r69, .bool r69] (by decide +kernel) Z Z ?_ ?_
 exact ⟨stepg_plain Z (op_loadN (i := 0) Z isAgg23 sizeOf23 (tm Z) Z (nb Z) Z ⟨Z, Z⟩), stepg_plain Z (op_loadN (i := 0) Z isAgg23 sizeOf23 (tm Z) Z (nb Z) Z ⟨Z, Z⟩), yp Z (APure.eq (pu_structEq (b := (decide (r39.1.Name = r41.1.Name) && (decide (r39.1.Arity = r41.1.Arity) && (decide (r39.1.Of = r41.1.Of) && (decide (r39.1.Write = r41.1.Write) && (decide (r39.1.Grow = r41.1.Grow) && (decide (r39.1.Free = r41.1.Free) && (decide (r39.1.Keys = r41.1.Keys) && (decide (r39.1.First = r41.1.First) && (decide (r39.1.Last = r41.1.Last) && (decide (r39.1.Step = r41.1.Step) && true))))))))))) Z underlying23 (by kernel_rfl) (by kernel_rfl) (tm Z) (tm Z) ⟨_, _, _, _, ⟨by decide, isAgg9, Z, Z, CEq.str underlying9⟩, ⟨_, _, _, _, ⟨by decide, isAgg3, Z, Z, CEq.int underlying3⟩, ⟨_, _, _, _, ⟨by decide, isAgg3, Z, Z, CEq.int underlying3⟩, ⟨_, _, _, _, ⟨by decide, isAgg4, Z, Z, CEq.bool underlying4⟩, ⟨_, _, _, _, ⟨by decide, isAgg4, Z, Z, CEq.bool underlying4⟩, ⟨_, _, _, _, ⟨by decide, isAgg4, Z, Z, CEq.bool underlying4⟩, ⟨_, _, _, _, ⟨by decide, isAgg3, Z, Z, CEq.int underlying3⟩, ⟨_, _, _, _, ⟨by decide, isAgg3, Z, Z, CEq.int underlying3⟩, ⟨_, _, _, _, ⟨by decide, isAgg3, Z, Z, CEq.int underlying3⟩, ⟨_, _, _, _, ⟨by decide, isAgg3, Z, Z, CEq.int underlying3⟩, Z, Z⟩, Z⟩, Z⟩, Z⟩, Z⟩, Z⟩, Z⟩, Z⟩, Z⟩, Z⟩) (congrArg AV.bool (api.Command.eq_iff r39.1 r41.1).symm)), AStepG.cast (ym Z Z Z) (congrArg AV.bool hb58), yq Z Z (pe Z), yq Z Z (pe Z), yq Z Z (pu_boolEq Z underlying4 (tm Z) (tm Z)), yp Z (pe Z), AStepG.cast (ym Z Z Z) (congrArg AV.bool hb59), yg Z Z (op_loadN (i := 0) Z isAgg23 sizeOf23 (tm Z) Z (nb Z) Z ⟨Z, Z⟩), yq Z Z (pe Z), yg Z Z (op_call (vs := [.agg (api.Command.ct r39.1), .i n_]) (H := []) Z call10 ⟨(tm Z), (tm Z), trivial⟩ (R := []) (List.Perm.refl _) (table.Fits.ok r60e) (by rintro _ _ ⟨rfl, rfl⟩; exact ⟨Z, Z⟩)), yg Z Z (op_loadN (i := 0) Z isAgg23 sizeOf23 (tm Z) Z (nb Z) Z ⟨Z, Z⟩), yq Z Z (pe Z), yg Z Z (op_call (vs := [.agg (api.Command.ct r41.1), .i n_]) (H := []) Z call11 ⟨(tm Z), (tm Z), trivial⟩ (R := []) (List.Perm.refl _) (mewsref28.Fits.ok r61e) (by rintro _ _ ⟨rfl, rfl⟩; exact ⟨Z, Z⟩)), yq Z Z (pu_boolEq Z underlying4 (tm Z) (tm Z)), yp Z (pe Z), AStepG.cast (ym Z Z Z) (congrArg AV.bool hb62), yg Z Z (op_loadN (i := 0) Z isAgg23 sizeOf23 (tm Z) Z (nb Z) Z ⟨Z, Z⟩), yq Z Z (pe Z), yg Z Z (op_call (vs := [.agg (api.Command.ct c_), .i n_]) (H := []) Z call10 ⟨(tm Z), (tm Z), trivial⟩ (R := []) (List.Perm.refl _) (table.Fits.ok r63e) (by rintro _ _ ⟨rfl, rfl⟩; exact ⟨Z, Z⟩)), yg Z Z (op_loadN (i := 0) Z isAgg23 sizeOf23 (tm Z) Z (nb Z) Z ⟨Z, Z⟩), yq Z Z (pe Z), yg Z Z (op_call (vs := [.agg (api.Command.ct c_), .i n_]) (H := []) Z call11 ⟨(tm Z), (tm Z), trivial⟩ (R := []) (List.Perm.refl _) (mewsref28.Fits.ok r64e) (by rintro _ _ ⟨rfl, rfl⟩; exact ⟨Z, Z⟩)), yq Z Z (pu_boolEq Z underlying4 (tm Z) (tm Z)), yp Z (pe Z), AStepG.cast (ym Z Z Z) (congrArg AV.bool hb65), yq Z Z (pe Z), yg Z Z (op_call (vs := [.str name]) (H := []) Z call12 ⟨(tm Z), trivial⟩ (R := []) (List.Perm.refl _) (table.Upper.ok r66e) (by rintro _ _ ⟨rfl, rfl⟩; exact ⟨Z, Z⟩)), yq Z Z (pe Z), yg Z Z (op_call (vs := [.str name]) (H := []) Z call13 ⟨(tm Z), trivial⟩ (R := []) (List.Perm.refl _) (mewsref28.Upper.ok r67e) (by rintro _ _ ⟨rfl, rfl⟩; exact ⟨Z, Z⟩)), yq Z Z (pu_str (v := bd (r66 = r67)) Z Z (tm Z) (tm Z) Z), yp Z (pe Z), AStepG.cast (ym Z Z Z) (congrArg AV.bool hb68), yg Z Z (op_call (vs := []) (H := []) Z call7 trivial (R := []) (List.Perm.refl _) (mewslaw28.alive.ok r69e) (by rintro _ _ ⟨rfl, rfl⟩; exact ⟨Z, Z⟩)), yp Z (pe Z), ym Z Z Z, trivial⟩
 cases h
 exact ⟨(), wi [] Z⟩
 replace h := ite_f (dec_f hb68) h
 refine aw_planR (by decide +kernel) [[(1, 0, false)], [(0, 0, false)], [], [], [], [], [], [], [], [(1, 0, false)], [], [], [(0, 0, false)], [], [], [], [], [], [(2, 0, false)], [], [], [(2, 0, false)], [], [], [], [], [], [], [], [], [], [], [], [], [], [], []] [[], [], []] [[[(p42, .cells (api.Command.ct r41.1))]], [[(p40, .cells (api.Command.ct r39.1))]], [[(p36, .cells (api.Command.ct c_))]]] [.agg (api.Command.ct r39.1), .agg (api.Command.ct r41.1), bd (r39.1 = r41.1), .bool true, .bool r39.2, .bool r41.2, .bool (r39.2 == r41.2), .bool (r39.2 == r41.2), .bool true, .agg (api.Command.ct r39.1), .i n_, .bool r60, .agg (api.Command.ct r41.1), .i n_, .bool r61, .bool (r60 == r61), .bool (r60 == r61), .bool true, .agg (api.Command.ct c_), .i n_, .bool r63, .agg (api.Command.ct c_), .i n_, .bool r64, .bool (r63 == r64), .bool (r63 == r64), .bool true, .str name, .str r66, .str name, .str r67, bd (r66 = r67), bd (r66 = r67), .bool false, .lit undef, .bool false, .bool false] (by decide +kernel) Z Z ?_ ?_
 exact ⟨stepg_plain Z (op_loadN (i := 0) Z isAgg23 sizeOf23 (tm Z) Z (nb Z) Z ⟨Z, Z⟩), stepg_plain Z (op_loadN (i := 0) Z isAgg23 sizeOf23 (tm Z) Z (nb Z) Z ⟨Z, Z⟩), yp Z (APure.eq (pu_structEq (b := (decide (r39.1.Name = r41.1.Name) && (decide (r39.1.Arity = r41.1.Arity) && (decide (r39.1.Of = r41.1.Of) && (decide (r39.1.Write = r41.1.Write) && (decide (r39.1.Grow = r41.1.Grow) && (decide (r39.1.Free = r41.1.Free) && (decide (r39.1.Keys = r41.1.Keys) && (decide (r39.1.First = r41.1.First) && (decide (r39.1.Last = r41.1.Last) && (decide (r39.1.Step = r41.1.Step) && true))))))))))) Z underlying23 (by kernel_rfl) (by kernel_rfl) (tm Z) (tm Z) ⟨_, _, _, _, ⟨by decide, isAgg9, Z, Z, CEq.str underlying9⟩, ⟨_, _, _, _, ⟨by decide, isAgg3, Z, Z, CEq.int underlying3⟩, ⟨_, _, _, _, ⟨by decide, isAgg3, Z, Z, CEq.int underlying3⟩, ⟨_, _, _, _, ⟨by decide, isAgg4, Z, Z, CEq.bool underlying4⟩, ⟨_, _, _, _, ⟨by decide, isAgg4, Z, Z, CEq.bool underlying4⟩, ⟨_, _, _, _, ⟨by decide, isAgg4, Z, Z, CEq.bool underlying4⟩, ⟨_, _, _, _, ⟨by decide, isAgg3, Z, Z, CEq.int underlying3⟩, ⟨_, _, _, _, ⟨by decide, isAgg3, Z, Z, CEq.int underlying3⟩, ⟨_, _, _, _, ⟨by decide, isAgg3, Z, Z, CEq.int underlying3⟩, ⟨_, _, _, _, ⟨by decide, isAgg3, Z, Z, CEq.int underlying3⟩, Z, Z⟩, Z⟩, Z⟩, Z⟩, Z⟩, Z⟩, Z⟩, Z⟩, Z⟩, Z⟩) (congrArg AV.bool (api.Command.eq_iff r39.1 r41.1).symm)), AStepG.cast (ym Z Z Z) (congrArg AV.bool hb58), yq Z Z (pe Z), yq Z Z (pe Z), yq Z Z (pu_boolEq Z underlying4 (tm Z) (tm Z)), yp Z (pe Z), AStepG.cast (ym Z Z Z) (congrArg AV.bool hb59), yg Z Z (op_loadN (i := 0) Z isAgg23 sizeOf23 (tm Z) Z (nb Z) Z ⟨Z, Z⟩), yq Z Z (pe Z), yg Z Z (op_call (vs := [.agg (api.Command.ct r39.1), .i n_]) (H := []) Z call10 ⟨(tm Z), (tm Z), trivial⟩ (R := []) (List.Perm.refl _) (table.Fits.ok r60e) (by rintro _ _ ⟨rfl, rfl⟩; exact ⟨Z, Z⟩)), yg Z Z (op_loadN (i := 0) Z isAgg23 sizeOf23 (tm Z) Z (nb Z) Z ⟨Z, Z⟩), yq Z Z (pe Z), yg Z Z (op_call (vs := [.agg (api.Command.ct r41.1), .i n_]) (H := []) Z call11 ⟨(tm Z), (tm Z), trivial⟩ (R := []) (List.Perm.refl _) (mewsref28.Fits.ok r61e) (by rintro _ _ ⟨rfl, rfl⟩; exact ⟨Z, Z⟩)), yq Z Z (pu_boolEq Z underlying4 (tm Z) (tm Z)), yp Z (pe Z), AStepG.cast (ym Z Z Z) (congrArg AV.bool hb62), yg Z Z (op_loadN (i := 0) Z isAgg23 sizeOf23 (tm Z) Z (nb Z) Z ⟨Z, Z⟩), yq Z Z (pe Z), yg Z Z (op_call (vs := [.agg (api.Command.ct c_), .i n_]) (H := []) Z call10 ⟨(tm Z), (tm Z), trivial⟩ (R := []) (List.Perm.refl _) (table.Fits.ok r63e) (by rintro _ _ ⟨rfl, rfl⟩; exact ⟨Z, Z⟩)), yg Z Z (op_loadN (i := 0) Z isAgg23 sizeOf23 (tm Z) Z (nb Z) Z ⟨Z, Z⟩), yq Z Z (pe Z), yg Z Z (op_call (vs := [.agg (api.Command.ct c_), .i n_]) (H := []) Z call11 ⟨(tm Z), (tm Z), trivial⟩ (R := []) (List.Perm.refl _) (mewsref28.Fits.ok r64e) (by rintro _ _ ⟨rfl, rfl⟩; exact ⟨Z, Z⟩)), yq Z Z (pu_boolEq Z underlying4 (tm Z) (tm Z)), yp Z (pe Z), AStepG.cast (ym Z Z Z) (congrArg AV.bool hb65), yq Z Z (pe Z), yg Z Z (op_call (vs := [.str name]) (H := []) Z call12 ⟨(tm Z), trivial⟩ (R := []) (List.Perm.refl _) (table.Upper.ok r66e) (by rintro _ _ ⟨rfl, rfl⟩; exact ⟨Z, Z⟩)), yq Z Z (pe Z), yg Z Z (op_call (vs := [.str name]) (H := []) Z call13 ⟨(tm Z), trivial⟩ (R := []) (List.Perm.refl _) (mewsref28.Upper.ok r67e) (by rintro _ _ ⟨rfl, rfl⟩; exact ⟨Z, Z⟩)), yq Z Z (pu_str (v := bd (r66 = r67)) Z Z (tm Z) (tm Z) Z), yp Z (pe Z), AStepG.cast (ym Z Z Z) (congrArg AV.bool hb68), yx Z Z Z, yp Z (pe Z), ym Z Z Z, trivial⟩
 cases h
 exact ⟨(), wi [] Z⟩
 replace h := ite_fb hb65 h
 refine aw_planR (by decide +kernel) [[(1, 0, false)], [(0, 0, false)], [], [], [], [], [], [], [], [(1, 0, false)], [], [], [(0, 0, false)], [], [], [], [], [], [(2, 0, false)], [], [], [(2, 0, false)], [], [], [], [], [], [], [], [], [], [], [], [], [], [], []] [[], [], []] [[[(p42, .cells (api.Command.ct r41.1))]], [[(p40, .cells (api.Command.ct r39.1))]], [[(p36, .cells (api.Command.ct c_))]]] [.agg (api.Command.ct r39.1), .agg (api.Command.ct r41.1), bd (r39.1 = r41.1), .bool true, .bool r39.2, .bool r41.2, .bool (r39.2 == r41.2), .bool (r39.2 == r41.2), .bool true, .agg (api.Command.ct r39.1), .i n_, .bool r60, .agg (api.Command.ct r41.1), .i n_, .bool r61, .bool (r60 == r61), .bool (r60 == r61), .bool true, .agg (api.Command.ct c_), .i n_, .bool r63, .agg (api.Command.ct c_), .i n_, .bool r64, .bool (r63 == r64), .bool (r63 == r64), .bool false, .lit undef, .lit undef, .lit undef, .lit undef, .lit undef, .bool false, .bool false, .lit undef, .bool false, .bool false] (by decide +kernel) Z Z ?_ ?_
 exact ⟨stepg_plain Z (op_loadN (i := 0) Z isAgg23 sizeOf23 (tm Z) Z (nb Z) Z ⟨Z, Z⟩), stepg_plain Z (op_loadN (i := 0) Z isAgg23 sizeOf23 (tm Z) Z (nb Z) Z ⟨Z, Z⟩), yp Z (APure.eq (pu_structEq (b := (decide (r39.1.Name = r41.1.Name) && (decide (r39.1.Arity = r41.1.Arity) && (decide (r39.1.Of = r41.1.Of) && (decide (r39.1.Write = r41.1.Write) && (decide (r39.1.Grow = r41.1.Grow) && (decide (r39.1.Free = r41.1.Free) && (decide (r39.1.Keys = r41.1.Keys) && (decide (r39.1.First = r41.1.First) && (decide (r39.1.Last = r41.1.Last) && (decide (r39.1.Step = r41.1.Step) && true))))))))))) Z underlying23 (by kernel_rfl) (by kernel_rfl) (tm Z) (tm Z) ⟨_, _, _, _, ⟨by decide, isAgg9, Z, Z, CEq.str underlying9⟩, ⟨_, _, _, _, ⟨by decide, isAgg3, Z, Z, CEq.int underlying3⟩, ⟨_, _, _, _, ⟨by decide, isAgg3, Z, Z, CEq.int underlying3⟩, ⟨_, _, _, _, ⟨by decide, isAgg4, Z, Z, CEq.bool underlying4⟩, ⟨_, _, _, _, ⟨by decide, isAgg4, Z, Z, CEq.bool underlying4⟩, ⟨_, _, _, _, ⟨by decide, isAgg4, Z, Z, CEq.bool underlying4⟩, ⟨_, _, _, _, ⟨by decide, isAgg3, Z, Z, CEq.int underlying3⟩, ⟨_, _, _, _, ⟨by decide, isAgg3, Z, Z, CEq.int underlying3⟩, ⟨_, _, _, _, ⟨by decide, isAgg3, Z, Z, CEq.int underlying3⟩, ⟨_, _, _, _, ⟨by decide, isAgg3, Z, Z, CEq.int underlying3⟩, Z, Z⟩, Z⟩, Z⟩, Z⟩, Z⟩, Z⟩, Z⟩, Z⟩, Z⟩, Z⟩) (congrArg AV.bool (api.Command.eq_iff r39.1 r41.1).symm)), AStepG.cast (ym Z Z Z) (congrArg AV.bool hb58), yq Z Z (pe Z), yq Z Z (pe Z), yq Z Z (pu_boolEq Z underlying4 (tm Z) (tm Z)), yp Z (pe Z), AStepG.cast (ym Z Z Z) (congrArg AV.bool hb59), yg Z Z (op_loadN (i := 0) Z isAgg23 sizeOf23 (tm Z) Z (nb Z) Z ⟨Z, Z⟩), yq Z Z (pe Z), yg Z Z (op_call (vs := [.agg (api.Command.ct r39.1), .i n_]) (H := []) Z call10 ⟨(tm Z), (tm Z), trivial⟩ (R := []) (List.Perm.refl _) (table.Fits.ok r60e) (by rintro _ _ ⟨rfl, rfl⟩; exact ⟨Z, Z⟩)), yg Z Z (op_loadN (i := 0) Z isAgg23 sizeOf23 (tm Z) Z (nb Z) Z ⟨Z, Z⟩), yq Z Z (pe Z), yg Z Z (op_call (vs := [.agg (api.Command.ct r41.1), .i n_]) (H := []) Z call11 ⟨(tm Z), (tm Z), trivial⟩ (R := []) (List.Perm.refl _) (mewsref28.Fits.ok r61e) (by rintro _ _ ⟨rfl, rfl⟩; exact ⟨Z, Z⟩)), yq Z Z (pu_boolEq Z underlying4 (tm Z) (tm Z)), yp Z (pe Z), AStepG.cast (ym Z Z Z) (congrArg AV.bool hb62), yg Z Z (op_loadN (i := 0) Z isAgg23 sizeOf23 (tm Z) Z (nb Z) Z ⟨Z, Z⟩), yq Z Z (pe Z), yg Z Z (op_call (vs := [.agg (api.Command.ct c_), .i n_]) (H := []) Z call10 ⟨(tm Z), (tm Z), trivial⟩ (R := []) (List.Perm.refl _) (table.Fits.ok r63e) (by rintro _ _ ⟨rfl, rfl⟩; exact ⟨Z, Z⟩)), yg Z Z (op_loadN (i := 0) Z isAgg23 sizeOf23 (tm Z) Z (nb Z) Z ⟨Z, Z⟩), yq Z Z (pe Z), yg Z Z (op_call (vs := [.agg (api.Command.ct c_), .i n_]) (H := []) Z call11 ⟨(tm Z), (tm Z), trivial⟩ (R := []) (List.Perm.refl _) (mewsref28.Fits.ok r64e) (by rintro _ _ ⟨rfl, rfl⟩; exact ⟨Z, Z⟩)), yq Z Z (pu_boolEq Z underlying4 (tm Z) (tm Z)), yp Z (pe Z), AStepG.cast (ym Z Z Z) (congrArg AV.bool hb65), yx Z Z Z, yx Z Z Z, yx Z Z Z, yx Z Z Z, yx Z Z Z, yp Z (pe Z), ym Z Z Z, yx Z Z Z, yp Z (pe Z), ym Z Z Z, trivial⟩
 cases h
 exact ⟨(), wi [] Z⟩
 replace h := ite_fb hb62 h
 refine aw_planR (by decide +kernel) [[(1, 0, false)], [(0, 0, false)], [], [], [], [], [], [], [], [(1, 0, false)], [], [], [(0, 0, false)], [], [], [], [], [], [], [], [], [], [], [], [], [], [], [], [], [], [], [], [], [], [], [], []] [[], [], []] [[[(p42, .cells (api.Command.ct r41.1))]], [[(p40, .cells (api.Command.ct r39.1))]], [[(p36, .cells (api.Command.ct c_))]]] [.agg (api.Command.ct r39.1), .agg (api.Command.ct r41.1), bd (r39.1 = r41.1), .bool true, .bool r39.2, .bool r41.2, .bool (r39.2 == r41.2), .bool (r39.2 == r41.2), .bool true, .agg (api.Command.ct r39.1), .i n_, .bool r60, .agg (api.Command.ct r41.1), .i n_, .bool r61, .bool (r60 == r61), .bool (r60 == r61), .bool false, .lit undef, .lit undef, .lit undef, .lit undef, .lit undef, .lit undef, .lit undef, .bool false, .bool false, .lit undef, .lit undef, .lit undef, .lit undef, .lit undef, .bool false, .bool false, .lit undef, .bool false, .bool false] (by decide +kernel) Z Z ?_ ?_
 exact ⟨stepg_plain Z (op_loadN (i := 0) Z isAgg23 sizeOf23 (tm Z) Z (nb Z) Z ⟨Z, Z⟩), stepg_plain Z (op_loadN (i := 0) Z isAgg23 sizeOf23 (tm Z) Z (nb Z) Z ⟨Z, Z⟩), yp Z (APure.eq (pu_structEq (b := (decide (r39.1.Name = r41.1.Name) && (decide (r39.1.Arity = r41.1.Arity) && (decide (r39.1.Of = r41.1.Of) && (decide (r39.1.Write = r41.1.Write) && (decide (r39.1.Grow = r41.1.Grow) && (decide (r39.1.Free = r41.1.Free) && (decide (r39.1.Keys = r41.1.Keys) && (decide (r39.1.First = r41.1.First) && (decide (r39.1.Last = r41.1.Last) && (decide (r39.1.Step = r41.1.Step) && true))))))))))) Z underlying23 (by kernel_rfl) (by kernel_rfl) (tm Z) (tm Z) ⟨_, _, _, _, ⟨by decide, isAgg9, Z, Z, CEq.str underlying9⟩, ⟨_, _, _, _, ⟨by decide, isAgg3, Z, Z, CEq.int underlying3⟩, ⟨_, _, _, _, ⟨by decide, isAgg3, Z, Z, CEq.int underlying3⟩, ⟨_, _, _, _, ⟨by decide, isAgg4, Z, Z, CEq.bool underlying4⟩, ⟨_, _, _, _, ⟨by decide, isAgg4, Z, Z, CEq.bool underlying4⟩, ⟨_, _, _, _, ⟨by decide, isAgg4, Z, Z, CEq.bool underlying4⟩, ⟨_, _, _, _, ⟨by decide, isAgg3, Z, Z, CEq.int underlying3⟩, ⟨_, _, _, _, ⟨by decide, isAgg3, Z, Z, CEq.int underlying3⟩, ⟨_, _, _, _, ⟨by decide, isAgg3, Z, Z, CEq.int underlying3⟩, ⟨_, _, _, _, ⟨by decide, isAgg3, Z, Z, CEq.int underlying3⟩, Z, Z⟩, Z⟩, Z⟩, Z⟩, Z⟩, Z⟩, Z⟩, Z⟩, Z⟩, Z⟩) (congrArg AV.bool (api.Command.eq_iff r39.1 r41.1).symm)), AStepG.cast (ym Z Z Z) (congrArg AV.bool hb58), yq Z Z (pe Z), yq Z Z (pe Z), yq Z Z (pu_boolEq Z underlying4 (tm Z) (tm Z)), yp Z (pe Z), AStepG.cast (ym Z Z Z) (congrArg AV.bool hb59), yg Z Z (op_loadN (i := 0) Z isAgg23 sizeOf23 (tm Z) Z (nb Z) Z ⟨Z, Z⟩), yq Z Z (pe Z), yg Z Z (op_call (vs := [.agg (api.Command.ct r39.1), .i n_]) (H := []) Z call10 ⟨(tm Z), (tm Z), trivial⟩ (R := []) (List.Perm.refl _) (table.Fits.ok r60e) (by rintro _ _ ⟨rfl, rfl⟩; exact ⟨Z, Z⟩)), yg Z Z (op_loadN (i := 0) Z isAgg23 sizeOf23 (tm Z) Z (nb Z) Z ⟨Z, Z⟩), yq Z Z (pe Z), yg Z Z (op_call (vs := [.agg (api.Command.ct r41.1), .i n_]) (H := []) Z call11 ⟨(tm Z), (tm Z), trivial⟩ (R := []) (List.Perm.refl _) (mewsref28.Fits.ok r61e) (by rintro _ _ ⟨rfl, rfl⟩; exact ⟨Z, Z⟩)), yq Z Z (pu_boolEq Z underlying4 (tm Z) (tm Z)), yp Z (pe Z), AStepG.cast (ym Z Z Z) (congrArg AV.bool hb62), yx Z Z Z, yx Z Z Z, yx Z Z Z, yx Z Z Z, yx Z Z Z, yx Z Z Z, yx Z Z Z, yp Z (pe Z), ym Z Z Z, yx Z Z Z, yx Z Z Z, yx Z Z Z, yx Z Z Z, yx Z Z Z, yp Z (pe Z), ym Z Z Z, yx Z Z Z, yp Z (pe Z), ym Z Z Z, trivial⟩
 cases h
 exact ⟨(), wi [] Z⟩
 replace h := ite_fb hb59 h
 refine aw_planR (by decide +kernel) [[(1, 0, false)], [(0, 0, false)], [], [], [], [], [], [], [], [], [], [], [], [], [], [], [], [], [], [], [], [], [], [], [], [], [], [], [], [], [], [], [], [], [], [], []] [[], [], []] [[[(p42, .cells (api.Command.ct r41.1))]], [[(p40, .cells (api.Command.ct r39.1))]], [[(p36, .cells (api.Command.ct c_))]]] [.agg (api.Command.ct r39.1), .agg (api.Command.ct r41.1), bd (r39.1 = r41.1), .bool true, .bool r39.2, .bool r41.2, .bool (r39.2 == r41.2), .bool (r39.2 == r41.2), .bool false, .lit undef, .lit undef, .lit undef, .lit undef, .lit undef, .lit undef, .lit undef, .bool false, .bool false, .lit undef, .lit undef, .lit undef, .lit undef, .lit undef, .lit undef, .lit undef, .bool false, .bool false, .lit undef, .lit undef, .lit undef, .lit undef, .lit undef, .bool false, .bool false, .lit undef, .bool false, .bool false] (by decide +kernel) Z Z ?_ ?_
 exact ⟨stepg_plain Z (op_loadN (i := 0) Z isAgg23 sizeOf23 (tm Z) Z (nb Z) Z ⟨Z, Z⟩), stepg_plain Z (op_loadN (i := 0) Z isAgg23 sizeOf23 (tm Z) Z (nb Z) Z ⟨Z, Z⟩), yp Z (APure.eq (pu_structEq (b := (decide (r39.1.Name = r41.1.Name) && (decide (r39.1.Arity = r41.1.Arity) && (decide (r39.1.Of = r41.1.Of) && (decide (r39.1.Write = r41.1.Write) && (decide (r39.1.Grow = r41.1.Grow) && (decide (r39.1.Free = r41.1.Free) && (decide (r39.1.Keys = r41.1.Keys) && (decide (r39.1.First = r41.1.First) && (decide (r39.1.Last = r41.1.Last) && (decide (r39.1.Step = r41.1.Step) && true))))))))))) Z underlying23 (by kernel_rfl) (by kernel_rfl) (tm Z) (tm Z) ⟨_, _, _, _, ⟨by decide, isAgg9, Z, Z, CEq.str underlying9⟩, ⟨_, _, _, _, ⟨by decide, isAgg3, Z, Z, CEq.int underlying3⟩, ⟨_, _, _, _, ⟨by decide, isAgg3, Z, Z, CEq.int underlying3⟩, ⟨_, _, _, _, ⟨by decide, isAgg4, Z, Z, CEq.bool underlying4⟩, ⟨_, _, _, _, ⟨by decide, isAgg4, Z, Z, CEq.bool underlying4⟩, ⟨_, _, _, _, ⟨by decide, isAgg4, Z, Z, CEq.bool underlying4⟩, ⟨_, _, _, _, ⟨by decide, isAgg3, Z, Z, CEq.int underlying3⟩, ⟨_, _, _, _, ⟨by decide, isAgg3, Z, Z, CEq.int underlying3⟩, ⟨_, _, _, _, ⟨by decide, isAgg3, Z, Z, CEq.int underlying3⟩, ⟨_, _, _, _, ⟨by decide, isAgg3, Z, Z, CEq.int underlying3⟩, Z, Z⟩, Z⟩, Z⟩, Z⟩, Z⟩, Z⟩, Z⟩, Z⟩, Z⟩, Z⟩) (congrArg AV.bool (api.Command.eq_iff r39.1 r41.1).symm)), AStepG.cast (ym Z Z Z) (congrArg AV.bool hb58), yq Z Z (pe Z), yq Z Z (pe Z), yq Z Z (pu_boolEq Z underlying4 (tm Z) (tm Z)), yp Z (pe Z), AStepG.cast (ym Z Z Z) (congrArg AV.bool hb59), yx Z Z Z, yx Z Z Z, yx Z Z Z, yx Z Z Z, yx Z Z Z, yx Z Z Z, yx Z Z Z, yp Z (pe Z), ym Z Z Z, yx Z Z Z, yx Z Z Z, yx Z Z Z, yx Z Z Z, yx Z Z Z, yx Z Z Z, yx Z Z Z, yp Z (pe Z), ym Z Z Z, yx Z Z Z, yx Z Z Z, yx Z Z Z, yx Z Z Z, yx Z Z Z, yp Z (pe Z), ym Z Z Z, yx Z Z Z, yp Z (pe Z), ym Z Z Z, trivial⟩
 cases h
 exact ⟨(), wi [] Z⟩
 replace h := ite_f (dec_f hb58) h
 refine aw_planR (by decide +kernel) [[(1, 0, false)], [(0, 0, false)], [], [], [], [], [], [], [], [], [], [], [], [], [], [], [], [], [], [], [], [], [], [], [], [], [], [], [], [], [], [], [], [], [], [], []] [[], [], []] [[[(p42, .cells (api.Command.ct r41.1))]], [[(p40, .cells (api.Command.ct r39.1))]], [[(p36, .cells (api.Command.ct c_))]]] [.agg (api.Command.ct r39.1), .agg (api.Command.ct r41.1), bd (r39.1 = r41.1), .bool false, .lit undef, .lit undef, .lit undef, .bool false, .bool false, .lit undef, .lit undef, .lit undef, .lit undef, .lit undef, .lit undef, .lit undef, .bool false, .bool false, .lit undef, .lit undef, .lit undef, .lit undef, .lit undef, .lit undef, .lit undef, .bool false, .bool false, .lit undef, .lit undef, .lit undef, .lit undef, .lit undef, .bool false, .bool false, .lit undef, .bool false, .bool false] (by decide +kernel) Z Z ?_ ?_
 exact ⟨stepg_plain Z (op_loadN (i := 0) Z isAgg23 sizeOf23 (tm Z) Z (nb Z) Z ⟨Z, Z⟩), stepg_plain Z (op_loadN (i := 0) Z isAgg23 sizeOf23 (tm Z) Z (nb Z) Z ⟨Z, Z⟩), yp Z (APure.eq (pu_structEq (b := (decide (r39.1.Name = r41.1.Name) && (decide (r39.1.Arity = r41.1.Arity) && (decide (r39.1.Of = r41.1.Of) && (decide (r39.1.Write = r41.1.Write) && (decide (r39.1.Grow = r41.1.Grow) && (decide (r39.1.Free = r41.1.Free) && (decide (r39.1.Keys = r41.1.Keys) && (decide (r39.1.First = r41.1.First) && (decide (r39.1.Last = r41.1.Last) && (decide (r39.1.Step = r41.1.Step) && true))))))))))) Z underlying23 (by kernel_rfl) (by kernel_rfl) (tm Z) (tm Z) ⟨_, _, _, _, ⟨by decide, isAgg9, Z, Z, CEq.str underlying9⟩, ⟨_, _, _, _, ⟨by decide, isAgg3, Z, Z, CEq.int underlying3⟩, ⟨_, _, _, _, ⟨by decide, isAgg3, Z, Z, CEq.int underlying3⟩, ⟨_, _, _, _, ⟨by decide, isAgg4, Z, Z, CEq.bool underlying4⟩, ⟨_, _, _, _, ⟨by decide, isAgg4, Z, Z, CEq.bool underlying4⟩, ⟨_, _, _, _, ⟨by decide, isAgg4, Z, Z, CEq.bool underlying4⟩, ⟨_, _, _, _, ⟨by decide, isAgg3, Z, Z, CEq.int underlying3⟩, ⟨_, _, _, _, ⟨by decide, isAgg3, Z, Z, CEq.int underlying3⟩, ⟨_, _, _, _, ⟨by decide, isAgg3, Z, Z, CEq.int underlying3⟩, ⟨_, _, _, _, ⟨by decide, isAgg3, Z, Z, CEq.int underlying3⟩, Z, Z⟩, Z⟩, Z⟩, Z⟩, Z⟩, Z⟩, Z⟩, Z⟩, Z⟩, Z⟩) (congrArg AV.bool (api.Command.eq_iff r39.1 r41.1).symm)), AStepG.cast (ym Z Z Z) (congrArg AV.bool hb58), yx Z Z Z, yx Z Z Z, yx Z Z Z, yp Z (pe Z), ym Z Z Z, yx Z Z Z, yx Z Z Z, yx Z Z Z, yx Z Z Z, yx Z Z Z, yx Z Z Z, yx Z Z Z, yp Z (pe Z), ym Z Z Z, yx Z Z Z, yx Z Z Z, yx Z Z Z, yx Z Z Z, yx Z Z Z, yx Z Z Z, yx Z Z Z, yp Z (pe Z), ym Z Z Z, yx Z Z Z, yx Z Z Z, yx Z Z Z, yx Z Z Z, yx Z Z Z, yp Z (pe Z), ym Z Z Z, yx Z Z Z, yp Z (pe Z), ym Z Z Z, trivial⟩
 cases h
 exact ⟨(), wi [] Z⟩
 intro _
 have h := h56
 refine aw_ret ?_
 cases h
 exact rt ⟨Z, Z⟩ Z w0

end Go.Pu
