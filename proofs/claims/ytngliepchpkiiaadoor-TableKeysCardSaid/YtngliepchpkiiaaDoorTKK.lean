/- Printed by lift.py: the functions come to them. -/
import Derived.Test.YtngliepchpkiiaaDoorLiftWS
import Derived.Test.YtngliepchpkiiaaDoorTKK1
set_option maxRecDepth 100000
set_option maxHeartbeats 0
namespace Go.Pu
open Go.Lift Go.Proofs.Tryd Go.RowKit Go.Proofs

theorem mewsref28.Commands.ok  {r : List api.Command} (h : mewsref28.Commands = some r) : Sp prog 18 [] [] (fun v H => ∃ n0, v = .sl (.own n0) 10 (m3L r) ∧ H = [(n0, .spare)]) := by
 unfold mewsref28.Commands at h
 refine sb [.tmp 0] func18 Z (xr (xa (.sl .full 10 e2L) Z (pu_assign Z (AEv.nil 10 (by decide))) (xe (xr (xa (.sl .full 10 e2L) Z (pu_assign Z (AEv.nil 10 (by decide))) (xe (aw_seq ?_)))))))
 refine aw_region ?_
 obtain ⟨r175, r175e, h⟩ := bind_some h
 refine xc Z (op_call (vs := [.str longS1, .int .u8 10]) (H := []) Z call25 ⟨(AEv.const (by kernel_rfl)), (AEv.int _ _), trivial⟩ (List.Perm.refl _) (mewsref28.split.ok r175e) ?_)
 rintro _ _ ⟨t176, rfl, rfl⟩
 refine xy Z (xe ?_)
 obtain ⟨s261, s261e, h263⟩ := bind_some h
 refine aw_meet (ν := Nat) (fun v => [(1, .sl (.own v) 10 (m3L s261))]) (fun v => [(v, .spare)]) ?_ ?_
 have h := s261e
 refine xr (xz (.i 0) Z (xe (aw_block (aw_claim 1 (tm Z) fun t348 => (aw_while (σ := mewsref28.Commands.S0) (ν := Nat) (mewsref28.Commands.body0 r175) (fun s318 v => [(1, .sl (.own v) 10 (m3L s318.out)), (2, .sl (.own t176) 1 (m0L r175)), (3, .i s318.i)]) (fun s318 v => [(v, .spare), (t176, .spare)]) ⟨([] : List api.Command), 0⟩ t348 _ h (wi [0, 1] Z) ?_)))))
 rintro s318 n319 x321 h hx320
 unfold mewsref28.Commands.body0 at h
 refine aw_seq (xr (xy Z (xy Z (xa (.i (r175.length : Int)) Z (pu_lenM Z underlying31 (tm Z)) (xz (bd (s318.i < (r175.length : Int))) Z (xe (cd h Z (fun _ h => ?_) (fun _ h => ?_))))))))
 refine aw_skip (aw_seq (aw_block (xr (xy Z (xy Z ?_)))))
 obtain ⟨c323, h⟩ := need_of h
 refine xa (.vptr [.str (ix r175 s318.i)]) Z (pu_indexAddrM Z underlying31 sizeOf9 (tm Z) (tm Z) c323 Z) (xc Z (op_loadV1 Z isAgg9 (tm Z) Z ?_))
 obtain ⟨r324, r324e, h⟩ := bind_some h
 refine xk (mewsref28.split.ok r324e) call25 Z ?_
 rintro _ _ ⟨t325, rfl, rfl⟩
 refine xy Z (xe ?_)
 obtain ⟨c326, h⟩ := need_of h
 obtain ⟨c327, h⟩ := need_of h
 obtain ⟨r328, r328e, h⟩ := bind_some h
 obtain ⟨c329, h⟩ := need_of h
 obtain ⟨r330, r330e, h⟩ := bind_some h
 obtain ⟨c331, h⟩ := need_of h
 obtain ⟨r332, r332e, h⟩ := bind_some h
 obtain ⟨c333, h⟩ := need_of h
 obtain ⟨r334, r334e, h⟩ := bind_some h
 obtain ⟨c335, h⟩ := need_of h
 obtain ⟨r336, r336e, h⟩ := bind_some h
 obtain ⟨c337, h⟩ := need_of h
 obtain ⟨r338, r338e, h⟩ := bind_some h
 obtain ⟨c339, h⟩ := need_of h
 obtain ⟨r340, r340e, h⟩ := bind_some h
 obtain ⟨c341, h⟩ := need_of h
 obtain ⟨r342, r342e, h⟩ := bind_some h
 obtain ⟨c343, h⟩ := need_of h
 obtain ⟨r344, r344e, h⟩ := bind_some h
 obtain ⟨c345, h⟩ := need_of h
 refine aw_reserve fun p346 => (aw_planR (by decide +kernel) [[], [], [], [], [], [], [], [], [], [], [], [], [], [], [], [], [], [], [], [], [], [], [], [], [], [], [], [], [], [], [], [], [], [], [], [], [], [], [], [], [], [], [(2, 0, true), (0, 0, true)], []] [[42], [], [42], []] [[[(p346, .resv)], [(p346, .spare)]], [[(t325, .spare)]], [[(n319, .spare)], []], [[(t176, .spare)]]] [.sl (.own n319) 10 (m3L s318.out), .sl (.own t325) 1 (m0L r324), .vptr [.str (ix r324 0)], .str (ix r324 0), .sl (.own t325) 1 (m0L r324), .vptr [.str (ix r324 1)], .str (ix r324 1), .i r328, .sl (.own t325) 1 (m0L r324), .vptr [.str (ix r324 2)], .str (ix r324 2), .i r330, .sl (.own t325) 1 (m0L r324), .vptr [.str (ix r324 3)], .str (ix r324 3), .bool r332, .sl (.own t325) 1 (m0L r324), .vptr [.str (ix r324 3)], .str (ix r324 3), .bool r334, .sl (.own t325) 1 (m0L r324), .vptr [.str (ix r324 3)], .str (ix r324 3), .bool r336, .sl (.own t325) 1 (m0L r324), .vptr [.str (ix r324 4)], .str (ix r324 4), .i r338, .sl (.own t325) 1 (m0L r324), .vptr [.str (ix r324 5)], .str (ix r324 5), .i r340, .sl (.own t325) 1 (m0L r324), .vptr [.str (ix r324 6)], .str (ix r324 6), .i r342, .sl (.own t325) 1 (m0L r324), .vptr [.str (ix r324 7)], .str (ix r324 7), .i r344, .agg [.str (ix r324 0), .i r328, .i r330, .bool r332, .bool r334, .bool r336, .i r338, .i r340, .i r342, .i r344], .sl .full 10 ([({ Name := ix r324 0, Arity := r328, Of := r330, Write := r332, Grow := r334, Free := r336, Keys := r338, First := r340, Last := r342, Step := r344 } : api.Command)].map api.Command.av), .sl (.own p346) 10 (m3L (s318.out ++ [({ Name := ix r324 0, Arity := r328, Of := r330, Write := r332, Grow := r334, Free := r336, Keys := r338, First := r340, Last := r342, Step := r344 } : api.Command)])), .sl (.own p346) 10 (m3L (s318.out ++ [({ Name := ix r324 0, Arity := r328, Of := r330, Write := r332, Grow := r334, Free := r336, Keys := r338, First := r340, Last := r342, Step := r344 } : api.Command)]))] (by decide +kernel) Z Z ?_ ?_)
 exact ⟨ym Z Z Z, ym Z Z Z, yp Z (pu_indexAddrM Z underlying31 sizeOf9 (tm Z) (AEv.int _ _) c326 Z), stepg_plain Z (op_loadV1 Z isAgg9 (tm Z) Z ⟨Z, Z⟩), ym Z Z Z, yp Z (pu_indexAddrM Z underlying31 sizeOf9 (tm Z) (AEv.int _ _) c327 Z), stepg_plain Z (op_loadV1 Z isAgg9 (tm Z) Z ⟨Z, Z⟩), stepg_plain Z (op_call (vs := [.str (ix r324 1)]) (H := []) Z call26 ⟨(tm Z), trivial⟩ (R := []) (List.Perm.refl _) (mewsref28.number.ok r328e) (by rintro _ _ ⟨rfl, rfl⟩; exact ⟨Z, Z⟩)), ym Z Z Z, yp Z (pu_indexAddrM Z underlying31 sizeOf9 (tm Z) (AEv.int _ _) c329 Z), stepg_plain Z (op_loadV1 Z isAgg9 (tm Z) Z ⟨Z, Z⟩), stepg_plain Z (op_call (vs := [.str (ix r324 2)]) (H := []) Z call26 ⟨(tm Z), trivial⟩ (R := []) (List.Perm.refl _) (mewsref28.number.ok r330e) (by rintro _ _ ⟨rfl, rfl⟩; exact ⟨Z, Z⟩)), ym Z Z Z, yp Z (pu_indexAddrM Z underlying31 sizeOf9 (tm Z) (AEv.int _ _) c331 Z), stepg_plain Z (op_loadV1 Z isAgg9 (tm Z) Z ⟨Z, Z⟩), stepg_plain Z (op_call (vs := [.str (ix r324 3), .int .u8 119]) (H := []) Z call27 ⟨(tm Z), (AEv.int _ _), trivial⟩ (R := []) (List.Perm.refl _) (mewsref28.has.ok r332e) (by rintro _ _ ⟨rfl, rfl⟩; exact ⟨Z, Z⟩)), ym Z Z Z, yp Z (pu_indexAddrM Z underlying31 sizeOf9 (tm Z) (AEv.int _ _) c333 Z), stepg_plain Z (op_loadV1 Z isAgg9 (tm Z) Z ⟨Z, Z⟩), stepg_plain Z (op_call (vs := [.str (ix r324 3), .int .u8 103]) (H := []) Z call27 ⟨(tm Z), (AEv.int _ _), trivial⟩ (R := []) (List.Perm.refl _) (mewsref28.has.ok r334e) (by rintro _ _ ⟨rfl, rfl⟩; exact ⟨Z, Z⟩)), ym Z Z Z, yp Z (pu_indexAddrM Z underlying31 sizeOf9 (tm Z) (AEv.int _ _) c335 Z), stepg_plain Z (op_loadV1 Z isAgg9 (tm Z) Z ⟨Z, Z⟩), stepg_plain Z (op_call (vs := [.str (ix r324 3), .int .u8 102]) (H := []) Z call27 ⟨(tm Z), (AEv.int _ _), trivial⟩ (R := []) (List.Perm.refl _) (mewsref28.has.ok r336e) (by rintro _ _ ⟨rfl, rfl⟩; exact ⟨Z, Z⟩)), ym Z Z Z, yp Z (pu_indexAddrM Z underlying31 sizeOf9 (tm Z) (AEv.int _ _) c337 Z), stepg_plain Z (op_loadV1 Z isAgg9 (tm Z) Z ⟨Z, Z⟩), stepg_plain Z (op_call (vs := [.str (ix r324 4)]) (H := []) Z call26 ⟨(tm Z), trivial⟩ (R := []) (List.Perm.refl _) (mewsref28.number.ok r338e) (by rintro _ _ ⟨rfl, rfl⟩; exact ⟨Z, Z⟩)), ym Z Z Z, yp Z (pu_indexAddrM Z underlying31 sizeOf9 (tm Z) (AEv.int _ _) c339 Z), stepg_plain Z (op_loadV1 Z isAgg9 (tm Z) Z ⟨Z, Z⟩), stepg_plain Z (op_call (vs := [.str (ix r324 5)]) (H := []) Z call26 ⟨(tm Z), trivial⟩ (R := []) (List.Perm.refl _) (mewsref28.number.ok r340e) (by rintro _ _ ⟨rfl, rfl⟩; exact ⟨Z, Z⟩)), ym Z Z Z, yp Z (pu_indexAddrM Z underlying31 sizeOf9 (tm Z) (AEv.int _ _) c341 Z), stepg_plain Z (op_loadV1 Z isAgg9 (tm Z) Z ⟨Z, Z⟩), stepg_plain Z (op_call (vs := [.str (ix r324 6)]) (H := []) Z call26 ⟨(tm Z), trivial⟩ (R := []) (List.Perm.refl _) (mewsref28.number.ok r342e) (by rintro _ _ ⟨rfl, rfl⟩; exact ⟨Z, Z⟩)), ym Z Z Z, yp Z (pu_indexAddrM Z underlying31 sizeOf9 (tm Z) (AEv.int _ _) c343 Z), stepg_plain Z (op_loadV1 Z isAgg9 (tm Z) Z ⟨Z, Z⟩), stepg_plain Z (op_call (vs := [.str (ix r324 7)]) (H := []) Z call26 ⟨(tm Z), trivial⟩ (R := []) (List.Perm.refl _) (mewsref28.number.ok r344e) (by rintro _ _ ⟨rfl, rfl⟩; exact ⟨Z, Z⟩)), yp Z (pu_build (zs := [.str nS, .i 0, .i 0, .bool false, .bool false, .bool false, .i 0, .i 0, .i 0, .i 0]) (szs := [1, 1, 1, 1, 1, 1, 1, 1, 1, 1]) (aparts := [(0, .str (ix r324 0)), (1, .i r328), (2, .i r330), (3, .bool r332), (4, .bool r334), (5, .bool r336), (6, .i r338), (7, .i r340), (8, .i r342), (9, .i r344)]) (cs := [.str (ix r324 0), .i r328, .i r330, .bool r332, .bool r334, .bool r336, .i r338, .i r340, .i r342, .i r344]) Z underlying23 zeroValue23 Z ⟨sizeOf9, sizeOf3, sizeOf3, sizeOf4, sizeOf4, sizeOf4, sizeOf3, sizeOf3, sizeOf3, sizeOf3, trivial⟩ ⟨Z, (tm Z), ⟨Z, (tm Z), ⟨Z, (tm Z), ⟨Z, (tm Z), ⟨Z, (tm Z), ⟨Z, (tm Z), ⟨Z, (tm Z), ⟨Z, (tm Z), ⟨Z, (tm Z), ⟨Z, (tm Z), trivial⟩⟩⟩⟩⟩⟩⟩⟩⟩⟩ Z), stepg_plain Z (op_buildSlice (xs := ([({ Name := ix r324 0, Arity := r328, Of := r330, Write := r332, Grow := r334, Free := r336, Keys := r338, First := r340, Last := r342, Step := r344 } : api.Command)] : List api.Command).map api.Command.av) (aparts := [(0, .agg [.str (ix r324 0), .i r328, .i r330, .bool r332, .bool r334, .bool r336, .i r338, .i r340, .i r342, .i r344])]) Z underlying37 sizeOf23 zeroValue23 (by decide) (by decide) ⟨Z, (tm Z), trivial⟩ Z Z Z ⟨Z, Z⟩), stepg_plain Z (aop_settleS (op_appendOM (q := 0) Z underlying37 underlying37 (.inl Z) typeInfo23 Z Z Z (by decide) (tm Z) Z (given_sl (tm Z)) c345 fun t => ⟨t, Z, Z⟩) ⟨Z, Z⟩), ym Z Z Z, trivial⟩
 refine aw_region (xy Z (xz (.i (w64 (s318.i + 1))) Z (xy Z (xe ?_))))
 cases h
 exact ⟨_, p346, Z, wi [0, 2] Z⟩
 refine aw_exit ?_
 cases h
 cases congrArg some (hx320 _ rfl)
 exact ⟨n319, wi [0] Z⟩
 intro n262
 have h := h263
 refine xr (xy Z (xy Z (xe (aw_ret ?_))))
 cases h
 exact rt ⟨n262, Z, Z⟩ Z (wi [0] Z)

theorem mewsref28.Find.ok {name r} (h : mewsref28.Find name = some r) : Sp prog 9 [.str name] [] (fun v H => v = .tup [.agg [.str r.1.Name, .i r.1.Arity, .i r.1.Of, .bool r.1.Write, .bool r.1.Grow, .bool r.1.Free, .i r.1.Keys, .i r.1.First, .i r.1.Last, .i r.1.Step], .bool r.2] ∧ H = []) := by
 unfold mewsref28.Find at h
 refine sb [.cell 2 23, .tmp 3] func9 Z (xr (xA (.agg [.str nS, .i 0, .i 0, .bool false, .bool false, .bool false, .i 0, .i 0, .i 0, .i 0]) zeroValue23 Z fun p45 => xz (.bool false) Z (xe (xr (xy Z ?_)))))
 obtain ⟨r46, r46e, h⟩ := bind_some h
 refine xo (mewsref28.Upper.ok r46e) call13 Z (xy Z (xe (aw_seq (aw_region ?_))))
 obtain ⟨r47, r47e, h⟩ := bind_some h
 refine xk (mewsref28.Commands.ok r47e) call18 Z ?_
 rintro _ _ ⟨t48, rfl, rfl⟩
 refine xy Z (xe ?_)
 obtain ⟨s88, s88e, h68⟩ := bind_some h
 refine aw_join (σ := Unit) (ν := Unit) (fun u v => [(2, .ptr p45 0)]) (fun u v => [(p45, .cells [.str nS, .i 0, .i 0, .bool false, .bool false, .bool false, .i 0, .i 0, .i 0, .i 0])]) (fun u => s88 = .inl u) ?_ ?_
 intro s67
 intro _
 rintro rfl
 have h := onSum_inl h68
 refine xr (xa (.agg [.str nS, .i 0, .i 0, .bool false, .bool false, .bool false, .i 0, .i 0, .i 0, .i 0]) Z (pu_build (zs := [.str nS, .i 0, .i 0, .bool false, .bool false, .bool false, .i 0, .i 0, .i 0, .i 0]) (szs := [1, 1, 1, 1, 1, 1, 1, 1, 1, 1]) (aparts := []) (cs := [.str nS, .i 0, .i 0, .bool false, .bool false, .bool false, .i 0, .i 0, .i 0, .i 0]) Z underlying23 zeroValue23 Z ⟨sizeOf9, sizeOf3, sizeOf3, sizeOf4, sizeOf4, sizeOf4, sizeOf3, sizeOf3, sizeOf3, sizeOf3, trivial⟩ trivial Z) (xs 0 [.str nS, .i 0, .i 0, .bool false, .bool false, .bool false, .i 0, .i 0, .i 0, .i 0] sizeOf23 Z (xz (.bool false) Z (xe (aw_ret ?_)))))
 cases h
 exact rq [.agg [.str nS, .i 0, .i 0, .bool false, .bool false, .bool false, .i 0, .i 0, .i 0, .i 0], .bool false] ⟨Z, Z⟩ (AV.Le.tup cr) ⟨(CellOk.agg 0 (tm Z) Z isAgg23 sizeOf23 (nb Z) Z), (tm Z), trivial⟩ w0
 have h := s88e
 refine xr (xz (.i 0) Z (xe (aw_block (aw_while (σ := mewsref28.Find.S0) (ν := Unit) (mewsref28.Find.body0 r47 r46) (fun s80 v => [(2, .ptr p45 0), (4, .str r46), (5, .sl (.own t48) 10 (m3L r47)), (6, .i s80.i)]) (fun s80 v => [(p45, .cells [.str nS, .i 0, .i 0, .bool false, .bool false, .bool false, .i 0, .i 0, .i 0, .i 0]), (t48, .spare)]) ⟨0⟩ () _ h (wi [1, 0] Z) ?_))))
 rintro s80 _ x82 h hx81
 unfold mewsref28.Find.body0 at h
 refine aw_seq (xr (xy Z (xy Z (xa (.i (r47.length : Int)) Z (pu_lenM Z underlying37 (tm Z)) (xz (bd (s80.i < (r47.length : Int))) Z (xe (cd h Z (fun _ h => ?_) (fun _ h => ?_))))))))
 refine aw_skip (aw_seq (aw_block (xr (xy Z (xy Z ?_)))))
 obtain ⟨c84, h⟩ := need_of h
 refine xa (.vptr [.str (ix r47 s80.i).Name, .i (ix r47 s80.i).Arity, .i (ix r47 s80.i).Of, .bool (ix r47 s80.i).Write, .bool (ix r47 s80.i).Grow, .bool (ix r47 s80.i).Free, .i (ix r47 s80.i).Keys, .i (ix r47 s80.i).First, .i (ix r47 s80.i).Last, .i (ix r47 s80.i).Step]) Z (pu_indexAddrM Z underlying37 sizeOf23 (tm Z) (tm Z) c84 Z) (xf (.vptr [.str (ix r47 s80.i).Name, .i (ix r47 s80.i).Arity, .i (ix r47 s80.i).Of, .bool (ix r47 s80.i).Write, .bool (ix r47 s80.i).Grow, .bool (ix r47 s80.i).Free, .i (ix r47 s80.i).Keys, .i (ix r47 s80.i).First, .i (ix r47 s80.i).Last, .i (ix r47 s80.i).Step]) underlying23 sizeOf9 Z (xc Z (op_loadV1 Z isAgg9 (tm Z) Z (xy Z (xa (bd ((ix r47 s80.i).Name = r46)) Z (pu_str (v := bd ((ix r47 s80.i).Name = r46)) Z Z (tm Z) (tm Z) Z) (xe (cd h Z (fun _ h => ?_) (fun _ h => ?_))))))))
 refine xr (xy Z (xy Z ?_))
 obtain ⟨c85, h⟩ := need_of h
 refine xa (.vptr [.str (ix r47 s80.i).Name, .i (ix r47 s80.i).Arity, .i (ix r47 s80.i).Of, .bool (ix r47 s80.i).Write, .bool (ix r47 s80.i).Grow, .bool (ix r47 s80.i).Free, .i (ix r47 s80.i).Keys, .i (ix r47 s80.i).First, .i (ix r47 s80.i).Last, .i (ix r47 s80.i).Step]) Z (pu_indexAddrM Z underlying37 sizeOf23 (tm Z) (tm Z) c85 Z) (xc Z (op_loadVN Z isAgg23 sizeOf23 (tm Z) (nb Z) Z (xs 0 (api.Command.ct (ix r47 s80.i)) sizeOf23 Z (xz (.bool true) Z (xe (aw_ret ?_))))))
 cases h
 cases congrArg some (hx81 _ rfl)
 cases onSum_inr h68
 exact rq [.agg (api.Command.ct (ix r47 s80.i)), .bool true] ⟨Z, Z⟩ (AV.Le.tup cr) ⟨(CellOk.agg 0 (tm Z) Z isAgg23 sizeOf23 (nb Z) Z), (tm Z), trivial⟩ w0
 refine aw_skip (aw_region (xy Z (xz (.i (w64 (s80.i + 1))) Z (xy Z (xe ?_)))))
 cases h
 exact ⟨_, (), Z, wi [0, 1] Z⟩
 refine aw_exit ?_
 cases h
 have h := congrArg some (hx81 _ rfl)
 exact ⟨(), (), (some_of h).symm, wi [0] Z⟩

theorem mewsref28.Fits.ok {c_ n_ r} (h : mewsref28.Fits c_ n_ = some r) : Sp prog 11 [.agg (api.Command.ct c_), .i n_] [] (fun v H => v = .bool r ∧ H = []) := by
 unfold mewsref28.Fits at h
 refine sb [.tmp 4] func11 Z (xr (xb (api.Command.ct c_) Z fun p8 => xz (.bool false) Z (xe (aw_seq (xr (xf (.ptr p8 1) underlying23 sizeOf3 Z (xl 0 isAgg3 Z (xz (bd (0 ≤ c_.Arity)) Z (xe (cd h Z (fun _ h => ?_) (fun _ h => ?_)))))))))))
 refine xr (xy Z (xf (.ptr p8 1) underlying23 sizeOf3 Z (xl 0 isAgg3 Z (xz (bd (n_ = c_.Arity)) Z (xy Z (xe (aw_ret ?_)))))))
 cases h
 exact rt ⟨Z, Z⟩ Z w0
 refine aw_skip ?_
 obtain ⟨s10, s10e, h11⟩ := letO_of h
 refine aw_meet (ν := Unit) (fun v => [(4, .bool s10)]) (fun v => []) ?_ ?_
 have h := s10e.symm
 refine aw_region (xy Z (xz (bd (0 ≤ n_)) Z (xy Z ?_)))
 rcases Bool.eq_false_or_eq_true (decide (0 ≤ n_)) with hb13 | hb13
 replace h := ite_t (dec_t hb13) h
 refine aops_known 14 Z hb13 (xp (.ptr p8 1) Z Z (fa Z underlying23 Z sizeOf3 Z Z Z) (xg Z Z (op_load1 (i := 0) Z isAgg3 (tm Z) Z Z (xq Z Z Z Z (xp (.i (w64 (c_.Arity + n_))) Z Z (pe Z) (xp (bd (0 ≤ (w64 (c_.Arity + n_)))) Z Z (pe Z) (xz (bd (0 ≤ (w64 (c_.Arity + n_)))) Z (xy Z (xe ?_)))))))))
 subst h
 exact ⟨(), wi [] Z⟩
 replace h := ite_f (dec_f hb13) h
 refine aops_known 14 Z hb13 (xu Z (xu Z (xu Z (xu Z (xu Z (xz (.bool false) Z (xy Z (xe ?_))))))))
 subst h
 exact ⟨(), wi [] Z⟩
 intro _
 have h := h11
 refine aw_ret ?_
 cases h
 exact rt ⟨Z, Z⟩ Z w0

theorem mewsref28.Keys.ok {args r} (h : mewsref28.Keys args = some r) : Sp prog 15 [.sl .no 1 (m0L args)] [] (fun v H => ∃ n0, v = .tup [.sl (.own n0) 1 (m0L r.1), .bool r.2] ∧ H = [(n0, .spare)]) := by
 unfold mewsref28.Keys at h
 refine sb [.tmp 2, .tmp 3] func15 Z (xr (xa (.sl .full 1 e1L) Z (pu_assign Z (AEv.nil 1 (by decide))) (xz (.bool false) Z (xe (aw_seq (xr (xy Z ?_)))))))
 refine xa (.i (args.length : Int)) Z (pu_lenM Z underlying31 (tm Z)) (xz (bd ((args.length : Int) = 0)) Z (xe (cd h Z (fun _ h => ?_) (fun _ h => ?_))))
 refine xr (xa (.sl .full 1 e1L) Z (pu_assign Z (AEv.nil 1 (by decide))) (xz (.bool false) Z (xe (aw_claim 2 (tm Z) fun t305 => (aw_ret ?_)))))
 cases h
 exact rt ⟨t305, Z, Z⟩ Z (wi [0] Z)
 refine aw_skip (xr (xy Z ?_))
 obtain ⟨c306, h⟩ := need_of h
 refine xa (.vptr [.str (ix args 0)]) Z (pu_indexAddrM Z underlying31 sizeOf9 (tm Z) (AEv.int _ _) c306 Z) (xc Z (op_loadV1 Z isAgg9 (tm Z) Z ?_))
 obtain ⟨r307, r307e, h⟩ := bind_some h
 refine xo (mewsref28.Find.ok r307e) call9 Z (xy Z (xz (.agg (api.Command.ct r307.1)) Z (xz (.bool r307.2) Z (xA (.agg [.str nS, .i 0, .i 0, .bool false, .bool false, .bool false, .i 0, .i 0, .i 0, .i 0]) zeroValue23 Z fun p308 => xs 0 (api.Command.ct r307.1) sizeOf23 Z (xy Z (xe (aw_seq ?_)))))))
 obtain ⟨s311, s311e, h312⟩ := bind_some h
 refine aw_meet (ν := Unit) (fun v => [(0, .sl .no 1 (m0L args)), (4, .ptr p308 0), (31, .bool s311)]) (fun v => [(p308, .cells (api.Command.ct r307.1))]) ?_ ?_
 have h := s311e
 refine aw_region (xy Z (xz (.bool (!r307.2)) Z (xy Z ?_)))
 rcases Bool.eq_false_or_eq_true (!r307.2) with hb314 | hb314
 replace h := ite_t hb314 h
 refine aops_known 25 Z hb314 (xu Z (xu Z (xu Z (xu Z (xu Z (xz (.bool true) Z (xe ?_)))))))
 cases h
 exact ⟨(), wi [0] Z⟩
 replace h := ite_fb hb314 h
 refine aops_known 25 Z hb314 (xg Z Z (op_loadN (i := 0) Z isAgg23 sizeOf23 (tm Z) Z (nb Z) Z (xq Z Z Z Z (xp (.i (args.length : Int)) Z Z (pu_lenM Z underlying31 (tm Z)) ?_))))
 obtain ⟨r315, r315e, h⟩ := bind_some h
 refine xg Z Z (op_call (vs := [.agg (api.Command.ct r307.1), .i (args.length : Int)]) (H := []) Z call11 ⟨(tm Z), (tm Z), trivial⟩ (List.Perm.refl _) (mewsref28.Fits.ok r315e) ?_)
 rintro _ _ ⟨rfl, rfl⟩
 refine xp (.bool (!r315)) Z Z (pe Z) (xz (.bool (!r315)) Z (xe ?_))
 cases h
 exact ⟨(), wi [0] Z⟩
 intro _
 have h := h312
 refine aw_cond (b := s311) (tm Z) (fun hb610 => ?_) (fun hb610 => ?_)
 replace h := ite_t hb610 h
 refine xr (xa (.sl .full 1 e1L) Z (pu_assign Z (AEv.nil 1 (by decide))) (xz (.bool false) Z (xe (aw_claim 2 (tm Z) fun t316 => (aw_ret ?_)))))
 cases h
 exact rt ⟨t316, Z, Z⟩ Z (wi [0] Z)
 replace h := ite_fb hb610 h
 refine aw_skip (xr (xa (.sl .full 1 e1L) Z (pu_assign Z (AEv.nil 1 (by decide))) (xe ?_)))
 obtain ⟨s426, s426e, h428⟩ := bind_some h
 refine aw_meet (ν := Nat) (fun v => [(0, .sl .no 1 (m0L args)), (4, .ptr p308 0), (6, .sl (.own v) 1 (m0L s426))]) (fun v => [(p308, .cells (api.Command.ct r307.1)), (v, .spare)]) ?_ ?_
 have h := s426e
 refine aw_upd (xr (xf (.ptr p308 6) underlying23 sizeOf3 Z (xl 0 isAgg3 Z (xz (bd (r307.1.Keys = 1)) Z (xe (cd h Z (fun _ h => ?_) (fun _ h => ?_)))))))
 refine xr (xf (.ptr p308 8) underlying23 sizeOf3 Z (xl 0 isAgg3 Z (xy Z (xe ?_))))
 obtain ⟨s431, s431e, h432⟩ := letO_of h
 refine aw_meet (ν := Unit) (fun v => [(0, .sl .no 1 (m0L args)), (4, .ptr p308 0), (6, .sl .full 1 e1L), (7, .i s431)]) (fun v => [(p308, .cells (api.Command.ct r307.1))]) ?_ ?_
 have h := s431e.symm
 refine xr (xy Z (xz (bd (r307.1.Last < 0)) Z (xe (cd h Z (fun _ h => ?_) (fun _ h => ?_)))))
 refine aw_region (xy Z (xy Z (xa (.i (args.length : Int)) Z (pu_lenM Z underlying31 (tm Z)) (xz (.i (w64 (r307.1.Last + (args.length : Int)))) Z (xy Z (xe ?_))))))
 subst h
 exact ⟨(), wi [0] Z⟩
 refine aw_skip ?_
 subst h
 exact ⟨(), wi [0] Z⟩
 intro _
 have h := h432
 refine xr (xz (.i 1) Z (xe (aw_block (aw_claim 6 (tm Z) fun t537 => (aw_while (σ := mewsref28.Keys.S0) (ν := Nat) (mewsref28.Keys.body0 args r307 s431) (fun s501 v => [(0, .sl .no 1 (m0L args)), (4, .ptr p308 0), (6, .sl (.own v) 1 (m0L s501.out)), (7, .i s431), (8, .i s501.i)]) (fun s501 v => [(p308, .cells (api.Command.ct r307.1)), (v, .spare)]) ⟨([] : List (List UInt8)), 1⟩ t537 _ h (wi [1, 0] Z) ?_)))))
 rintro s501 n502 x504 h hx503
 unfold mewsref28.Keys.body0 at h
 refine aw_seq (xr (xy Z (xy Z (xa (.i (args.length : Int)) Z (pu_lenM Z underlying31 (tm Z)) (xz (bd (s501.i < (args.length : Int))) Z (xe (cd h Z (fun _ h => ?_) (fun _ h => ?_))))))))
 refine aw_skip ?_
 obtain ⟨s519, s519e, h521⟩ := bind_some h
 refine aw_meet (ν := Nat) (fun v => [(0, .sl .no 1 (m0L args)), (4, .ptr p308 0), (6, .sl (.own v) 1 (m0L s519)), (7, .i s431), (8, .i s501.i)]) (fun v => [(p308, .cells (api.Command.ct r307.1)), (v, .spare)]) ?_ ?_
 have h := s519e
 refine aw_block ?_
 obtain ⟨s526, s526e, h527⟩ := bind_some h
 refine aw_meet (ν := Unit) (fun v => [(0, .sl .no 1 (m0L args)), (4, .ptr p308 0), (6, .sl (.own n502) 1 (m0L s501.out)), (7, .i s431), (8, .i s501.i), (67, .bool s526)]) (fun v => [(p308, .cells (api.Command.ct r307.1)), (n502, .spare)]) ?_ ?_
 have h := s526e
 refine aw_region (xy Z (xf (.ptr p308 7) underlying23 sizeOf3 Z (xl 0 isAgg3 Z (xz (bd (r307.1.First ≤ s501.i)) Z (xy Z ?_)))))
 rcases Bool.eq_false_or_eq_true (decide (r307.1.First ≤ s501.i)) with hb529 | hb529
 replace h := ite_t (dec_t hb529) h
 refine aops_known 53 Z hb529 (xq Z Z Z Z (xq Z Z Z Z (xp (bd (s501.i ≤ s431)) Z Z (pe Z) (xz (bd (s501.i ≤ s431)) Z (xy Z ?_)))))
 rcases Bool.eq_false_or_eq_true (decide (s501.i ≤ s431)) with hb530 | hb530
 replace h := ite_t (dec_t hb530) h
 refine aops_known 58 Z hb530 (xq Z Z Z Z (xp (.ptr p308 7) Z Z (fa Z underlying23 Z sizeOf3 Z Z Z) (xg Z Z (op_load1 (i := 0) Z isAgg3 (tm Z) Z Z (xp (.i (w64 (s501.i - r307.1.First))) Z Z (pe Z) (xp (.ptr p308 9) Z Z (fa Z underlying23 Z sizeOf3 Z Z Z) (xg Z Z (op_load1 (i := 0) Z isAgg3 (tm Z) Z Z ?_))))))))
 obtain ⟨c531, h⟩ := need_of h
 refine xp (.i ((w64 (s501.i - r307.1.First)).tmod r307.1.Step)) Z Z (pu_rem Z (tm Z) (tm Z) c531) (xp (bd (((w64 (s501.i - r307.1.First)).tmod r307.1.Step) = 0)) Z Z (pe Z) (xz (bd (((w64 (s501.i - r307.1.First)).tmod r307.1.Step) = 0)) Z (xe ?_)))
 cases h
 exact ⟨(), wi [0, 1] Z⟩
 replace h := ite_f (dec_f hb530) h
 refine aops_known 58 Z hb530 (xu Z (xu Z (xu Z (xu Z (xu Z (xu Z (xu Z (xu Z (xz (.bool false) Z ?_)))))))))
 refine xe ?_
 cases h
 exact ⟨(), wi [0, 1] Z⟩
 replace h := ite_f (dec_f hb529) h
 refine aops_known 53 Z hb529 (xu Z (xu Z (xu Z (xz (.bool false) Z (xy Z (xu Z (xu Z (xu Z (xu Z ?_)))))))))
 refine xu Z (xu Z (xu Z (xu Z (xz (.bool false) Z (xe ?_)))))
 cases h
 exact ⟨(), wi [0, 1] Z⟩
 intro _
 have h := h527
 refine aw_cond (b := s526) (tm Z) (fun hb535 => ?_) (fun hb535 => ?_)
 replace h := ite_t hb535 h
 refine aw_region (xy Z (xy Z (xy Z ?_)))
 obtain ⟨c532, h⟩ := need_of h
 refine xa (.vptr [.str (ix args s501.i)]) Z (pu_indexAddrM Z underlying31 sizeOf9 (tm Z) (tm Z) c532 Z) (xc Z (op_loadV1 Z isAgg9 (tm Z) Z (xc Z (op_buildSlice (xs := ([ix args s501.i] : List (List UInt8)).map AV.str) (aparts := [(0, .str (ix args s501.i))]) Z underlying31 sizeOf9 zeroValue9 (by decide) (by decide) ⟨Z, (tm Z), trivial⟩ Z Z Z ?_))))
 obtain ⟨c533, h⟩ := need_of h
 refine xc Z (op_appendOM (q := 1) Z underlying31 underlying31 (.inl Z) typeInfo9 Z Z Z (by decide) (tm Z) Z (given_sl (tm Z)) c533 ?_)
 intro t534
 refine xy Z (xe ?_)
 cases h
 exact ⟨t534, wi [0, 1] Z⟩
 replace h := ite_fb hb535 h
 refine aw_skip ?_
 cases h
 exact ⟨n502, wi [0, 1] Z⟩
 intro n520
 have h := h521
 refine aw_region (xy Z (xz (.i (w64 (s501.i + 1))) Z (xy Z (xe ?_))))
 cases h
 exact ⟨_, n520, Z, wi [0, 1] Z⟩
 refine aw_exit ?_
 cases h
 have h := congrArg some (hx503 _ rfl)
 refine upd_done ?_
 cases h
 exact ⟨n502, wi [0, 1] Z⟩
 refine aw_skip (upd_claim 6 (tm Z) fun t538 => (upd_done ?_))
 cases h
 exact ⟨t538, wi [1, 0] Z⟩
 intro n427
 have h := h428
 refine aw_seq (xr (xf (.ptr p308 6) underlying23 sizeOf3 Z (xl 0 isAgg3 Z (xz (bd (r307.1.Keys < 2)) Z (xe (cd h Z (fun _ h => ?_) (fun _ h => ?_)))))))
 refine xr (xy Z (xy Z (xz (.bool true) Z (xe (aw_ret ?_)))))
 cases h
 exact rt ⟨n427, Z, Z⟩ Z (wi [1] Z)
 refine aw_skip (xr (xz (.i 1) Z (xe ?_)))
 obtain ⟨s544, s544e, h546⟩ := bind_some h
 refine aw_meet (ν := Nat) (fun v => [(0, .sl .no 1 (m0L args)), (6, .sl (.own v) 1 (m0L s544.1)), (9, .i s544.2)]) (fun v => [(v, .spare)]) ?_ ?_
 have h := s544e
 refine xr (xf (.ptr p308 6) underlying23 sizeOf3 Z (xl 0 isAgg3 Z (xz (bd (r307.1.Keys = 2)) Z (xe (cd h Z (fun _ h => ?_) (fun _ h => ?_))))))
 refine xr (xz (.i 2) Z (xe (aw_region (xy Z (xy Z ?_)))))
 obtain ⟨c548, h⟩ := need_of h
 refine xa (.vptr [.str (ix args 1)]) Z (pu_indexAddrM Z underlying31 sizeOf9 (tm Z) (AEv.int _ _) c548 Z) (xc Z (op_loadV1 Z isAgg9 (tm Z) Z (xc Z (op_buildSlice (xs := ([ix args 1] : List (List UInt8)).map AV.str) (aparts := [(0, .str (ix args 1))]) Z underlying31 sizeOf9 zeroValue9 (by decide) (by decide) ⟨Z, (tm Z), trivial⟩ Z Z Z ?_))))
 obtain ⟨c549, h⟩ := need_of h
 refine xc Z (op_appendOM (q := 1) Z underlying31 underlying31 (.inl Z) typeInfo9 Z Z Z (by decide) (tm Z) Z (given_sl (tm Z)) c549 ?_)
 intro t550
 refine xy Z (xe ?_)
 cases h
 exact ⟨t550, wi [1] Z⟩
 refine aw_skip ?_
 cases h
 exact ⟨n427, wi [1] Z⟩
 intro n545
 have h := h546
 refine xr (xy Z (xy Z ?_))
 obtain ⟨c552, h⟩ := need_of h
 refine xa (.vptr [.str (ix args s544.2)]) Z (pu_indexAddrM Z underlying31 sizeOf9 (tm Z) (tm Z) c552 Z) (xc Z (op_loadV1 Z isAgg9 (tm Z) Z ?_))
 obtain ⟨r553, r553e, h⟩ := bind_some h
 refine xo (mewsref01.Parse.ok r553e) call23 Z (xy Z (xz (.i r553.1) Z (xz (.bool r553.2) Z (xy Z (xy Z (xe (aw_seq ?_)))))))
 obtain ⟨s557, s557e, h558⟩ := letO_of h
 refine aw_meet (ν := Unit) (fun v => [(0, .sl .no 1 (m0L args)), (6, .sl (.own n545) 1 (m0L s544.1)), (9, .i s544.2), (10, .i r553.1), (115, .bool s557)]) (fun v => [(n545, .spare)]) ?_ ?_
 have h := s557e.symm
 refine aw_region (xy Z (xz (.bool (!r553.2)) Z (xy Z ?_)))
 rcases Bool.eq_false_or_eq_true (!r553.2) with hb560 | hb560
 replace h := ite_t hb560 h
 refine aops_known 98 Z hb560 (xu Z (xu Z (xz (.bool true) Z (xy Z (xu Z (xu Z (xu Z (xu Z (xz (.bool true) Z ?_)))))))))
 refine xy Z (xu Z (xu Z (xu Z (xu Z (xu Z (xu Z (xz (.bool true) Z (xe ?_))))))))
 subst h
 exact ⟨(), wi [0] Z⟩
 replace h := ite_fb hb560 h
 refine aops_known 98 Z hb560 (xq Z Z Z Z (xp (bd (r553.1 < 1)) Z Z (pe Z) (xz (bd (r553.1 < 1)) Z (xy Z ?_))))
 rcases Bool.eq_false_or_eq_true (decide (r553.1 < 1)) with hb561 | hb561
 replace h := ite_t (dec_t hb561) h
 refine aops_known 102 Z hb561 (xu Z (xu Z (xu Z (xu Z (xz (.bool true) Z (xy Z (xu Z (xu Z (xu Z ?_)))))))))
 refine xu Z (xu Z (xu Z (xz (.bool true) Z (xe ?_))))
 subst h
 exact ⟨(), wi [0] Z⟩
 replace h := ite_f (dec_f hb561) h
 refine aops_known 102 Z hb561 (xq Z Z Z Z (xq Z Z Z Z (xp (.i (args.length : Int)) Z Z (pu_lenM Z underlying31 (tm Z)) (xp (bd ((args.length : Int) < r553.1)) Z Z (pe Z) (xz (bd ((args.length : Int) < r553.1)) Z (xy Z ?_))))))
 rcases Bool.eq_false_or_eq_true (decide ((args.length : Int) < r553.1)) with hb562 | hb562
 replace h := ite_t (dec_t hb562) h
 refine aops_known 108 Z hb562 (xu Z (xu Z (xu Z (xu Z (xu Z (xu Z (xz (.bool true) Z (xe ?_))))))))
 subst h
 exact ⟨(), wi [0] Z⟩
 replace h := ite_f (dec_f hb562) h
 refine aops_known 108 Z hb562 (xq Z Z Z Z (xq Z Z Z Z (xp (.i (w64 (s544.2 + r553.1))) Z Z (pe Z) (xq Z Z Z Z (xp (.i (args.length : Int)) Z Z (pu_lenM Z underlying31 (tm Z)) (xp (bd ((args.length : Int) ≤ (w64 (s544.2 + r553.1)))) Z Z (pe Z) (xz (bd ((args.length : Int) ≤ (w64 (s544.2 + r553.1)))) Z (xe ?_))))))))
 subst h
 exact ⟨(), wi [0] Z⟩
 intro _
 have h := h558
 refine aw_cond (b := s557) (tm Z) (fun hb608 => ?_) (fun hb608 => ?_)
 replace h := ite_t hb608 h
 refine xr (xa (.sl .full 1 e1L) Z (pu_assign Z (AEv.nil 1 (by decide))) (xz (.bool false) Z (xe (aw_claim 2 (tm Z) fun t563 => (aw_ret ?_)))))
 cases h
 exact rt ⟨t563, Z, Z⟩ Z (wi [0] Z)
 replace h := ite_fb hb608 h
 refine aw_skip ?_
 obtain ⟨s584, s584e, h586⟩ := bind_some h
 refine aw_meet (ν := Nat) (fun v => [(6, .sl (.own v) 1 (m0L s584))]) (fun v => [(v, .spare)]) ?_ ?_
 have h := s584e
 refine xr (xy Z (xz (.i (w64 (s544.2 + 1))) Z (xy Z (xe (aw_block (aw_while (σ := mewsref28.Keys.S2) (ν := Nat) (mewsref28.Keys.body2 s544 r553 args) (fun s599 v => [(0, .sl .no 1 (m0L args)), (6, .sl (.own v) 1 (m0L s599.out)), (9, .i s544.2), (10, .i r553.1), (12, .i s599.i)]) (fun s599 v => [(v, .spare)]) ⟨s544.1, w64 (s544.2 + 1)⟩ n545 _ h (wi [0] Z) ?_))))))
 rintro s599 n600 x602 h hx601
 unfold mewsref28.Keys.body2 at h
 refine aw_seq (xr (xy Z (xy Z (xy Z (xz (.i (w64 (s544.2 + r553.1))) Z (xz (bd (s599.i ≤ (w64 (s544.2 + r553.1)))) Z (xe (cd h Z (fun _ h => ?_) (fun _ h => ?_)))))))))
 refine aw_skip (aw_seq (aw_block (aw_region (xy Z (xy Z (xy Z ?_))))))
 obtain ⟨c604, h⟩ := need_of h
 refine xa (.vptr [.str (ix args s599.i)]) Z (pu_indexAddrM Z underlying31 sizeOf9 (tm Z) (tm Z) c604 Z) (xc Z (op_loadV1 Z isAgg9 (tm Z) Z (xc Z (op_buildSlice (xs := ([ix args s599.i] : List (List UInt8)).map AV.str) (aparts := [(0, .str (ix args s599.i))]) Z underlying31 sizeOf9 zeroValue9 (by decide) (by decide) ⟨Z, (tm Z), trivial⟩ Z Z Z ?_))))
 obtain ⟨c605, h⟩ := need_of h
 refine xc Z (op_appendOM (q := 0) Z underlying31 underlying31 (.inl Z) typeInfo9 Z Z Z (by decide) (tm Z) Z (given_sl (tm Z)) c605 ?_)
 intro t606
 refine xy Z (xe (aw_region (xy Z (xz (.i (w64 (s599.i + 1))) Z (xy Z (xe ?_))))))
 cases h
 exact ⟨_, t606, Z, wi [0] Z⟩
 refine aw_exit ?_
 cases h
 cases congrArg some (hx601 _ rfl)
 exact ⟨n600, wi [0] Z⟩
 intro n585
 have h := h586
 refine xr (xy Z (xy Z (xz (.bool true) Z (xe (aw_ret ?_)))))
 cases h
 exact rt ⟨n585, Z, Z⟩ Z (wi [0] Z)

theorem mewslaw28.TableKeys.ok {args r} (h : mewslaw28.TableKeys args = some r) : Sp prog 4 [.sl .no 1 (m0L args)] [] (fun v H => v = .bool r ∧ H = []) := by
 unfold mewslaw28.TableKeys at h
 refine sb [.tmp 2] func4 Z (xr (xz (.bool false) Z (xe (aw_seq (xr (xy Z ?_))))))
 obtain ⟨r407, r407e, h⟩ := bind_some h
 refine xo (mewslaw28.far.ok r407e) call6 Z (xe (cb h Z (fun _ h => ?_) (fun _ h => ?_)))
 refine aw_seq (aw_region ?_)
 obtain ⟨r408, r408e, h⟩ := bind_some h
 refine xo (mewslaw28.alive.ok r408e) call7 Z (xy Z (xe (aw_ret ?_)))
 cases h
 exact rt ⟨Z, Z⟩ Z w0
 refine aw_skip (xr (xy Z ?_))
 obtain ⟨r409, r409e, h⟩ := bind_some h
 refine xk (table.Keys.ok r409e) call14 Z ?_
 rintro _ _ ⟨t410, rfl, rfl⟩
 refine xy Z (xz (.sl (.own t410) 1 (m0L r409.1)) Z (xz (.bool r409.2) Z (xy Z (xy Z (xe (xr (xy Z ?_)))))))
 obtain ⟨r411, r411e, h⟩ := bind_some h
 refine xk (mewsref28.Keys.ok r411e) call15 Z ?_
 rintro _ _ ⟨t412, rfl, rfl⟩
 refine xy Z (xz (.sl (.own t412) 1 (m0L r411.1)) Z (xz (.bool r411.2) Z (xy Z (xy Z (xe ?_)))))
 obtain ⟨s811, s811e, h606⟩ := bind_some h
 refine aw_join (σ := Unit) (ν := Unit) (fun u v => [(3, .sl (.own t410) 1 (m0L r409.1)), (4, .bool r409.2), (5, .sl (.own t412) 1 (m0L r411.1)), (6, .bool r411.2)]) (fun u v => [(t410, .spare), (t412, .spare)]) (fun u => s811 = .inl u) ?_ ?_
 intro s605
 intro _
 rintro rfl
 have h := onSum_inl h606
 obtain ⟨s804, s804e, h805⟩ := bind_some h
 refine aw_meet (ν := Unit) (fun v => [(2, .bool s804)]) (fun v => []) ?_ ?_
 have h := s804e
 refine aw_region (xy Z (xy Z ?_))
 obtain ⟨r807, r807e, h⟩ := bind_some h
 refine xc Z (op_call (vs := [.sl .no 1 (m0L r409.1), .sl .no 1 (m0L r411.1)]) (H := []) Z call16 ⟨(AEv.le (tm Z) (AV.Le.forget _ _ _)), (AEv.le (tm Z) (AV.Le.forget _ _ _)), trivial⟩ (List.Perm.refl _) (mewsref02.Same.ok r807e) ?_)
 rintro _ _ ⟨rfl, rfl⟩
 refine xy Z ?_
 rcases Bool.eq_false_or_eq_true r807 with hb808 | hb808
 replace h := ite_t hb808 h
 refine aops_known 50 Z hb808 (xq Z Z Z Z (xq Z Z Z Z (xp (.bool (r409.2 == r411.2)) Z Z (pu_boolEq Z underlying4 (tm Z) (tm Z)) (xz (.bool (r409.2 == r411.2)) Z (xy Z ?_)))))
 rcases Bool.eq_false_or_eq_true (r409.2 == r411.2) with hb809 | hb809
 replace h := ite_t hb809 h
 refine aops_known 55 Z hb809 ?_
 obtain ⟨r810, r810e, h⟩ := bind_some h
 refine xg Z Z (op_call (vs := []) (H := []) Z call7 trivial (List.Perm.refl _) (mewslaw28.alive.ok r810e) ?_)
 rintro _ _ ⟨rfl, rfl⟩
 refine xz (.bool r810) Z (xy Z (xe ?_))
 cases h
 exact ⟨(), wi [] Z⟩
 replace h := ite_fb hb809 h
 refine aops_known 55 Z hb809 (xu Z (xz (.bool false) Z (xy Z (xe ?_))))
 cases h
 exact ⟨(), wi [] Z⟩
 replace h := ite_fb hb808 h
 refine aops_known 50 Z hb808 (xu Z (xu Z (xu Z (xz (.bool false) Z (xy Z (xu Z (xz (.bool false) Z (xy Z (xe ?_)))))))))
 cases h
 exact ⟨(), wi [] Z⟩
 intro _
 have h := h805
 refine aw_ret ?_
 cases h
 exact rt ⟨Z, Z⟩ Z w0
 have h := s811e
 refine xr (xy Z (xa (.i (r409.1.length : Int)) Z (pu_lenM Z underlying31 (tm Z)) (xz (.i 0) Z (xe (aw_block (aw_while (σ := mewslaw28.TableKeys.S0) (ν := Unit) (mewslaw28.TableKeys.body0 r409 args) (fun s734 v => [(0, .sl .no 1 (m0L args)), (3, .sl (.own t410) 1 (m0L r409.1)), (4, .bool r409.2), (5, .sl (.own t412) 1 (m0L r411.1)), (6, .bool r411.2), (25, .sl (.own t410) 1 (m0L r409.1)), (26, .i (r409.1.length : Int)), (27, .i s734.t27)]) (fun s734 v => [(t410, .spare), (t412, .spare)]) ⟨0⟩ () _ h (wi [1, 0] Z) ?_))))))
 rintro s734 _ x736 h hx735
 unfold mewslaw28.TableKeys.body0 at h
 refine xr (xz (bd (s734.t27 < (r409.1.length : Int))) Z (xe (aw_seq (cd h Z (fun _ h => ?_) (fun _ h => ?_)))))
 refine aw_skip (aw_seq (aw_block (aw_seq (aw_region ?_))))
 obtain ⟨c738, h⟩ := need_of h
 refine xa (.vptr [.str (ix r409.1 s734.t27)]) Z (pu_indexAddrM Z underlying31 sizeOf9 (tm Z) (tm Z) c738 Z) (xc Z (op_loadV1 Z isAgg9 (tm Z) Z (xy Z (xe (xr (xz (.bool false) Z (xe ?_)))))))
 obtain ⟨s767, s767e, h768⟩ := bind_some h
 refine aw_meet (ν := Unit) (fun v => [(0, .sl .no 1 (m0L args)), (3, .sl (.own t410) 1 (m0L r409.1)), (4, .bool r409.2), (5, .sl (.own t412) 1 (m0L r411.1)), (6, .bool r411.2), (9, .bool s767), (25, .sl (.own t410) 1 (m0L r409.1)), (26, .i (r409.1.length : Int)), (27, .i s734.t27)]) (fun v => [(t410, .spare), (t412, .spare)]) ?_ ?_
 have h := s767e
 refine xr (xy Z (xa (.i (args.length : Int)) Z (pu_lenM Z underlying31 (tm Z)) (xz (.i 0) Z (xe (aw_block (aw_while (σ := mewslaw28.TableKeys.S2) (ν := Unit) (mewslaw28.TableKeys.body2 args r409 s734) (fun s786 v => [(0, .sl .no 1 (m0L args)), (3, .sl (.own t410) 1 (m0L r409.1)), (4, .bool r409.2), (5, .sl (.own t412) 1 (m0L r411.1)), (6, .bool r411.2), (8, .str (ix r409.1 s734.t27)), (9, .bool s786.found), (25, .sl (.own t410) 1 (m0L r409.1)), (26, .i (r409.1.length : Int)), (27, .i s734.t27), (31, .sl .no 1 (m0L args)), (32, .i (args.length : Int)), (33, .i s786.t33)]) (fun s786 v => [(t410, .spare), (t412, .spare)]) ⟨false, 0⟩ () _ h (wi [0, 1] Z) ?_))))))
 rintro s786 _ x788 h hx787
 unfold mewslaw28.TableKeys.body2 at h
 refine xr (xz (bd (s786.t33 < (args.length : Int))) Z (xe (aw_seq (cd h Z (fun _ h => ?_) (fun _ h => ?_)))))
 refine aw_skip ?_
 obtain ⟨s792, s792e, h793⟩ := bind_some h
 refine aw_meet (ν := Unit) (fun v => [(0, .sl .no 1 (m0L args)), (3, .sl (.own t410) 1 (m0L r409.1)), (4, .bool r409.2), (5, .sl (.own t412) 1 (m0L r411.1)), (6, .bool r411.2), (8, .str (ix r409.1 s734.t27)), (9, .bool s792), (25, .sl (.own t410) 1 (m0L r409.1)), (26, .i (r409.1.length : Int)), (27, .i s734.t27), (31, .sl .no 1 (m0L args)), (32, .i (args.length : Int)), (33, .i s786.t33)]) (fun v => [(t410, .spare), (t412, .spare)]) ?_ ?_
 have h := s792e
 refine aw_block (aw_seq (aw_region ?_))
 obtain ⟨c795, h⟩ := need_of h
 refine xa (.vptr [.str (ix args s786.t33)]) Z (pu_indexAddrM Z underlying31 sizeOf9 (tm Z) (tm Z) c795 Z) (xc Z (op_loadV1 Z isAgg9 (tm Z) Z (xy Z (xe (aw_region (xy Z (xy Z ?_)))))))
 rcases Bool.eq_false_or_eq_true s786.found with hb796 | hb796
 replace h := ite_t hb796 h
 refine aops_known 38 Z hb796 (xu Z (xu Z (xu Z (xz (.bool true) Z (xy Z (xe ?_))))))
 cases h
 exact ⟨(), wi [0, 1] Z⟩
 replace h := ite_fb hb796 h
 refine aops_known 38 Z hb796 (xq Z Z Z Z (xq Z Z Z Z (xp (bd ((ix args s786.t33) = (ix r409.1 s734.t27))) Z Z (pu_str (v := bd ((ix args s786.t33) = (ix r409.1 s734.t27))) Z Z (tm Z) (tm Z) Z) (xz (bd ((ix args s786.t33) = (ix r409.1 s734.t27))) Z (xy Z (xe ?_))))))
 cases h
 exact ⟨(), wi [0, 1] Z⟩
 intro _
 have h := h793
 refine aw_region (xz (.i (w64 (s786.t33 + 1))) Z (xy Z (xe ?_)))
 cases h
 exact ⟨_, (), Z, wi [0, 1] Z⟩
 refine aw_exit ?_
 cases h
 cases congrArg some (hx787 _ rfl)
 exact ⟨(), wi [0, 1] Z⟩
 intro _
 have h := h768
 refine xr (xy Z (xz (.bool (!s767)) Z (xe (cb h Z (fun _ h => ?_) (fun _ h => ?_)))))
 refine xr (xz (.bool false) Z (xe (aw_ret ?_)))
 cases h
 cases congrArg some (hx735 _ rfl)
 cases onSum_inr h606
 exact rt ⟨Z, Z⟩ Z w0
 refine aw_skip (aw_region (xz (.i (w64 (s734.t27 + 1))) Z (xy Z (xe ?_))))
 cases h
 exact ⟨_, (), Z, wi [0, 1] Z⟩
 refine aw_exit ?_
 cases h
 have h := congrArg some (hx735 _ rfl)
 exact ⟨(), (), (some_of h).symm, wi [0, 1] Z⟩

end Go.Pu
