/- Printed by lift.py: the functions come to them. -/
import Derived.Test.YtmognhokagemiaaGreatLiftWS
import Derived.Test.YtmognhokagemiaaGreatRZK2
set_option maxRecDepth 100000
set_option maxHeartbeats 0
namespace Go.Pu
open Go.Lift Go.Proofs.Tryz Go.RowKit Go.Proofs

theorem disk.Sync.ok {d name r} (h : disk.Sync d name = some r) : Sp prog 29 [.agg [.sl .no 3 (m0L d.Files), .sl .no 3 (m1L d.Faults)], .str name] [] (fun v H => ∃ n0 n1, v = .tup [.agg [.vec n0, .vec n1], .i r.2] ∧ H = [(n0, .vec 3 (m0L r.1.Files)), (n1, .vec 3 (m1L r.1.Faults))]) := by
 unfold disk.Sync at h
 refine sb [.cell 4 25, .tmp 5] func29 Z (xr (xb [.sl .no 3 (m0L d.Files), .sl .no 3 (m1L d.Faults)] Z fun p16 => xA (.agg [.sl .full 3 e0L, .sl .full 3 e1L]) zeroValue25 Z fun p17 => xz (.i 0) Z (xe (xr (xL 1 isAgg25 sizeOf25 Z ?_)))))
 obtain ⟨r18, r18e, h⟩ := bind_some h
 refine xk (disk.own.ok r18e) call54 Z ?_
 rintro _ _ ⟨t19, t20, rfl, rfl⟩
 refine xs 3 [.vec t19, .vec t20] sizeOf25 Z (xe (xr (xL 3 isAgg25 sizeOf25 Z (xy Z ?_))))
 obtain ⟨r21, r21e, h⟩ := bind_some h
 refine xo (disk.find_v.ok r21e t19 t20) call41 Z (xy Z (xe (aw_seq (xr (xy Z (xz (bd (r21 < 0)) Z (xe (cd h Z (fun _ h => ?_) (fun _ h => ?_)))))))))
 refine xr (xL 3 isAgg25 sizeOf25 Z (xs 2 [.vec t19, .vec t20] sizeOf25 Z (xz (.i 8) Z (xe (aw_ret ?_)))))
 cases h
 exact rq [.agg [.vec t19, .vec t20], .i 8] ⟨t19, t20, Z, Z⟩ (AV.Le.tup cr) ⟨(CellOk.agg 2 (tm Z) Z isAgg25 sizeOf25 (nb Z) Z), (tm Z), trivial⟩ (wi [0, 1] Z)
 refine aw_skip (aw_seq (xr (xy Z ?_)))
 obtain ⟨r22, r22e, h⟩ := bind_some h
 refine aops_weak (weak_pick [3, 0, 1, 2] (by decide) Z) (xk (disk.meets_v.ok r22e p16 t19 t20) call58 Z ?_)
 rintro _ _ ⟨t23, rfl, rfl⟩
 refine xy Z (xz (.agg [.str r22.1.Name, .i r22.1.Kind, .i r22.1.Short]) Z (xz (.bool r22.2.1) Z (xA (.agg [.str nS, .i 0, .i 0]) zeroValue79 Z fun p24 => xs 0 [.str r22.1.Name, .i r22.1.Kind, .i r22.1.Short] sizeOf79 Z (xy Z (xe (xr (xy Z (xe (cb h Z (fun _ h => ?_) (fun _ h => ?_))))))))))
 refine xr (xL 1 isAgg25 sizeOf25 Z (xs 4 [.vec t19, .vec t23] sizeOf25 Z (xz (.i 15) Z (xe (aw_ret ?_)))))
 cases h
 exact rq [.agg [.vec t19, .vec t23], .i 15] ⟨t19, t23, Z, Z⟩ (AV.Le.tup cr) ⟨(CellOk.agg 4 (tm Z) Z isAgg25 sizeOf25 (nb Z) Z), (tm Z), trivial⟩ (wi [2, 3] Z)
 refine aw_skip (aw_seq ?_)
 obtain ⟨c25, h⟩ := need_of h
 obtain ⟨c26, h⟩ := need_of h
 obtain ⟨c27, h⟩ := need_of h
 obtain ⟨c28, h⟩ := need_of h
 refine aw_planR (by decide +kernel) [[], [(1, 0, false)], [], [], [(1, 0, false)], [], [(2, 0, false)], [], [(2, 0, false)], [], [(2, 0, false)], [], [(2, 0, true)]] [[], [], [12], [], []] [[[(p24, .cells [.str r22.1.Name, .i r22.1.Kind, .i r22.1.Short])]], [[(p16, .cells [.vec t19, .vec t23])]], [[(t19, .vec 3 (m0L r18.Files))], [(t19, .vec 3 (m0L (upd r18.Files r21 { (ix r18.Files r21) with Synced := ((ix r18.Files r21).Data.length : Int) })))]], [[(t23, .vec 3 (m1L r22.2.2.Faults))]], [[(p17, .cells [.sl .full 3 e0L, .sl .full 3 e1L])]]] [.ptr p16 0, .vec t19, .i r21, .ptr p16 0, .vec t19, .i r21, .eptr t19 (r21).toNat 0, .eptr t19 (r21).toNat 1, .str (ix r18.Files r21).Data, .i ((ix r18.Files r21).Data.length : Int), .eptr t19 (r21).toNat 0, .eptr t19 (r21).toNat 2, .un] (by decide +kernel) Z Z ?_ ?_
 exact ⟨yp Z (fa Z underlying25 Z sizeOf22 Z Z Z), stepg_plain Z (op_load1 (i := 0) Z isAgg22 (tm Z) Z Z ⟨Z, Z⟩), ym Z Z Z, yp Z (fa Z underlying25 Z sizeOf22 Z Z Z), stepg_plain Z (op_load1 (i := 0) Z isAgg22 (tm Z) Z Z ⟨Z, Z⟩), ym Z Z Z, stepg_plain Z (op_indexAddrVecM Z underlying22 sizeOf60 (tm Z) (j := 0) Z (tm Z) c25 ⟨Z, Z⟩), yp Z (fa Z underlying60 Z sizeOf9 Z Z Z), stepg_plain Z (op_loadE1M (i := 0) (sz := 3) Z isAgg9 (tm Z) Z c26 (by decide) Z ⟨Z, Z⟩), yp Z (pu_strLen Z underlying9 (tm Z)), stepg_plain Z (op_indexAddrVecM Z underlying22 sizeOf60 (tm Z) (j := 0) Z (tm Z) c27 ⟨Z, Z⟩), yp Z (fa Z underlying60 Z sizeOf3 Z Z Z), stepg_plain Z (op_storeEM (i := 0) (sz := 3) (y' := { (ix r18.Files r21) with Synced := ((ix r18.Files r21).Data.length : Int) }) Z sizeOf3 (tm Z) (v := .i ((ix r18.Files r21).Data.length : Int)) (tm Z) Z c28 Z Z (by decide) Z ⟨Z, Z⟩), trivial⟩
 refine xr (xL 1 isAgg25 sizeOf25 Z (xs 4 [.vec t19, .vec t23] sizeOf25 Z (xz (.i 0) Z (xe (aw_ret ?_)))))
 cases h
 exact rq [.agg [.vec t19, .vec t23], .i 0] ⟨t19, t23, Z, Z⟩ (AV.Le.tup cr) ⟨(CellOk.agg 4 (tm Z) Z isAgg25 sizeOf25 (nb Z) Z), (tm Z), trivial⟩ (wi [2, 3] Z)

theorem restore.Load.ok {d name r} (h : restore.Load d name = some r) : Sp prog 8 [.agg [.sl .no 3 (m0L d.Files), .sl .no 3 (m1L d.Faults)], .str name] [] (fun v H => ∃ n0, v = .tup [.agg [.sl .no 3 (m0L r.1.Files), .sl .no 3 (m1L r.1.Faults)], .sl (.own n0) 1 (m7L r.2.1), .i r.2.2] ∧ H = [(n0, .spare)]) := by
 unfold restore.Load at h
 refine sb [.cell 4 25, .tmp 5, .tmp 6] func8 Z (xr (xb [.sl .no 3 (m0L d.Files), .sl .no 3 (m1L d.Faults)] Z fun p29 => xA (.agg [.sl .full 3 e0L, .sl .full 3 e1L]) zeroValue25 Z fun p30 => xa (.sl .full 1 e6L) Z (pu_assign Z (AEv.nil 1 (by decide))) (xz (.i 0) Z (xe (aw_seq ?_)))))
 obtain ⟨r31, r31e, h⟩ := bind_some h
 obtain ⟨r32, r32e, h⟩ := bind_some h
 refine aw_planR (by decide +kernel) [[(1, 0, false)], [], [], [], [(1, 0, true)]] [[], [4]] [[[(p30, .cells [.sl .full 3 e0L, .sl .full 3 e1L])]], [[(p29, .cells [.sl .no 3 (m0L d.Files), .sl .no 3 (m1L d.Faults)])], [(p29, .cells [.sl .no 3 (m0L r32.Files), .sl .no 3 (m1L r32.Faults)])]]] [.agg [.sl .no 3 (m0L d.Files), .sl .no 3 (m1L d.Faults)], .str name, .str r31, .agg [.sl .no 3 (m0L r32.Files), .sl .no 3 (m1L r32.Faults)], .un] (by decide +kernel) Z Z ?_ ?_
 ·exact ⟨stepg_plain Z (op_loadN (i := 0) Z isAgg25 sizeOf25 (tm Z) Z (nb Z) Z ⟨Z, Z⟩), ym Z Z Z, stepg_plain Z (op_call (vs := [.str name]) (H := []) Z call12 ⟨(tm Z), trivial⟩ (R := []) (List.Perm.refl _) (restore.Other.ok r31e) (by rintro _ _ ⟨rfl, rfl⟩; exact ⟨Z, Z⟩)), stepg_plain Z (op_call (vs := [.agg [.sl .no 3 (m0L d.Files), .sl .no 3 (m1L d.Faults)], .str r31]) (H := []) Z call25 ⟨(tm Z), (tm Z), trivial⟩ (R := []) (List.Perm.refl _) (spec_pub (v' := .agg [.sl .no 3 (m0L r32.Files), .sl .no 3 (m1L r32.Faults)]) (disk.Remove.ok r32e) (by rintro _ _ ⟨x0, x1, rfl, rfl⟩; exact (pubs_cons (v1 := .agg [.sl .no 3 (m0L r32.Files), .vec x1]) (PubTo.agg ⟨PubTo.vec, (PubTo.refl _), trivial⟩) (pubs_cons (v1 := .agg [.sl .no 3 (m0L r32.Files), .sl .no 3 (m1L r32.Faults)]) (PubTo.agg ⟨(PubTo.refl _), PubTo.vec, trivial⟩) (pubs_nil vr))))) (by rintro _ _ ⟨rfl, rfl⟩; exact ⟨Z, Z⟩)), stepg_plain Z (op_store (i := 0) (cs' := [.sl .no 3 (m0L r32.Files), .sl .no 3 (m1L r32.Faults)]) Z sizeOf25 (tm Z) (v := .agg [.sl .no 3 (m0L r32.Files), .sl .no 3 (m1L r32.Faults)]) (tm Z) Z Z Z (nb Z) Z ⟨Z, Z⟩), trivial⟩
 refine xr (xL 1 isAgg25 sizeOf25 Z (xy Z ?_))
 obtain ⟨r33, r33e, h⟩ := bind_some h
 refine xo (disk.Read.ok r33e) call26 Z (xy Z (xz (.str r33.1) Z (xz (.i r33.2) Z (xy Z (xy Z (xe (aw_seq (xr (xy Z ?_)))))))))
 refine xz (bn (r33.2 = 0)) Z (xe (cn h Z (fun _ h => ?_) (fun _ h => ?_)))
 ·refine xr (xL 1 isAgg25 sizeOf25 Z (xs 0 [.sl .no 3 (m0L r32.Files), .sl .no 3 (m1L r32.Faults)] sizeOf25 Z (xa (.sl .full 1 e6L) Z (pu_assign Z (AEv.nil 1 (by decide))) (xz (.i 0) Z (xe (aw_claim 5 (tm Z) fun t34 => (aw_ret ?_)))))))
  cases h
  exact rq [.agg [.sl .no 3 (m0L r32.Files), .sl .no 3 (m1L r32.Faults)], .sl (.own t34) 1 e6L, .i 0] ⟨t34, Z, Z⟩ (AV.Le.tup cr) ⟨(CellOk.agg 1 (tm Z) Z isAgg25 sizeOf25 (nb Z) Z), (tm Z), (tm Z), trivial⟩ (wi [0] Z)
 ·refine aw_skip (xr (xy Z ?_))
  obtain ⟨r35, r35e, h⟩ := bind_some h
  refine xk (unit.All.ok r35e) call27 Z ?_
  rintro _ _ ⟨t36, rfl, rfl⟩
  refine xy Z (xz (.sl (.own t36) 1 (m7L r35.1)) Z (xz (.i r35.2) Z (xy Z (xy Z (xe (aw_seq (xr (xL 2 isAgg25 sizeOf25 Z ?_))))))))
  refine xy Z (xy Z ?_)
  obtain ⟨r37, r37e, h⟩ := bind_some h
  refine xk (disk.Cut.ok r37e) call28 Z ?_
  rintro _ _ ⟨t38, t39, rfl, rfl⟩
  refine xy Z (xz (.agg [.vec t38, .vec t39]) Z (xz (.i r37.2) Z (aops_pub 0 [(34, .agg [.sl .no 3 (m0L r37.1.Files), .vec t39])] Z ⟨⟨_, tm Z, (PubTo.agg ⟨PubTo.vec, (PubTo.refl _), trivial⟩)⟩, trivial⟩ (aops_pub 0 [(34, .agg [.sl .no 3 (m0L r37.1.Files), .sl .no 3 (m1L r37.1.Faults)])] Z ⟨⟨_, tm Z, (PubTo.agg ⟨(PubTo.refl _), PubTo.vec, trivial⟩)⟩, trivial⟩ (xs 2 [.sl .no 3 (m0L r37.1.Files), .sl .no 3 (m1L r37.1.Faults)] sizeOf25 Z (xy Z (xe (aw_seq (aw_region ?_)))))))))
  refine xy Z (xz (bn (r37.2 = 0)) Z (xe (cn h Z (fun _ h => ?_) (fun _ h => ?_))))
  ·refine xr (xL 2 isAgg25 sizeOf25 Z (xy Z (xs 1 [.sl .no 3 (m0L r37.1.Files), .sl .no 3 (m1L r37.1.Faults)] sizeOf25 Z (xa (.sl .full 1 e6L) Z (pu_assign Z (AEv.nil 1 (by decide))) (xy Z (xe (aw_claim 5 (tm Z) fun t40 => (aw_ret ?_))))))))
   cases h
   exact rq [.agg [.sl .no 3 (m0L r37.1.Files), .sl .no 3 (m1L r37.1.Faults)], .sl (.own t40) 1 e6L, .i r37.2] ⟨t40, Z, Z⟩ (AV.Le.tup cr) ⟨(CellOk.agg 2 (tm Z) Z isAgg25 sizeOf25 (nb Z) Z), (tm Z), (tm Z), trivial⟩ (wi [0] Z)
  ·refine aw_skip ?_
   obtain ⟨s57, s57e, h48⟩ := bind_some h
   refine aw_join (σ := (List api.File) × (List api.Fault)) (ν := Unit) (fun u v => [(2, .ptr p29 0), (4, .ptr p30 0), (9, .sl (.own t36) 1 (m7L r35.1))]) (fun u v => [(p29, .cells [.sl .no 3 (m0L u.1), .sl .no 3 (m1L u.2)]), (p30, .cells [.sl .full 3 e0L, .sl .full 3 e1L]), (t36, .spare)]) (fun u => s57 = .inl u) ?_ ?_
   ·intro s47
    intro _
    rintro rfl
    have h := onSum_inl h48
    refine xr (xL 0 isAgg25 sizeOf25 Z (xy Z (xs 1 [.sl .no 3 (m0L s47.1), .sl .no 3 (m1L s47.2)] sizeOf25 Z (xy Z (xz (.i 0) Z (xe (aw_ret ?_)))))))
    cases h
    exact rq [.agg [.sl .no 3 (m0L s47.1), .sl .no 3 (m1L s47.2)], .sl (.own t36) 1 (m7L r35.1), .i 0] ⟨t36, Z, Z⟩ (AV.Le.tup cr) ⟨(CellOk.agg 1 (tm Z) Z isAgg25 sizeOf25 (nb Z) Z), (tm Z), (tm Z), trivial⟩ (wi [2] Z)
   ·have h := s57e
    refine xr (xL 2 isAgg25 sizeOf25 Z (xy Z ?_))
    obtain ⟨r50, r50e, h⟩ := bind_some h
    refine xo (disk.Safe.ok r50e) call15 Z (xa (.i (r50.length : Int)) Z (pu_strLen Z underlying9 (tm Z)) (xy Z (xz (bd ((r50.length : Int) < r35.2)) Z (xe (cd h Z (fun _ h => ?_) (fun _ h => ?_))))))
    ·refine xr (xL 2 isAgg25 sizeOf25 Z (xy Z ?_))
     obtain ⟨r51, r51e, h⟩ := bind_some h
     refine xk (disk.Sync.ok r51e) call29 Z ?_
     rintro _ _ ⟨t52, t53, rfl, rfl⟩
     refine xy Z (xz (.agg [.vec t52, .vec t53]) Z (xz (.i r51.2) Z (aops_pub 0 [(50, .agg [.sl .no 3 (m0L r51.1.Files), .vec t53])] Z ⟨⟨_, tm Z, (PubTo.agg ⟨PubTo.vec, (PubTo.refl _), trivial⟩)⟩, trivial⟩ (aops_pub 0 [(50, .agg [.sl .no 3 (m0L r51.1.Files), .sl .no 3 (m1L r51.1.Faults)])] Z ⟨⟨_, tm Z, (PubTo.agg ⟨(PubTo.refl _), PubTo.vec, trivial⟩)⟩, trivial⟩ (xs 2 [.sl .no 3 (m0L r51.1.Files), .sl .no 3 (m1L r51.1.Faults)] sizeOf25 Z (xy Z (xe (aw_seq (aw_region ?_)))))))))
     refine xy Z (xz (bn (r51.2 = 0)) Z (xe (cn h Z (fun _ h => ?_) (fun _ h => ?_))))
     ·refine xr (xL 2 isAgg25 sizeOf25 Z (xy Z (xs 1 [.sl .no 3 (m0L r51.1.Files), .sl .no 3 (m1L r51.1.Faults)] sizeOf25 Z (xa (.sl .full 1 e6L) Z (pu_assign Z (AEv.nil 1 (by decide))) (xy Z (xe (aw_claim 5 (tm Z) fun t54 => (aw_ret ?_))))))))
      cases h
      cases onSum_inr h48
      exact rq [.agg [.sl .no 3 (m0L r51.1.Files), .sl .no 3 (m1L r51.1.Faults)], .sl (.own t54) 1 e6L, .i r51.2] ⟨t54, Z, Z⟩ (AV.Le.tup cr) ⟨(CellOk.agg 2 (tm Z) Z isAgg25 sizeOf25 (nb Z) Z), (tm Z), (tm Z), trivial⟩ (wi [0] Z)
     ·refine aw_skip ?_
      exact ⟨(r51.1.Files, r51.1.Faults), (), (some_of h).symm, wi [2, 1, 0] Z⟩
    ·refine aw_skip ?_
     exact ⟨(r37.1.Files, r37.1.Faults), (), (some_of h).symm, wi [2, 1, 0] Z⟩

def slices.SortFunc_api_File.enc (x : api.File) : List Value := [Go.Proofs.encStr x.Name, Go.Proofs.encStr x.Data, Value.int IntKind.i64 x.Synced]

theorem slices.SortFunc_api_File.closure (x y : api.File) (W : World) : Calls prog 67 (#[.agg (slices.SortFunc_api_File.enc x).toArray, .agg (slices.SortFunc_api_File.enc y).toArray] ++ #[]) W fun e w' => e = .returned (.int .i64 (Go.Lib.compareBytes x.Name y.Name)) ∧ ∃ q os', w' = Go.Sort.grow (W.drewN q) os' := by
 have hcon := fun W' => Go.Proofs.Tryz.strings_Compare ⟨x.Name.toArray⟩ ⟨y.Name.toArray⟩ W'
 change ∀ W', Calls prog 68 _ _ _ at hcon
 have hr : Go.Lib.compareBytes (⟨x.Name.toArray⟩ : ByteArray).data.toList (⟨y.Name.toArray⟩ : ByteArray).data.toList = Go.Lib.compareBytes x.Name y.Name := by simp
 rw [hr] at hcon
 show Calls prog 67 #[.agg (slices.SortFunc_api_File.enc x).toArray, .agg (slices.SortFunc_api_File.enc y).toArray] W _
 unfold slices.SortFunc_api_File.enc Go.Proofs.encStr
 generalize Go.Lib.compareBytes x.Name y.Name = r at hcon ⊢
 go_enter func67, ntmps67
 go_wp2_with (go_at_call 68; refine (hcon _).mono ?_; rintro e w' ⟨rfl, rfl⟩)
 go_ret
 exact ⟨Z, 0, _, by rw [Go.Sort.alloc_eq_grow, Go.Sort.alloc_eq_grow, Go.Sort.grow_grow]; rfl⟩

theorem slices.SortFunc_api_File.ok {x r} (h : slices.SortFunc_api_File x = some r) (o0 : Nat) : Sp prog 66 [.vec o0, .fn 67 []] [(o0, .vec 3 (m0L x))] (fun v H => v = .tup [] ∧ H = [(o0, .vec 3 (m0L r))]) := by
 unfold slices.SortFunc_api_File at h
 obtain ⟨c, h⟩ := need_of h
 cases h
 refine spec_sortF (by decide) slices.SortFunc_api_File.enc api.File.av (Go.Proofs.ltOf fun a b : api.File => Go.Lib.compareBytes a.Name b.Name) (fun _ => Z) (fun x gh w c v hc h => ?_) (fun x gh w c hc => ?_) (fun _ => Z) (fun blk off cap d w hH hb hsz => ?_) (fun p cap fv w => Go.Proofs.AnyF.slices_SortFunc_none Go.Proofs.Tryz.sortF66 p cap fv w) (fun d hp hs => key_unique (fun y : api.File => y.Name) c.2 hp hs) c.1 o0
 ·rcases c with _ | _ | _ | c
  ·cases h; rfl
  ·cases h; rfl
  ·cases h; rfl
  ·omega
 ·rcases c with _ | _ | _ | c
  ·constructor
  ·constructor
  ·constructor
  ·omega
 ·exact Go.Proofs.AnyQ.slices_SortFunc Go.Proofs.Tryz.sortF66 3 isAgg60 sizeOf60 slices.SortFunc_api_File.enc (fun _ => Z) (fun x v hv => by simp [slices.SortFunc_api_File.enc] at hv; rcases hv with h1 | h1 | h1 <;> (subst h1; exact Eq.refl _)) (fun a b : api.File => Go.Lib.compareBytes a.Name b.Name) (swo_key fun y : api.File => y.Name) 67 #[] blk off cap d w (enters_of func67 (by kernel_rfl) Z) (fun _ _ _ _ x y => slices.SortFunc_api_File.closure x y _) hH hb hsz

theorem disk.counting.ok {d r} (h : disk.counting d = some r) : Sp prog 39 [.agg [.sl .no 3 (m0L d.Files), .sl .no 3 (m1L d.Faults)]] [] (fun v H => v = .sl .no 3 (m0L r) ∧ H = []) := by
 unfold disk.counting at h
 refine sb [.tmp 2] func39 Z (xr (xb [.sl .no 3 (m0L d.Files), .sl .no 3 (m1L d.Faults)] Z fun p141 => xa (.sl .full 3 e0L) Z (pu_assign Z (AEv.nil 3 (by decide))) (xe (xr (xa (.sl .full 3 e0L) Z (pu_assign Z (AEv.nil 3 (by decide))) (xe ?_))))))
 obtain ⟨s209, s209e, h211⟩ := bind_some h
 refine aw_meet (ν := Nat) (fun v => [(3, .vec v)]) (fun v => [(v, .vec 3 (m0L s209))]) ?_ ?_
 have h := s209e
 refine xr (xf (.ptr p141 0) underlying25 sizeOf22 Z (xl 0 isAgg22 Z (xa (.i (d.Files.length : Int)) Z (pu_lenM Z underlying22 (tm Z)) (xz (.i 0) Z (xe (aw_block (aw_vecNil 3 (tm Z) fun t279 => (aw_while (σ := disk.counting.S0) (ν := Nat) (disk.counting.body0 d) (fun s255 v => [(1, .ptr p141 0), (3, .vec v), (7, .sl .no 3 (m0L d.Files)), (8, .i (d.Files.length : Int)), (9, .i s255.t9)]) (fun s255 v => [(p141, .cells [.sl .no 3 (m0L d.Files), .sl .no 3 (m1L d.Faults)]), (v, .vec 3 (m0L s255.v))]) ⟨0, ([] : List api.File)⟩ t279 _ h (wi [1, 0] Z) ?_))))))))
 rintro s255 n256 x258 h hx257
 unfold disk.counting.body0 at h
 refine xr (xz (bd (s255.t9 < (d.Files.length : Int))) Z (xe (aw_seq (cd h Z (fun _ h => ?_) (fun _ h => ?_)))))
 refine aw_skip ?_
 obtain ⟨s267, s267e, h269⟩ := bind_some h
 refine aw_meet (ν := Nat) (fun v => [(1, .ptr p141 0), (3, .vec v), (7, .sl .no 3 (m0L d.Files)), (8, .i (d.Files.length : Int)), (9, .i s255.t9)]) (fun v => [(p141, .cells [.sl .no 3 (m0L d.Files), .sl .no 3 (m1L d.Faults)]), (v, .vec 3 (m0L s267))]) ?_ ?_
 have h := s267e
 refine aw_block (xr (xy Z ?_))
 obtain ⟨c271, h⟩ := need_of h
 refine xa (.vptr [.str (ix d.Files s255.t9).Name, .str (ix d.Files s255.t9).Data, .i (ix d.Files s255.t9).Synced]) Z (pu_indexAddrM Z underlying22 sizeOf60 (tm Z) (tm Z) c271 Z) (xc Z (op_loadVN Z isAgg60 sizeOf60 (tm Z) (nb Z) Z (xA (.agg [.str nS, .str nS, .i 0]) zeroValue60 Z fun p272 => xy Z (xs 0 [.str (ix d.Files s255.t9).Name, .str (ix d.Files s255.t9).Data, .i (ix d.Files s255.t9).Synced] sizeOf60 Z (xe (xr (xL 1 isAgg25 sizeOf25 Z (xf (.ptr p272 0) underlying60 sizeOf9 Z (xl 0 isAgg9 Z ?_)))))))))
 obtain ⟨r273, r273e, h⟩ := bind_some h
 refine xo (disk.find.ok r273e) call41 Z (xy Z (xz (bd (r273 = s255.t9)) Z (xe (cd h Z (fun _ h => ?_) (fun _ h => ?_)))))
 refine xr (xL 0 isAgg60 sizeOf60 Z ?_)
 obtain ⟨r274, r274e, h⟩ := bind_some h
 refine xo (disk.safe.ok r274e) call42 Z (xf (.ptr p272 2) underlying60 sizeOf3 Z (xs 0 [.str (ix d.Files s255.t9).Name, .str (ix d.Files s255.t9).Data, .i r274] sizeOf3 Z (xe (aw_region (xy Z (xL 0 isAgg60 sizeOf60 Z (xc Z (op_buildSlice (xs := ([{ (ix d.Files s255.t9) with Synced := r274 }] : List api.File).map api.File.av) (aparts := [(0, .agg [.str (ix d.Files s255.t9).Name, .str (ix d.Files s255.t9).Data, .i r274])]) Z underlying22 sizeOf60 zeroValue60 (by decide) (by decide) ⟨Z, (tm Z), trivial⟩ Z Z Z ?_))))))))
 obtain ⟨c275, h⟩ := need_of h
 refine xc Z (op_appendVM (sz := 3) (q := 2) Z underlying22 underlying22 (.inl Z) typeInfo60 Z Z Z (by decide) (tm Z) Z (given_sl (tm Z)) c275 ?_)
 intro p276
 refine xy Z (xe ?_)
 cases h
 exact ⟨p276, wi [1, 2] Z⟩
 refine aw_skip ?_
 cases h
 exact ⟨n256, wi [1, 2] Z⟩
 intro n268
 have h := h269
 refine aw_region (xz (.i (w64 (s255.t9 + 1))) Z (xy Z (xe ?_)))
 cases h
 exact ⟨_, n268, Z, wi [0, 1] Z⟩
 refine aw_exit ?_
 cases h
 cases congrArg some (hx257 _ rfl)
 exact ⟨n256, wi [1] Z⟩
 intro n210
 have h := h211
 refine xr (xy Z ?_)
 obtain ⟨r280, r280e, h⟩ := bind_some h
 refine xc Z (op_call (vs := [.vec n210, .fn 67 []]) (H := [(n210, .vec 3 (m0L s209))]) Z call66 ⟨(tm Z), (AEv.func _), trivial⟩ (List.Perm.refl _) (slices.SortFunc_api_File.ok r280e n210) ?_)
 rintro _ _ ⟨rfl, rfl⟩
 refine xe (xr (xy Z (xy Z (xe (aw_publish 2 0 (tm Z) Z (aw_ret ?_))))))
 cases h
 exact rt ⟨Z, Z⟩ Z w0

theorem slices.Equal_api_File.ok {s1_ s2_ r} (h : slices.Equal_api_File s1_ s2_ = some r) : Sp prog 38 [.sl .no 3 (m0L s1_), .sl .no 3 (m0L s2_)] [] (fun v H => v = .bool r ∧ H = []) := by
 unfold slices.Equal_api_File at h
 refine sb [.tmp 4] func38 Z (xr (xz (.bool false) Z (xe (aw_seq (xr (xy Z (xa (.i (s1_.length : Int)) Z (pu_lenM Z underlying22 (tm Z)) ?_)))))))
 refine xy Z (xa (.i (s2_.length : Int)) Z (pu_lenM Z underlying22 (tm Z)) (xz (bn ((s1_.length : Int) = (s2_.length : Int))) Z (xe (cn h Z (fun _ h => ?_) (fun _ h => ?_)))))
 refine xr (xz (.bool false) Z (xe (aw_ret ?_)))
 cases h
 exact rt ⟨Z, Z⟩ Z w0
 refine aw_skip ?_
 obtain ⟨s81, s81e, h61⟩ := bind_some h
 refine aw_join (σ := Unit) (ν := Unit) (fun u v => []) (fun u v => []) (fun u => s81 = .inl u) ?_ ?_
 intro s60
 intro _
 rintro rfl
 have h := onSum_inl h61
 refine xr (xz (.bool true) Z (xe (aw_ret ?_)))
 cases h
 exact rt ⟨Z, Z⟩ Z w0
 have h := s81e
 refine xr (xy Z (xa (.i (s1_.length : Int)) Z (pu_lenM Z underlying22 (tm Z)) (xz (.i 0) Z (xe (aw_block (aw_while (σ := slices.Equal_api_File.S0) (ν := Unit) (slices.Equal_api_File.body0 s1_ s2_) (fun s73 v => [(0, .sl .no 3 (m0L s1_)), (1, .sl .no 3 (m0L s2_)), (12, .i (s1_.length : Int)), (13, .i s73.t13)]) (fun s73 v => []) ⟨0⟩ () _ h (wi [] Z) ?_))))))
 rintro s73 _ x75 h hx74
 unfold slices.Equal_api_File.body0 at h
 refine xr (xz (bd (s73.t13 < (s1_.length : Int))) Z (xe (aw_seq (cd h Z (fun _ h => ?_) (fun _ h => ?_)))))
 refine aw_skip (aw_seq (aw_block (xr (xy Z (xy Z (xe (aw_seq ?_)))))))
 obtain ⟨c77, h⟩ := need_of h
 obtain ⟨c78, h⟩ := need_of h
 refine aw_planR (by decide +kernel) [[], [], [], [], [], [], [], [], []] [] [] [.sl .no 3 (m0L s1_), .i s73.t13, .vptr [.str (ix s1_ s73.t13).Name, .str (ix s1_ s73.t13).Data, .i (ix s1_ s73.t13).Synced], .agg [.str (ix s1_ s73.t13).Name, .str (ix s1_ s73.t13).Data, .i (ix s1_ s73.t13).Synced], .sl .no 3 (m0L s2_), .i s73.t13, .vptr [.str (ix s2_ s73.t13).Name, .str (ix s2_ s73.t13).Data, .i (ix s2_ s73.t13).Synced], .agg [.str (ix s2_ s73.t13).Name, .str (ix s2_ s73.t13).Data, .i (ix s2_ s73.t13).Synced], bn ((ix s1_ s73.t13) = (ix s2_ s73.t13))] (by decide +kernel) Z Z ?_ ?_
 exact ⟨ym Z Z Z, ym Z Z Z, yp Z (pu_indexAddrM Z underlying22 sizeOf60 (tm Z) (tm Z) c77 Z), stepg_plain Z (op_loadVN Z isAgg60 sizeOf60 (tm Z) (nb Z) Z ⟨Z, Z⟩), ym Z Z Z, ym Z Z Z, yp Z (pu_indexAddrM Z underlying22 sizeOf60 (tm Z) (tm Z) c78 Z), stepg_plain Z (op_loadVN Z isAgg60 sizeOf60 (tm Z) (nb Z) Z ⟨Z, Z⟩), yp Z (APure.eq (pu_structNe (b := (decide ((ix s1_ s73.t13).Name = (ix s2_ s73.t13).Name) && (decide ((ix s1_ s73.t13).Data = (ix s2_ s73.t13).Data) && (decide ((ix s1_ s73.t13).Synced = (ix s2_ s73.t13).Synced) && true)))) Z underlying60 (by kernel_rfl) (by kernel_rfl) (tm Z) (tm Z) ⟨_, _, _, _, ⟨by decide, isAgg9, Z, Z, CEq.str underlying9⟩, ⟨_, _, _, _, ⟨by decide, isAgg9, Z, Z, CEq.str underlying9⟩, ⟨_, _, _, _, ⟨by decide, isAgg3, Z, Z, CEq.int underlying3⟩, Z, Z⟩, Z⟩, Z⟩) (congrArg (fun b => AV.bool (!b)) (api.File.eq_iff (ix s1_ s73.t13) (ix s2_ s73.t13)).symm)), trivial⟩
 refine aw_cond (b := (!decide ((ix s1_ s73.t13) = (ix s2_ s73.t13)))) (tm Z) (fun hb79 => ?_) (fun hb79 => ?_)
 replace h := ite_f (ndec_t hb79) h
 refine xr (xz (.bool false) Z (xe (aw_ret ?_)))
 cases h
 cases congrArg some (hx74 _ rfl)
 cases onSum_inr h61
 exact rt ⟨Z, Z⟩ Z w0
 replace h := ite_t (ndec_f hb79) h
 refine aw_skip (aw_region (xz (.i (w64 (s73.t13 + 1))) Z (xy Z (xe ?_))))
 cases h
 exact ⟨_, (), Z, wi [] Z⟩
 refine aw_exit ?_
 cases h
 have h := congrArg some (hx74 _ rfl)
 exact ⟨(), (), (some_of h).symm, w0⟩

theorem slices.Equal_api_Fault.ok {s1_ s2_ r} (h : slices.Equal_api_Fault s1_ s2_ = some r) : Sp prog 40 [.sl .no 3 (m1L s1_), .sl .no 3 (m1L s2_)] [] (fun v H => v = .bool r ∧ H = []) := by
 unfold slices.Equal_api_Fault at h
 refine sb [.tmp 4] func40 Z (xr (xz (.bool false) Z (xe (aw_seq (xr (xy Z (xa (.i (s1_.length : Int)) Z (pu_lenM Z underlying23 (tm Z)) ?_)))))))
 refine xy Z (xa (.i (s2_.length : Int)) Z (pu_lenM Z underlying23 (tm Z)) (xz (bn ((s1_.length : Int) = (s2_.length : Int))) Z (xe (cn h Z (fun _ h => ?_) (fun _ h => ?_)))))
 refine xr (xz (.bool false) Z (xe (aw_ret ?_)))
 cases h
 exact rt ⟨Z, Z⟩ Z w0
 refine aw_skip ?_
 obtain ⟨s81, s81e, h61⟩ := bind_some h
 refine aw_join (σ := Unit) (ν := Unit) (fun u v => []) (fun u v => []) (fun u => s81 = .inl u) ?_ ?_
 intro s60
 intro _
 rintro rfl
 have h := onSum_inl h61
 refine xr (xz (.bool true) Z (xe (aw_ret ?_)))
 cases h
 exact rt ⟨Z, Z⟩ Z w0
 have h := s81e
 refine xr (xy Z (xa (.i (s1_.length : Int)) Z (pu_lenM Z underlying23 (tm Z)) (xz (.i 0) Z (xe (aw_block (aw_while (σ := slices.Equal_api_Fault.S0) (ν := Unit) (slices.Equal_api_Fault.body0 s1_ s2_) (fun s73 v => [(0, .sl .no 3 (m1L s1_)), (1, .sl .no 3 (m1L s2_)), (12, .i (s1_.length : Int)), (13, .i s73.t13)]) (fun s73 v => []) ⟨0⟩ () _ h (wi [] Z) ?_))))))
 rintro s73 _ x75 h hx74
 unfold slices.Equal_api_Fault.body0 at h
 refine xr (xz (bd (s73.t13 < (s1_.length : Int))) Z (xe (aw_seq (cd h Z (fun _ h => ?_) (fun _ h => ?_)))))
 refine aw_skip (aw_seq (aw_block (xr (xy Z (xy Z (xe (aw_seq ?_)))))))
 obtain ⟨c77, h⟩ := need_of h
 obtain ⟨c78, h⟩ := need_of h
 refine aw_planR (by decide +kernel) [[], [], [], [], [], [], [], [], []] [] [] [.sl .no 3 (m1L s1_), .i s73.t13, .vptr [.str (ix s1_ s73.t13).Name, .i (ix s1_ s73.t13).Kind, .i (ix s1_ s73.t13).Short], .agg [.str (ix s1_ s73.t13).Name, .i (ix s1_ s73.t13).Kind, .i (ix s1_ s73.t13).Short], .sl .no 3 (m1L s2_), .i s73.t13, .vptr [.str (ix s2_ s73.t13).Name, .i (ix s2_ s73.t13).Kind, .i (ix s2_ s73.t13).Short], .agg [.str (ix s2_ s73.t13).Name, .i (ix s2_ s73.t13).Kind, .i (ix s2_ s73.t13).Short], bn ((ix s1_ s73.t13) = (ix s2_ s73.t13))] (by decide +kernel) Z Z ?_ ?_
 exact ⟨ym Z Z Z, ym Z Z Z, yp Z (pu_indexAddrM Z underlying23 sizeOf79 (tm Z) (tm Z) c77 Z), stepg_plain Z (op_loadVN Z isAgg79 sizeOf79 (tm Z) (nb Z) Z ⟨Z, Z⟩), ym Z Z Z, ym Z Z Z, yp Z (pu_indexAddrM Z underlying23 sizeOf79 (tm Z) (tm Z) c78 Z), stepg_plain Z (op_loadVN Z isAgg79 sizeOf79 (tm Z) (nb Z) Z ⟨Z, Z⟩), yp Z (APure.eq (pu_structNe (b := (decide ((ix s1_ s73.t13).Name = (ix s2_ s73.t13).Name) && (decide ((ix s1_ s73.t13).Kind = (ix s2_ s73.t13).Kind) && (decide ((ix s1_ s73.t13).Short = (ix s2_ s73.t13).Short) && true)))) Z underlying79 (by kernel_rfl) (by kernel_rfl) (tm Z) (tm Z) ⟨_, _, _, _, ⟨by decide, isAgg9, Z, Z, CEq.str underlying9⟩, ⟨_, _, _, _, ⟨by decide, isAgg3, Z, Z, CEq.int underlying3⟩, ⟨_, _, _, _, ⟨by decide, isAgg3, Z, Z, CEq.int underlying3⟩, Z, Z⟩, Z⟩, Z⟩) (congrArg (fun b => AV.bool (!b)) (api.Fault.eq_iff (ix s1_ s73.t13) (ix s2_ s73.t13)).symm)), trivial⟩
 refine aw_cond (b := (!decide ((ix s1_ s73.t13) = (ix s2_ s73.t13)))) (tm Z) (fun hb79 => ?_) (fun hb79 => ?_)
 replace h := ite_f (ndec_t hb79) h
 refine xr (xz (.bool false) Z (xe (aw_ret ?_)))
 cases h
 cases congrArg some (hx74 _ rfl)
 cases onSum_inr h61
 exact rt ⟨Z, Z⟩ Z w0
 replace h := ite_t (ndec_f hb79) h
 refine aw_skip (aw_region (xz (.i (w64 (s73.t13 + 1))) Z (xy Z (xe ?_))))
 cases h
 exact ⟨_, (), Z, wi [] Z⟩
 refine aw_exit ?_
 cases h
 have h := congrArg some (hx74 _ rfl)
 exact ⟨(), (), (some_of h).symm, w0⟩

theorem disk.Same.ok {a b r} (h : disk.Same a b = some r) : Sp prog 14 [.agg [.sl .no 3 (m0L a.Files), .sl .no 3 (m1L a.Faults)], .agg [.sl .no 3 (m0L b.Files), .sl .no 3 (m1L b.Faults)]] [] (fun v H => v = .bool r ∧ H = []) := by
 unfold disk.Same at h
 refine sb [.tmp 4] func14 Z (xr (xb [.sl .no 3 (m0L a.Files), .sl .no 3 (m1L a.Faults)] Z fun p16 => xb [.sl .no 3 (m0L b.Files), .sl .no 3 (m1L b.Faults)] Z fun p17 => xz (.bool false) Z (xe ?_)))
 obtain ⟨s23, s23e, h24⟩ := bind_some h
 refine aw_meet (ν := Unit) (fun v => [(4, .bool s23)]) (fun v => []) ?_ ?_
 have h := s23e
 obtain ⟨r26, r26e, h⟩ := bind_some h
 obtain ⟨r27, r27e, h⟩ := bind_some h
 obtain ⟨r28, r28e, h⟩ := bind_some h
 rcases Bool.eq_false_or_eq_true r28 with hb29 | hb29
 replace h := ite_t hb29 h
 obtain ⟨r30, r30e, h⟩ := bind_some h
 refine aw_planR (by decide +kernel) [[(1, 0, false)], [], [(0, 0, false)], [], [], [], [], [(1, 0, false)], [], [(0, 0, false)], [], [], []] [[], []] [[[(p17, .cells [.sl .no 3 (m0L b.Files), .sl .no 3 (m1L b.Faults)])]], [[(p16, .cells [.sl .no 3 (m0L a.Files), .sl .no 3 (m1L a.Faults)])]]] [.agg [.sl .no 3 (m0L a.Files), .sl .no 3 (m1L a.Faults)], .sl .no 3 (m0L r26), .agg [.sl .no 3 (m0L b.Files), .sl .no 3 (m1L b.Faults)], .sl .no 3 (m0L r27), .bool r28, .bool true, .ptr p16 1, .sl .no 3 (m1L a.Faults), .ptr p17 1, .sl .no 3 (m1L b.Faults), .bool r30, .bool r30, .bool r30] (by decide +kernel) Z Z ?_ ?_
 exact ⟨stepg_plain Z (op_loadN (i := 0) Z isAgg25 sizeOf25 (tm Z) Z (nb Z) Z ⟨Z, Z⟩), stepg_plain Z (op_call (vs := [.agg [.sl .no 3 (m0L a.Files), .sl .no 3 (m1L a.Faults)]]) (H := []) Z call39 ⟨(tm Z), trivial⟩ (R := []) (List.Perm.refl _) (disk.counting.ok r26e) (by rintro _ _ ⟨rfl, rfl⟩; exact ⟨Z, Z⟩)), stepg_plain Z (op_loadN (i := 0) Z isAgg25 sizeOf25 (tm Z) Z (nb Z) Z ⟨Z, Z⟩), stepg_plain Z (op_call (vs := [.agg [.sl .no 3 (m0L b.Files), .sl .no 3 (m1L b.Faults)]]) (H := []) Z call39 ⟨(tm Z), trivial⟩ (R := []) (List.Perm.refl _) (disk.counting.ok r27e) (by rintro _ _ ⟨rfl, rfl⟩; exact ⟨Z, Z⟩)), stepg_plain Z (op_call (vs := [.sl .no 3 (m0L r26), .sl .no 3 (m0L r27)]) (H := []) Z call38 ⟨(tm Z), (tm Z), trivial⟩ (R := []) (List.Perm.refl _) (slices.Equal_api_File.ok r28e) (by rintro _ _ ⟨rfl, rfl⟩; exact ⟨Z, Z⟩)), AStepG.cast (ym Z Z Z) (congrArg AV.bool hb29), yq Z Z (fa Z underlying25 Z sizeOf23 Z Z Z), yg Z Z (op_load1 (i := 0) Z isAgg23 (tm Z) Z Z ⟨Z, Z⟩), yq Z Z (fa Z underlying25 Z sizeOf23 Z Z Z), yg Z Z (op_load1 (i := 0) Z isAgg23 (tm Z) Z Z ⟨Z, Z⟩), yg Z Z (op_call (vs := [.sl .no 3 (m1L a.Faults), .sl .no 3 (m1L b.Faults)]) (H := []) Z call40 ⟨(tm Z), (tm Z), trivial⟩ (R := []) (List.Perm.refl _) (slices.Equal_api_Fault.ok r30e) (by rintro _ _ ⟨rfl, rfl⟩; exact ⟨Z, Z⟩)), yp Z (pe Z), ym Z Z Z, trivial⟩
 cases h
 exact ⟨(), wi [] Z⟩
 replace h := ite_fb hb29 h
 refine aw_planR (by decide +kernel) [[(1, 0, false)], [], [(0, 0, false)], [], [], [], [], [], [], [], [], [], []] [[], []] [[[(p17, .cells [.sl .no 3 (m0L b.Files), .sl .no 3 (m1L b.Faults)])]], [[(p16, .cells [.sl .no 3 (m0L a.Files), .sl .no 3 (m1L a.Faults)])]]] [.agg [.sl .no 3 (m0L a.Files), .sl .no 3 (m1L a.Faults)], .sl .no 3 (m0L r26), .agg [.sl .no 3 (m0L b.Files), .sl .no 3 (m1L b.Faults)], .sl .no 3 (m0L r27), .bool r28, .bool false, .lit undef, .lit undef, .lit undef, .lit undef, .lit undef, .bool false, .bool false] (by decide +kernel) Z Z ?_ ?_
 exact ⟨stepg_plain Z (op_loadN (i := 0) Z isAgg25 sizeOf25 (tm Z) Z (nb Z) Z ⟨Z, Z⟩), stepg_plain Z (op_call (vs := [.agg [.sl .no 3 (m0L a.Files), .sl .no 3 (m1L a.Faults)]]) (H := []) Z call39 ⟨(tm Z), trivial⟩ (R := []) (List.Perm.refl _) (disk.counting.ok r26e) (by rintro _ _ ⟨rfl, rfl⟩; exact ⟨Z, Z⟩)), stepg_plain Z (op_loadN (i := 0) Z isAgg25 sizeOf25 (tm Z) Z (nb Z) Z ⟨Z, Z⟩), stepg_plain Z (op_call (vs := [.agg [.sl .no 3 (m0L b.Files), .sl .no 3 (m1L b.Faults)]]) (H := []) Z call39 ⟨(tm Z), trivial⟩ (R := []) (List.Perm.refl _) (disk.counting.ok r27e) (by rintro _ _ ⟨rfl, rfl⟩; exact ⟨Z, Z⟩)), stepg_plain Z (op_call (vs := [.sl .no 3 (m0L r26), .sl .no 3 (m0L r27)]) (H := []) Z call38 ⟨(tm Z), (tm Z), trivial⟩ (R := []) (List.Perm.refl _) (slices.Equal_api_File.ok r28e) (by rintro _ _ ⟨rfl, rfl⟩; exact ⟨Z, Z⟩)), AStepG.cast (ym Z Z Z) (congrArg AV.bool hb29), yx Z Z Z, yx Z Z Z, yx Z Z Z, yx Z Z Z, yx Z Z Z, yp Z (pe Z), ym Z Z Z, trivial⟩
 cases h
 exact ⟨(), wi [] Z⟩
 intro _
 have h := h24
 refine aw_ret ?_
 cases h
 exact rt ⟨Z, Z⟩ Z w0

theorem mewslaw18.alive.ok  {r : Bool} (h : mewslaw18.alive = some r) : Sp prog 7 [] [] (fun v H => v = .bool r ∧ H = []) := by
 unfold mewslaw18.alive at h
 refine sb [.tmp 0] func7 Z (xr (xz (.bool false) Z (xe (xr (xc Z (op_buildSlice (xs := ([[80, 73, 78, 71]] : List (List UInt8)).map AV.str) (aparts := [(0, .str [80, 73, 78, 71])]) Z underlying65 sizeOf9 zeroValue9 (by decide) (by decide) ⟨Z, (AEv.const Z), trivial⟩ Z Z Z (xc Z (op_buildSlice (xs := ([[[80, 73, 78, 71]]] : List (List (List UInt8))).map av_List_List_UInt8) (aparts := [(0, .sl .no 1 ([[80, 73, 78, 71]].map AV.str))]) Z underlying66 sizeOf65 zeroValue65 (by decide) (by decide) ⟨Z, (AEv.le (tm Z) (AV.Le.forget _ _ _)), trivial⟩ Z Z Z (xa (.agg [.sl .full 1 ([[[80, 73, 78, 71]]].map av_List_List_UInt8)]) Z (pu_build (zs := [.sl .full 1 e5L]) (szs := [1]) (aparts := [(0, .sl .full 1 ([[[80, 73, 78, 71]]].map av_List_List_UInt8))]) (cs := [.sl .full 1 ([[[80, 73, 78, 71]]].map av_List_List_UInt8)]) Z underlying68 zeroValue68 Z ⟨sizeOf66, trivial⟩ ⟨Z, (tm Z), trivial⟩ Z) ?_)))))))))
 obtain ⟨r23, r23e, h⟩ := bind_some h
 refine xc Z (op_call (vs := [.agg [.sl .no 1 ([[[80, 73, 78, 71]]].map av_List_List_UInt8)]]) (H := []) Z call24 ⟨(AEv.le (tm Z) (AV.Le.agg ⟨(AV.Le.forget _ _ _), trivial⟩)), trivial⟩ (List.Perm.refl _) (unit.Put.ok r23e) ?_)
 rintro _ _ ⟨rfl, rfl⟩
 refine xy Z (xz (.str r23.1) Z (xz (.i r23.2) Z (xy Z (xy Z (xe (aw_seq (xr (xy Z ?_))))))))
 refine xa (.i (r23.1.length : Int)) Z (pu_strLen Z underlying9 (tm Z)) (xz (bn ((r23.1.length : Int) = 23)) Z (xe (cn h Z (fun _ h => ?_) (fun _ h => ?_))))
 refine xr (xz (.bool false) Z (xe (aw_ret ?_)))
 cases h
 exact rt ⟨Z, Z⟩ Z w0
 refine aw_skip (xr (xy Z (xy Z ?_)))
 obtain ⟨c24, h⟩ := need_of h
 refine xa (.str (sub r23.1 0 9)) Z (pu_strSliceM Z underlying9 (tm Z) Z ⟨_, (AEv.int _ _)⟩ c24) ?_
 obtain ⟨c25, h⟩ := need_of h
 refine xa (.str (r23.1 ++ (sub r23.1 0 9))) Z (pu_strAdd Z (tm Z) (tm Z) c25) (xa (.agg [.str [102], .str (r23.1 ++ (sub r23.1 0 9)), .i 0]) Z (pu_build (zs := [.str nS, .str nS, .i 0]) (szs := [1, 1, 1]) (aparts := [(0, .str [102]), (1, .str (r23.1 ++ (sub r23.1 0 9)))]) (cs := [.str [102], .str (r23.1 ++ (sub r23.1 0 9)), .i 0]) Z underlying60 zeroValue60 Z ⟨sizeOf9, sizeOf9, sizeOf3, trivial⟩ ⟨Z, (AEv.const Z), ⟨Z, (tm Z), trivial⟩⟩ Z) (xa (.agg [.str [102, 46, 110, 101, 119], .str [120], .i 0]) Z (pu_build (zs := [.str nS, .str nS, .i 0]) (szs := [1, 1, 1]) (aparts := [(0, .str [102, 46, 110, 101, 119]), (1, .str [120])]) (cs := [.str [102, 46, 110, 101, 119], .str [120], .i 0]) Z underlying60 zeroValue60 Z ⟨sizeOf9, sizeOf9, sizeOf3, trivial⟩ ⟨Z, (AEv.const Z), ⟨Z, (AEv.const Z), trivial⟩⟩ Z) (xc Z (op_buildSlice (xs := ([({ Name := [102], Data := r23.1 ++ (sub r23.1 0 9), Synced := 0 } : api.File), ({ Name := [102, 46, 110, 101, 119], Data := [120], Synced := 0 } : api.File)] : List api.File).map api.File.av) (aparts := [(0, .agg [.str [102], .str (r23.1 ++ (sub r23.1 0 9)), .i 0]), (1, .agg [.str [102, 46, 110, 101, 119], .str [120], .i 0])]) Z underlying22 sizeOf60 zeroValue60 (by decide) (by decide) ⟨Z, (tm Z), ⟨Z, (tm Z), trivial⟩⟩ Z Z Z (xa (.agg [.sl .full 3 ([({ Name := [102], Data := r23.1 ++ (sub r23.1 0 9), Synced := 0 } : api.File), ({ Name := [102, 46, 110, 101, 119], Data := [120], Synced := 0 } : api.File)].map api.File.av), .sl .full 3 e1L]) Z (pu_build (zs := [.sl .full 3 e0L, .sl .full 3 e1L]) (szs := [1, 1]) (aparts := [(0, .sl .full 3 ([({ Name := [102], Data := r23.1 ++ (sub r23.1 0 9), Synced := 0 } : api.File), ({ Name := [102, 46, 110, 101, 119], Data := [120], Synced := 0 } : api.File)].map api.File.av))]) (cs := [.sl .full 3 ([({ Name := [102], Data := r23.1 ++ (sub r23.1 0 9), Synced := 0 } : api.File), ({ Name := [102, 46, 110, 101, 119], Data := [120], Synced := 0 } : api.File)].map api.File.av), .sl .full 3 e1L]) Z underlying25 zeroValue25 Z ⟨sizeOf22, sizeOf23, trivial⟩ ⟨Z, (tm Z), trivial⟩ Z) ?_)))))
 obtain ⟨r26, r26e, h⟩ := bind_some h
 refine xc Z (op_call (vs := [.agg [.sl .no 3 ([({ Name := [102], Data := r23.1 ++ (sub r23.1 0 9), Synced := 0 } : api.File), ({ Name := [102, 46, 110, 101, 119], Data := [120], Synced := 0 } : api.File)].map api.File.av), .sl .no 3 e1L], .str [102]]) (H := []) Z call8 ⟨(AEv.le (tm Z) (AV.Le.agg ⟨(AV.Le.forget _ _ _), (AV.Le.forget _ _ _), trivial⟩)), (AEv.const Z), trivial⟩ (List.Perm.refl _) (restore.Load.ok r26e) ?_)
 rintro _ _ ⟨t27, rfl, rfl⟩
 refine xy Z (xz (.agg [.sl .no 3 (m0L r26.1.Files), .sl .no 3 (m1L r26.1.Faults)]) Z (xz (.sl (.own t27) 1 (m7L r26.2.1)) Z (xz (.i r26.2.2) Z (xA (.agg [.sl .full 3 e0L, .sl .full 3 e1L]) zeroValue25 Z fun p28 => xs 0 [.sl .no 3 (m0L r26.1.Files), .sl .no 3 (m1L r26.1.Faults)] sizeOf25 Z (xy Z (xy Z (xe ?_)))))))
 obtain ⟨s35, s35e, h36⟩ := bind_some h
 refine aw_meet (ν := Unit) (fun v => [(0, .bool s35)]) (fun v => []) ?_ ?_
 have h := s35e
 refine aw_region (xy Z (xz (bd (r23.2 = 0)) Z (xy Z ?_)))
 rcases Bool.eq_false_or_eq_true (decide (r23.2 = 0)) with hb38 | hb38
 replace h := ite_t (dec_t hb38) h
 refine aops_known 31 Z hb38 (xq Z Z Z Z (xp (bd (r26.2.2 = 0)) Z Z (pe Z) (xz (bd (r26.2.2 = 0)) Z (xy Z ?_))))
 rcases Bool.eq_false_or_eq_true (decide (r26.2.2 = 0)) with hb39 | hb39
 replace h := ite_t (dec_t hb39) h
 refine aops_known 35 Z hb39 (xq Z Z Z Z (xp (.i (r26.2.1.length : Int)) Z Z (pu_lenM Z underlying28 (tm Z)) (xp (bd ((r26.2.1.length : Int) = 1)) Z Z (pe Z) (xz (bd ((r26.2.1.length : Int) = 1)) Z (xy Z ?_)))))
 rcases Bool.eq_false_or_eq_true (decide ((r26.2.1.length : Int) = 1)) with hb40 | hb40
 replace h := ite_t (dec_t hb40) h
 refine aops_known 40 Z hb40 (xg Z Z (op_loadN (i := 0) Z isAgg25 sizeOf25 (tm Z) Z (nb Z) Z (xq Z Z Z Z (xp (.agg [.str [102], .str r23.1, .i 23]) Z Z (pu_build (zs := [.str nS, .str nS, .i 0]) (szs := [1, 1, 1]) (aparts := [(0, .str [102]), (1, .str r23.1), (2, .i 23)]) (cs := [.str [102], .str r23.1, .i 23]) Z underlying60 zeroValue60 Z ⟨sizeOf9, sizeOf9, sizeOf3, trivial⟩ ⟨Z, (AEv.const Z), ⟨Z, (tm Z), ⟨Z, (AEv.int _ _), trivial⟩⟩⟩ Z) (xg Z Z (op_buildSlice (xs := ([({ Name := [102], Data := r23.1, Synced := 23 } : api.File)] : List api.File).map api.File.av) (aparts := [(0, .agg [.str [102], .str r23.1, .i 23])]) Z underlying22 sizeOf60 zeroValue60 (by decide) (by decide) ⟨Z, (tm Z), trivial⟩ Z Z Z (xp (.agg [.sl .full 3 ([({ Name := [102], Data := r23.1, Synced := 23 } : api.File)].map api.File.av), .sl .full 3 e1L]) Z Z (pu_build (zs := [.sl .full 3 e0L, .sl .full 3 e1L]) (szs := [1, 1]) (aparts := [(0, .sl .full 3 ([({ Name := [102], Data := r23.1, Synced := 23 } : api.File)].map api.File.av))]) (cs := [.sl .full 3 ([({ Name := [102], Data := r23.1, Synced := 23 } : api.File)].map api.File.av), .sl .full 3 e1L]) Z underlying25 zeroValue25 Z ⟨sizeOf22, sizeOf23, trivial⟩ ⟨Z, (tm Z), trivial⟩ Z) ?_)))))))
 obtain ⟨r41, r41e, h⟩ := bind_some h
 refine xg Z Z (op_call (vs := [.agg [.sl .no 3 (m0L r26.1.Files), .sl .no 3 (m1L r26.1.Faults)], .agg [.sl .no 3 ([({ Name := [102], Data := r23.1, Synced := 23 } : api.File)].map api.File.av), .sl .no 3 e1L]]) (H := []) Z call14 ⟨(tm Z), (AEv.le (tm Z) (AV.Le.agg ⟨(AV.Le.forget _ _ _), (AV.Le.forget _ _ _), trivial⟩)), trivial⟩ (List.Perm.refl _) (disk.Same.ok r41e) ?_)
 rintro _ _ ⟨rfl, rfl⟩
 refine xz (.bool r41) Z (xy Z ?_)
 rcases Bool.eq_false_or_eq_true r41 with hb42 | hb42
 replace h := ite_t hb42 h
 refine aops_known 48 Z hb42 ?_
 obtain ⟨r43, r43e, h⟩ := bind_some h
 refine xg Z Z (op_call (vs := [.str [102]]) (H := []) Z call12 ⟨(AEv.const Z), trivial⟩ (List.Perm.refl _) (restore.Other.ok r43e) ?_)
 rintro _ _ ⟨rfl, rfl⟩
 refine xp (bd (r43 = [102, 46, 110, 101, 119])) Z Z (pu_str (v := bd (r43 = [102, 46, 110, 101, 119])) Z Z (tm Z) (AEv.const Z) Z) (xz (bd (r43 = [102, 46, 110, 101, 119])) Z (xy Z (xe ?_)))
 cases h
 exact ⟨(), wi [] Z⟩
 replace h := ite_fb hb42 h
 refine aops_known 48 Z hb42 (xu Z (xu Z (xz (.bool false) Z (xy Z (xe ?_)))))
 cases h
 exact ⟨(), wi [] Z⟩
 replace h := ite_f (dec_f hb40) h
 refine aops_known 40 Z hb40 (xu Z (xu Z (xu Z (xu Z (xu Z (xu Z (xz (.bool false) Z (xy Z (xu Z ?_)))))))))
 refine xu Z (xz (.bool false) Z (xy Z (xe ?_)))
 cases h
 exact ⟨(), wi [] Z⟩
 replace h := ite_f (dec_f hb39) h
 refine aops_known 35 Z hb39 (xu Z (xu Z (xu Z (xz (.bool false) Z (xy Z (xu Z (xu Z (xu Z (xu Z ?_)))))))))
 refine xu Z (xu Z (xz (.bool false) Z (xy Z (xu Z (xu Z (xz (.bool false) Z (xy Z (xe ?_))))))))
 cases h
 exact ⟨(), wi [] Z⟩
 replace h := ite_f (dec_f hb38) h
 refine aops_known 31 Z hb38 (xu Z (xu Z (xz (.bool false) Z (xy Z (xu Z (xu Z (xu Z (xz (.bool false) Z (xy Z ?_)))))))))
 refine xu Z (xu Z (xu Z (xu Z (xu Z (xu Z (xz (.bool false) Z (xy Z (xu Z (xu Z ?_)))))))))
 refine xz (.bool false) Z (xy Z (xe ?_))
 cases h
 exact ⟨(), wi [] Z⟩
 intro _
 have h := h36
 refine aw_ret ?_
 cases h
 exact rt ⟨Z, Z⟩ Z w0

theorem mewsref15.May.ok {u_ r} (h : mewsref15.May u_ = some r) : Sp prog 63 [.agg [.sl .no 1 (m4L u_.Cmds)]] [] (fun v H => v = .bool r ∧ H = []) := by
 unfold mewsref15.May at h
 refine sb [.tmp 2] func63 Z (xr (xb [.sl .no 1 (m4L u_.Cmds)] Z fun p318 => xz (.bool false) Z (xe (aw_seq ?_))))
 obtain ⟨s320, s320e, h321⟩ := letO_of h
 refine aw_meet (ν := Unit) (fun v => [(1, .ptr p318 0), (15, .bool s320)]) (fun v => [(p318, .cells [.sl .no 1 (m4L u_.Cmds)])]) ?_ ?_
 have h := s320e.symm
 refine aw_region (xf (.ptr p318 0) underlying68 sizeOf66 Z (xl 0 isAgg66 Z (xa (.i (u_.Cmds.length : Int)) Z (pu_lenM Z underlying66 (tm Z)) (xz (bd ((u_.Cmds.length : Int) < 1)) Z (xy Z ?_)))))
 rcases Bool.eq_false_or_eq_true (decide ((u_.Cmds.length : Int) < 1)) with hb323 | hb323
 replace h := ite_t (dec_t hb323) h
 refine aops_known 10 Z hb323 (xu Z (xu Z (xu Z (xu Z (xz (.bool true) Z (xe ?_))))))
 subst h
 exact ⟨(), wi [0] Z⟩
 replace h := ite_f (dec_f hb323) h
 refine aops_known 10 Z hb323 (xp (.ptr p318 0) Z Z (fa Z underlying68 Z sizeOf66 Z Z Z) (xg Z Z (op_load1 (i := 0) Z isAgg66 (tm Z) Z Z (xp (.i (u_.Cmds.length : Int)) Z Z (pu_lenM Z underlying66 (tm Z)) (xp (bd (4096 < (u_.Cmds.length : Int))) Z Z (pe Z) (xz (bd (4096 < (u_.Cmds.length : Int))) Z (xe ?_)))))))
 subst h
 exact ⟨(), wi [0] Z⟩
 intro _
 have h := h321
 refine aw_cond (b := s320) (tm Z) (fun hb634 => ?_) (fun hb634 => ?_)
 replace h := ite_t hb634 h
 refine xr (xz (.bool false) Z (xe (aw_ret ?_)))
 cases h
 exact rt ⟨Z, Z⟩ Z w0
 replace h := ite_fb hb634 h
 refine aw_skip ?_
 obtain ⟨s633, s633e, h478⟩ := bind_some h
 refine aw_join (σ := Unit) (ν := Unit) (fun u v => []) (fun u v => []) (fun u => s633 = .inl u) ?_ ?_
 intro s477
 intro _
 rintro rfl
 have h := onSum_inl h478
 refine xr (xz (.bool true) Z (xe (aw_ret ?_)))
 cases h
 exact rt ⟨Z, Z⟩ Z w0
 have h := s633e
 refine xr (xz (.i 0) Z (xe (aw_block (aw_while (σ := mewsref15.May.S0) (ν := Unit) (mewsref15.May.body0 u_) (fun s580 v => [(1, .ptr p318 0), (3, .i s580.i)]) (fun s580 v => [(p318, .cells [.sl .no 1 (m4L u_.Cmds)])]) ⟨0⟩ () _ h (wi [0] Z) ?_))))
 rintro s580 _ x582 h hx581
 unfold mewsref15.May.body0 at h
 refine aw_seq (xr (xy Z (xf (.ptr p318 0) underlying68 sizeOf66 Z (xl 0 isAgg66 Z (xa (.i (u_.Cmds.length : Int)) Z (pu_lenM Z underlying66 (tm Z)) (xz (bd (s580.i < (u_.Cmds.length : Int))) Z (xe (cd h Z (fun _ h => ?_) (fun _ h => ?_)))))))))
 refine aw_skip ?_
 obtain ⟨s631, s631e, h607⟩ := bind_some h
 refine aw_join (σ := Unit) (ν := Unit) (fun u v => [(1, .ptr p318 0), (3, .i s580.i)]) (fun u v => [(p318, .cells [.sl .no 1 (m4L u_.Cmds)])]) (fun u => s631 = .inl u) ?_ ?_
 intro s606
 intro _
 rintro rfl
 have h := onSum_inl h607
 refine aw_region (xy Z (xz (.i (w64 (s580.i + 1))) Z (xy Z (xe ?_))))
 cases h
 exact ⟨_, (), Z, wi [0] Z⟩
 have h := s631e
 refine aw_block (xr (xf (.ptr p318 0) underlying68 sizeOf66 Z (xl 0 isAgg66 Z (xy Z ?_))))
 obtain ⟨c609, h⟩ := need_of h
 refine xa (.vptr [.sl .no 1 (m3L (ix u_.Cmds s580.i))]) Z (pu_indexAddrM Z underlying66 sizeOf65 (tm Z) (tm Z) c609 Z) (xc Z (op_loadV1 Z isAgg65 (tm Z) Z (xy Z (xe (aw_seq ?_)))))
 obtain ⟨s611, s611e, h612⟩ := letO_of h
 refine aw_meet (ν := Unit) (fun v => [(1, .ptr p318 0), (3, .i s580.i), (4, .sl .no 1 (m3L (ix u_.Cmds s580.i))), (35, .bool s611)]) (fun v => [(p318, .cells [.sl .no 1 (m4L u_.Cmds)])]) ?_ ?_
 have h := s611e.symm
 refine aw_region (xy Z (xa (.i ((ix u_.Cmds s580.i).length : Int)) Z (pu_lenM Z underlying65 (tm Z)) (xz (bd (((ix u_.Cmds s580.i).length : Int) < 1)) Z (xy Z ?_))))
 rcases Bool.eq_false_or_eq_true (decide (((ix u_.Cmds s580.i).length : Int) < 1)) with hb614 | hb614
 replace h := ite_t (dec_t hb614) h
 refine aops_known 31 Z hb614 (xu Z (xu Z (xu Z (xz (.bool true) Z (xe ?_)))))
 subst h
 exact ⟨(), wi [0] Z⟩
 replace h := ite_f (dec_f hb614) h
 refine aops_known 31 Z hb614 (xq Z Z Z Z (xp (.i ((ix u_.Cmds s580.i).length : Int)) Z Z (pu_lenM Z underlying65 (tm Z)) (xp (bd (65536 < ((ix u_.Cmds s580.i).length : Int))) Z Z (pe Z) (xz (bd (65536 < ((ix u_.Cmds s580.i).length : Int))) Z (xe ?_)))))
 subst h
 exact ⟨(), wi [0] Z⟩
 intro _
 have h := h612
 refine aw_cond (b := s611) (tm Z) (fun hb630 => ?_) (fun hb630 => ?_)
 replace h := ite_t hb630 h
 refine xr (xz (.bool false) Z (xe (aw_ret ?_)))
 cases h
 cases onSum_inr h607
 cases congrArg some (hx581 _ rfl)
 cases onSum_inr h478
 exact rt ⟨Z, Z⟩ Z w0
 replace h := ite_fb hb630 h
 refine aw_skip (xr (xz (.i 0) Z (xe (aw_block (aw_while (σ := mewsref15.May.S2) (ν := Unit) (mewsref15.May.body2 u_ s580) (fun s623 v => [(1, .ptr p318 0), (3, .i s580.i), (4, .sl .no 1 (m3L (ix u_.Cmds s580.i))), (5, .i s623.k)]) (fun s623 v => [(p318, .cells [.sl .no 1 (m4L u_.Cmds)])]) ⟨0⟩ () _ h (wi [0] Z) ?_)))))
 rintro s623 _ x625 h hx624
 unfold mewsref15.May.body2 at h
 refine aw_seq (xr (xy Z (xy Z (xa (.i ((ix u_.Cmds s580.i).length : Int)) Z (pu_lenM Z underlying65 (tm Z)) (xz (bd (s623.k < ((ix u_.Cmds s580.i).length : Int))) Z (xe (cd h Z (fun _ h => ?_) (fun _ h => ?_))))))))
 refine aw_skip (aw_seq (aw_block (xr (xy Z (xy Z ?_)))))
 obtain ⟨c627, h⟩ := need_of h
 refine xa (.vptr [.str (ix (ix u_.Cmds s580.i) s623.k)]) Z (pu_indexAddrM Z underlying65 sizeOf9 (tm Z) (tm Z) c627 Z) (xc Z (op_loadV1 Z isAgg9 (tm Z) Z (xa (.i ((ix (ix u_.Cmds s580.i) s623.k).length : Int)) Z (pu_strLen Z underlying9 (tm Z)) (xz (bd (1048576 < ((ix (ix u_.Cmds s580.i) s623.k).length : Int))) Z (xe (cd h Z (fun _ h => ?_) (fun _ h => ?_)))))))
 refine xr (xz (.bool false) Z (xe (aw_ret ?_)))
 cases h
 cases congrArg some (hx624 _ rfl)
 cases onSum_inr h607
 cases congrArg some (hx581 _ rfl)
 cases onSum_inr h478
 exact rt ⟨Z, Z⟩ Z w0
 refine aw_skip (aw_region (xy Z (xz (.i (w64 (s623.k + 1))) Z (xy Z (xe ?_)))))
 cases h
 exact ⟨_, (), Z, wi [0] Z⟩
 refine aw_exit ?_
 cases h
 have h := congrArg some (hx624 _ rfl)
 exact ⟨(), (), (some_of h).symm, wi [0] Z⟩
 refine aw_exit ?_
 cases h
 have h := congrArg some (hx581 _ rfl)
 exact ⟨(), (), (some_of h).symm, w0⟩

theorem mewsref01.digits.rec.ok (kk : Nat) : ∀ {n_ : Int} {r : List UInt8} (h : mewsref01.digits.rec kk n_ = some r), Sp prog 127 [.i n_] [] (fun v H => v = .str r ∧ H = []) := by
 induction kk with
 | zero => intro n_ r h; exact nomatch h
 | succ kk ih =>
  intro n_ r h
  rw [mewsref01.digits.rec.eq_2] at h
  refine sb [.tmp 2] func127 Z (xr (xa (.str nS) Z (pu_assign Z (AEv.const Z)) (xe (xr (xa (.str [48, 49, 50, 51, 52, 53, 54, 55, 56, 57]) Z (pu_assign Z (AEv.const Z)) (xe (aw_seq ?_)))))))
  refine aw_region (xy Z (xa (.i (n_.tmod 10)) Z (pu_rem Z (tm Z) (AEv.int _ _) (by decide)) (xa (.i (w64 (0 - (n_.tmod 10)))) Z (pu_neg Z (tm Z)) (xy Z (xe (aw_seq (xr (xy Z ?_))))))))
  refine xz (bd ((-10) < n_)) Z (xe (cd h Z (fun _ h => ?_) (fun _ h => ?_)))
  ·refine xr (xy Z (xy Z (xy Z (xz (.i (w64 ((w64 (0 - (n_.tmod 10))) + 1))) Z ?_))))
   obtain ⟨c8, h⟩ := need_of h
   obtain ⟨x9, x9e, h⟩ := letO_of h
   refine xa (.str x9) Z (APure.eq (pu_strSliceM Z underlying9 (tm Z) ⟨_, (tm Z)⟩ ⟨_, (tm Z)⟩ c8) (congrArg (AV.str) x9e.symm)) (xy Z (xe (aw_ret ?_)))
   cases h
   exact rt ⟨Z, Z⟩ Z w0
  ·refine aw_skip (aw_seq ?_)
   obtain ⟨r10, r10e, h⟩ := bind_some h
   obtain ⟨c11, h⟩ := need_of h
   obtain ⟨x12, x12e, h⟩ := letO_of h
   obtain ⟨c13, h⟩ := need_of h
   refine aw_planR (by decide +kernel) [[], [], [], [], [], [], [], [], [], []] [] [] [.i n_, .i (w64 (n_.tdiv 10)), .str r10, .str [48, 49, 50, 51, 52, 53, 54, 55, 56, 57], .i (w64 (0 - (n_.tmod 10))), .i (w64 (0 - (n_.tmod 10))), .i (w64 ((w64 (0 - (n_.tmod 10))) + 1)), .str x12, .str (r10 ++ x12), .str (r10 ++ x12)] (by decide +kernel) Z Z ?_ ?_
   ·exact ⟨ym Z Z Z, yp Z (pu_quo Z (tm Z) (AEv.int _ _) (by decide)), stepg_plain Z (op_call (vs := [.i (w64 (n_.tdiv 10))]) (H := []) Z call127 ⟨(tm Z), trivial⟩ (R := []) (List.Perm.refl _) (ih r10e) (by rintro _ _ ⟨rfl, rfl⟩; exact ⟨Z, Z⟩)), ym Z Z Z, ym Z Z Z, ym Z Z Z, yp Z (pe Z), yp Z (APure.eq (pu_strSliceM Z underlying9 (tm Z) ⟨_, (tm Z)⟩ ⟨_, (tm Z)⟩ c11) (congrArg (AV.str) x12e.symm)), yp Z (pu_strAdd Z (tm Z) (tm Z) c13), ym Z Z Z, trivial⟩
   refine aw_ret ?_
   cases h
   exact rt ⟨Z, Z⟩ Z w0

theorem mewsref01.digits.ok {n_ r} (h : mewsref01.digits n_ = some r) : Sp prog 127 [.i n_] [] (fun v H => v = .str r ∧ H = []) := by
 obtain ⟨kk, hk⟩ := fixO_some h
 exact mewsref01.digits.rec.ok kk hk

theorem mewsref01.Text.ok {n_ r} (h : mewsref01.Text n_ = some r) : Sp prog 104 [.i n_] [] (fun v H => v = .str r ∧ H = []) := by
 unfold mewsref01.Text at h
 refine sb [.tmp 2] func104 Z (xr (xa (.str nS) Z (pu_assign Z (AEv.const Z)) (xe (aw_seq (xr (xy Z (xz (bd (n_ < 0)) Z ?_)))))))
 refine xe (cd h Z (fun _ h => ?_) (fun _ h => ?_))
 refine xr (xy Z ?_)
 obtain ⟨r5, r5e, h⟩ := bind_some h
 refine xo (mewsref01.digits.ok r5e) call127 Z ?_
 obtain ⟨c6, h⟩ := need_of h
 refine xa (.str ([45] ++ r5)) Z (pu_strAdd Z (AEv.const Z) (tm Z) c6) (xy Z (xe (aw_ret ?_)))
 cases h
 exact rt ⟨Z, Z⟩ Z w0
 refine aw_skip (xr (xy Z (xa (.i (w64 (0 - n_))) Z (pu_neg Z (tm Z)) ?_)))
 obtain ⟨r7, r7e, h⟩ := bind_some h
 refine xo (mewsref01.digits.ok r7e) call127 Z (xy Z (xe (aw_ret ?_)))
 cases h
 exact rt ⟨Z, Z⟩ Z w0

theorem mewsref05.Put.ok {args r} (h : mewsref05.Put args = some r) : Sp prog 89 [.sl .no 1 (m3L args)] [] (fun v H => v = .str r ∧ H = []) := by
 unfold mewsref05.Put at h
 refine sb [.tmp 2] func89 Z (xr (xa (.str nS) Z (pu_assign Z (AEv.const Z)) (xe (xr (xy Z (xa (.i (args.length : Int)) Z (pu_lenM Z underlying65 (tm Z)) ?_))))))
 obtain ⟨r81, r81e, h⟩ := bind_some h
 refine xo (mewsref01.Text.ok r81e) call104 Z ?_
 obtain ⟨c82, h⟩ := need_of h
 refine xa (.str ([42] ++ r81)) Z (pu_strAdd Z (AEv.const Z) (tm Z) c82) ?_
 obtain ⟨c83, h⟩ := need_of h
 refine xa (.str (([42] ++ r81) ++ [13, 10])) Z (pu_strAdd Z (tm Z) (AEv.const Z) c83) (xy Z (xe ?_))
 obtain ⟨s121, s121e, h122⟩ := bind_some h
 refine aw_meet (ν := Unit) (fun v => [(3, .str s121)]) (fun v => []) ?_ ?_
 have h := s121e
 refine xr (xz (.i 0) Z (xe (aw_block (aw_while (σ := mewsref05.Put.S0) (ν := Unit) (mewsref05.Put.body0 args) (fun s147 v => [(0, .sl .no 1 (m3L args)), (3, .str s147.s), (4, .i s147.i)]) (fun s147 v => []) ⟨([42] ++ r81) ++ [13, 10], 0⟩ () _ h (wi [] Z) ?_))))
 rintro s147 _ x149 h hx148
 unfold mewsref05.Put.body0 at h
 refine aw_seq (xr (xy Z (xy Z (xa (.i (args.length : Int)) Z (pu_lenM Z underlying65 (tm Z)) (xz (bd (s147.i < (args.length : Int))) Z (xe (cd h Z (fun _ h => ?_) (fun _ h => ?_))))))))
 refine aw_skip (aw_seq (aw_block ?_))
 obtain ⟨c151, h⟩ := need_of h
 obtain ⟨r152, r152e, h⟩ := bind_some h
 obtain ⟨c153, h⟩ := need_of h
 obtain ⟨c154, h⟩ := need_of h
 obtain ⟨c155, h⟩ := need_of h
 obtain ⟨c156, h⟩ := need_of h
 obtain ⟨x157, x157e, h⟩ := letO_of h
 obtain ⟨c158, h⟩ := need_of h
 obtain ⟨c159, h⟩ := need_of h
 refine aw_planR (by decide +kernel) [[], [], [], [], [], [], [], [], [], [], [], [], [], [], [], [], []] [] [] [.str s147.s, .sl .no 1 (m3L args), .i s147.i, .vptr [.str (ix args s147.i)], .str (ix args s147.i), .i ((ix args s147.i).length : Int), .str r152, .str ([36] ++ r152), .str (([36] ++ r152) ++ [13, 10]), .sl .no 1 (m3L args), .i s147.i, .vptr [.str (ix args s147.i)], .str (ix args s147.i), .str x157, .str (x157 ++ [13, 10]), .str (s147.s ++ (x157 ++ [13, 10])), .str (s147.s ++ (x157 ++ [13, 10]))] (by decide +kernel) Z Z ?_ ?_
 exact ⟨ym Z Z Z, ym Z Z Z, ym Z Z Z, yp Z (pu_indexAddrM Z underlying65 sizeOf9 (tm Z) (tm Z) c151 Z), stepg_plain Z (op_loadV1 Z isAgg9 (tm Z) Z ⟨Z, Z⟩), yp Z (pu_strLen Z underlying9 (tm Z)), stepg_plain Z (op_call (vs := [.i ((ix args s147.i).length : Int)]) (H := []) Z call104 ⟨(tm Z), trivial⟩ (R := []) (List.Perm.refl _) (mewsref01.Text.ok r152e) (by rintro _ _ ⟨rfl, rfl⟩; exact ⟨Z, Z⟩)), yp Z (pu_strAdd Z (AEv.const Z) (tm Z) c153), yp Z (pu_strAdd Z (tm Z) (AEv.const Z) c154), ym Z Z Z, ym Z Z Z, yp Z (pu_indexAddrM Z underlying65 sizeOf9 (tm Z) (tm Z) c155 Z), stepg_plain Z (op_loadV1 Z isAgg9 (tm Z) Z ⟨Z, Z⟩), yp Z (APure.eq (pu_strAdd Z (tm Z) (tm Z) c156) (congrArg (AV.str) x157e.symm)), yp Z (pu_strAdd Z (tm Z) (AEv.const Z) c158), yp Z (pu_strAdd Z (tm Z) (tm Z) c159), ym Z Z Z, trivial⟩
 refine aw_region (xy Z (xz (.i (w64 (s147.i + 1))) Z (xy Z (xe ?_))))
 cases h
 exact ⟨_, (), Z, wi [] Z⟩
 refine aw_exit ?_
 cases h
 cases congrArg some (hx148 _ rfl)
 exact ⟨(), wi [] Z⟩
 intro _
 have h := h122
 refine xr (xy Z (xy Z (xe (aw_ret ?_))))
 cases h
 exact rt ⟨Z, Z⟩ Z w0

theorem mewsref15.load.ok {u_ r} (h : mewsref15.load u_ = some r) : Sp prog 64 [.agg [.sl .no 1 (m4L u_.Cmds)]] [] (fun v H => v = .str r ∧ H = []) := by
 unfold mewsref15.load at h
 refine sb [.tmp 2] func64 Z (xr (xb [.sl .no 1 (m4L u_.Cmds)] Z fun p71 => xa (.str nS) Z (pu_assign Z (AEv.const Z)) (xe (xr (xa (.str nS) Z (pu_assign Z (AEv.const Z)) (xe ?_))))))
 obtain ⟨s105, s105e, h106⟩ := bind_some h
 refine aw_meet (ν := Unit) (fun v => [(3, .str s105)]) (fun v => []) ?_ ?_
 have h := s105e
 refine xr (xz (.i 0) Z (xe (aw_block (aw_while (σ := mewsref15.load.S0) (ν := Unit) (mewsref15.load.body0 u_) (fun s128 v => [(1, .ptr p71 0), (3, .str s128.s), (4, .i s128.i)]) (fun s128 v => [(p71, .cells [.sl .no 1 (m4L u_.Cmds)])]) ⟨nS, 0⟩ () _ h (wi [0] Z) ?_))))
 rintro s128 _ x130 h hx129
 unfold mewsref15.load.body0 at h
 refine aw_seq ?_
 obtain ⟨s133, s133e, h134⟩ := letO_of h
 refine aw_meet (ν := Unit) (fun v => [(1, .ptr p71 0), (3, .str s128.s), (4, .i s128.i), (14, .bool s133)]) (fun v => [(p71, .cells [.sl .no 1 (m4L u_.Cmds)])]) ?_ ?_
 have h := s133e.symm
 refine aw_region (xy Z (xf (.ptr p71 0) underlying68 sizeOf66 Z (xl 0 isAgg66 Z (xa (.i (u_.Cmds.length : Int)) Z (pu_lenM Z underlying66 (tm Z)) (xz (bd (s128.i < (u_.Cmds.length : Int))) Z (xy Z ?_))))))
 rcases Bool.eq_false_or_eq_true (decide (s128.i < (u_.Cmds.length : Int))) with hb136 | hb136
 replace h := ite_t (dec_t hb136) h
 refine aops_known 10 Z hb136 (xq Z Z Z Z (xp (.i (s128.s.length : Int)) Z Z (pu_strLen Z underlying9 (tm Z)) (xp (bd ((s128.s.length : Int) ≤ 4194304)) Z Z (pe Z) (xz (bd ((s128.s.length : Int) ≤ 4194304)) Z (xe ?_)))))
 subst h
 exact ⟨(), wi [0] Z⟩
 replace h := ite_f (dec_f hb136) h
 refine aops_known 10 Z hb136 (xu Z (xu Z (xu Z (xz (.bool false) Z (xe ?_)))))
 subst h
 exact ⟨(), wi [0] Z⟩
 intro _
 have h := h134
 refine aw_cond (b := s133) (tm Z) (fun hb140 => ?_) (fun hb140 => ?_)
 replace h := ite_t hb140 h
 refine aw_skip (aw_seq (aw_block (aw_region (xy Z (xf (.ptr p71 0) underlying68 sizeOf66 Z (xl 0 isAgg66 Z (xy Z ?_)))))))
 obtain ⟨c137, h⟩ := need_of h
 refine xa (.vptr [.sl .no 1 (m3L (ix u_.Cmds s128.i))]) Z (pu_indexAddrM Z underlying66 sizeOf65 (tm Z) (tm Z) c137 Z) (xc Z (op_loadV1 Z isAgg65 (tm Z) Z ?_))
 obtain ⟨r138, r138e, h⟩ := bind_some h
 refine xo (mewsref05.Put.ok r138e) call89 Z ?_
 obtain ⟨c139, h⟩ := need_of h
 refine xa (.str (s128.s ++ r138)) Z (pu_strAdd Z (tm Z) (tm Z) c139) (xy Z (xe (aw_region (xy Z (xz (.i (w64 (s128.i + 1))) Z (xy Z (xe ?_)))))))
 cases h
 exact ⟨_, (), Z, wi [0] Z⟩
 replace h := ite_fb hb140 h
 refine aw_exit ?_
 cases h
 cases congrArg some (hx129 _ rfl)
 exact ⟨(), wi [] Z⟩
 intro _
 have h := h106
 refine xr (xy Z (xy Z (xe (aw_ret ?_))))
 cases h
 exact rt ⟨Z, Z⟩ Z w0

theorem mewsref14.Byte.ok {n_ b r} (h : mewsref14.Byte n_ b = some r) : Sp prog 128 [.int .u32 n_, .int .u8 b] [] (fun v H => v = .int .u32 r ∧ H = []) := by
 unfold mewsref14.Byte at h
 refine sb [.tmp 4] func128 Z (xr (xz (.int .u32 0) Z (xe (xr (xy Z (xy Z (xa (.int .u32 (IntKind.wrap .u32 b)) Z (pu_conv Z underlying5 underlying97 (tm Z)) ?_)))))))
 refine xz (.int .u32 (Go.bits .xor .u32 n_ (IntKind.wrap .u32 b))) Z (xy Z (xe ?_))
 obtain ⟨s76, s76e, h77⟩ := bind_some h
 refine aw_meet (ν := Unit) (fun v => [(0, .int .u32 s76)]) (fun v => []) ?_ ?_
 have h := s76e
 refine xr (xz (.i 0) Z (xe (aw_block (aw_while (σ := mewsref14.Byte.S0) (ν := Unit) mewsref14.Byte.body0 (fun s93 v => [(0, .int .u32 s93.n), (5, .i s93.i)]) (fun s93 v => []) ⟨Go.bits .xor .u32 n_ (IntKind.wrap .u32 b), 0⟩ () _ h (wi [] Z) ?_))))
 rintro s93 _ x95 h hx94
 unfold mewsref14.Byte.body0 at h
 refine aw_seq (xr (xy Z (xz (bd (s93.i < 8)) Z (xe (cd h Z (fun _ h => ?_) (fun _ h => ?_))))))
 refine aw_skip ?_
 obtain ⟨s98, s98e, h99⟩ := letO_of h
 refine aw_meet (ν := Unit) (fun v => [(0, .int .u32 s98), (5, .i s93.i)]) (fun v => []) ?_ ?_
 have h := s98e.symm
 refine aw_block (xr (xy Z (xa (.int .u32 (s93.n.tmod 2)) Z (pu_rem Z (tm Z) (AEv.int _ _) (by decide)) (xz (bd ((s93.n.tmod 2) = 1)) Z (xy Z (xe (aw_seq (aw_region ?_))))))))
 refine xy Z (xa (.int .u32 (IntKind.wrap .u32 (s93.n.tdiv 2))) Z (pu_quo Z (tm Z) (AEv.int _ _) (by decide)) (xy Z (xe (xr (xy Z (xe (cd h Z (fun _ h => ?_) (fun _ h => ?_))))))))
 refine aw_region (xy Z (xz (.int .u32 (Go.bits .xor .u32 (IntKind.wrap .u32 (s93.n.tdiv 2)) 3988292384)) Z (xy Z (xe ?_))))
 subst h
 exact ⟨(), wi [] Z⟩
 refine aw_skip ?_
 subst h
 exact ⟨(), wi [] Z⟩
 intro _
 have h := h99
 refine aw_region (xy Z (xz (.i (w64 (s93.i + 1))) Z (xy Z (xe ?_))))
 cases h
 exact ⟨_, (), Z, wi [] Z⟩
 refine aw_exit ?_
 cases h
 cases congrArg some (hx94 _ rfl)
 exact ⟨(), wi [] Z⟩
 intro _
 have h := h77
 refine xr (xy Z (xy Z (xe (aw_ret ?_))))
 cases h
 exact rt ⟨Z, Z⟩ Z w0

theorem mewsref14.More.ok {n_ s_ r} (h : mewsref14.More n_ s_ = some r) : Sp prog 105 [.int .u32 n_, .str s_] [] (fun v H => v = .int .u32 r ∧ H = []) := by
 unfold mewsref14.More at h
 refine sb [.tmp 4] func105 Z (xr (xz (.int .u32 0) Z (xe ?_)))
 obtain ⟨s49, s49e, h50⟩ := bind_some h
 refine aw_meet (ν := Unit) (fun v => [(0, .int .u32 s49)]) (fun v => []) ?_ ?_
 have h := s49e
 refine xr (xz (.i 0) Z (xe (aw_block (aw_while (σ := mewsref14.More.S0) (ν := Unit) (mewsref14.More.body0 s_) (fun s60 v => [(0, .int .u32 s60.n), (1, .str s_), (5, .i s60.i)]) (fun s60 v => []) ⟨n_, 0⟩ () _ h (wi [] Z) ?_))))
 rintro s60 _ x62 h hx61
 unfold mewsref14.More.body0 at h
 refine aw_seq (xr (xy Z (xy Z (xa (.i (s_.length : Int)) Z (pu_strLen Z underlying9 (tm Z)) (xz (bd (s60.i < (s_.length : Int))) Z (xe (cd h Z (fun _ h => ?_) (fun _ h => ?_))))))))
 refine aw_skip (aw_seq (aw_block (aw_region (xy Z (xy Z (xy Z ?_))))))
 obtain ⟨c64, h⟩ := need_of h
 refine xa (.int .u8 (bix s_ s60.i)) Z (pu_strIdxM Z underlying9 (tm Z) (tm Z) c64) ?_
 obtain ⟨r65, r65e, h⟩ := bind_some h
 refine xo (mewsref14.Byte.ok r65e) call128 Z (xy Z (xe (aw_region (xy Z (xz (.i (w64 (s60.i + 1))) Z (xy Z (xe ?_)))))))
 cases h
 exact ⟨_, (), Z, wi [] Z⟩
 refine aw_exit ?_
 cases h
 cases congrArg some (hx61 _ rfl)
 exact ⟨(), wi [] Z⟩
 intro _
 have h := h50
 refine xr (xy Z (xy Z (xe (aw_ret ?_))))
 cases h
 exact rt ⟨Z, Z⟩ Z w0

theorem mewsref14.Of.ok {s_ r} (h : mewsref14.Of s_ = some r) : Sp prog 90 [.str s_] [] (fun v H => v = .int .u32 r ∧ H = []) := by
 unfold mewsref14.Of at h
 refine sb [.tmp 2] func90 Z (xr (xz (.int .u32 0) Z (xe (xr (xy Z ?_)))))
 obtain ⟨r2, r2e, h⟩ := bind_some h
 refine xo (mewsref14.More.ok r2e) call105 Z (xz (.int .u32 (Go.bits .xor .u32 r2 4294967295)) Z (xy Z (xe (aw_ret ?_))))
 cases h
 exact rt ⟨Z, Z⟩ Z w0

theorem mewsref14.Seal.ok {s_ r} (h : mewsref14.Seal s_ = some r) : Sp prog 65 [.str s_] [] (fun v H => v = .str r ∧ H = []) := by
 unfold mewsref14.Seal at h
 refine sb [.tmp 2] func65 Z (xr (xa (.str nS) Z (pu_assign Z (AEv.const Z)) (xe (xr (xy Z ?_)))))
 obtain ⟨r8, r8e, h⟩ := bind_some h
 refine xo (mewsref14.Of.ok r8e) call90 Z (xy Z (xe (xr (xy Z (xy Z (xa (.int .u8 (IntKind.wrap .u8 r8)) Z (pu_conv Z underlying97 underlying5 (tm Z)) (xy Z (xa (.int .u32 (IntKind.wrap .u32 (r8.tdiv 256))) Z (pu_quo Z (tm Z) (AEv.int _ _) (by decide)) (xa (.int .u8 (IntKind.wrap .u8 (IntKind.wrap .u32 (r8.tdiv 256)))) Z (pu_conv Z underlying97 underlying5 (tm Z)) ?_)))))))))
 refine xy Z (xa (.int .u32 (IntKind.wrap .u32 (r8.tdiv 65536))) Z (pu_quo Z (tm Z) (AEv.int _ _) (by decide)) (xa (.int .u8 (IntKind.wrap .u8 (IntKind.wrap .u32 (r8.tdiv 65536)))) Z (pu_conv Z underlying97 underlying5 (tm Z)) (xy Z (xa (.int .u32 (IntKind.wrap .u32 (r8.tdiv 16777216))) Z (pu_quo Z (tm Z) (AEv.int _ _) (by decide)) (xa (.int .u8 (IntKind.wrap .u8 (IntKind.wrap .u32 (r8.tdiv 16777216)))) Z (pu_conv Z underlying97 underlying5 (tm Z)) ?_)))))
 obtain ⟨c9, h⟩ := need_of h
 obtain ⟨c10, h⟩ := need_of h
 obtain ⟨c11, h⟩ := need_of h
 obtain ⟨c12, h⟩ := need_of h
 refine xc Z (op_buildSlice (xs := ([u8 (IntKind.wrap .u8 r8), u8 (IntKind.wrap .u8 (IntKind.wrap .u32 (r8.tdiv 256))), u8 (IntKind.wrap .u8 (IntKind.wrap .u32 (r8.tdiv 65536))), u8 (IntKind.wrap .u8 (IntKind.wrap .u32 (r8.tdiv 16777216)))] : List UInt8).map byteAV) (aparts := [(0, byteAV (u8 (IntKind.wrap .u8 r8))), (1, byteAV (u8 (IntKind.wrap .u8 (IntKind.wrap .u32 (r8.tdiv 256))))), (2, byteAV (u8 (IntKind.wrap .u8 (IntKind.wrap .u32 (r8.tdiv 65536))))), (3, byteAV (u8 (IntKind.wrap .u8 (IntKind.wrap .u32 (r8.tdiv 16777216)))))]) Z underlying114 sizeOf5 zeroValue5 (by decide) (by decide) ⟨Z, (AEv.le (tm Z) (AV.Le.of_eq (byteAV_u8 c9.1 c9.2).symm)), ⟨Z, (AEv.le (tm Z) (AV.Le.of_eq (byteAV_u8 c10.1 c10.2).symm)), ⟨Z, (AEv.le (tm Z) (AV.Le.of_eq (byteAV_u8 c11.1 c11.2).symm)), ⟨Z, (AEv.le (tm Z) (AV.Le.of_eq (byteAV_u8 c12.1 c12.2).symm)), trivial⟩⟩⟩⟩ Z Z Z (xc Z (op_bytesStr Z underlying114 underlying5 underlying9 (tm Z) ?_)))
 obtain ⟨c13, h⟩ := need_of h
 obtain ⟨x14, x14e, h⟩ := letO_of h
 refine xa (.str x14) Z (APure.eq (pu_strAdd Z (tm Z) (tm Z) c13) (congrArg (AV.str) x14e.symm)) (xy Z (xe (aw_ret ?_)))
 cases h
 exact rt ⟨Z, Z⟩ Z w0

theorem mewsref15.Put.ok {u_ r} (h : mewsref15.Put u_ = some r) : Sp prog 37 [.agg [.sl .no 1 (m4L u_.Cmds)]] [] (fun v H => v = .tup [.str r.1, .i r.2] ∧ H = []) := by
 unfold mewsref15.Put at h
 refine sb [.tmp 2, .tmp 3] func37 Z (xr (xb [.sl .no 1 (m4L u_.Cmds)] Z fun p14 => xa (.str nS) Z (pu_assign Z (AEv.const Z)) (xz (.i 0) Z (xe (aw_seq (xr (xL 0 isAgg68 sizeOf68 Z ?_)))))))
 obtain ⟨r15, r15e, h⟩ := bind_some h
 refine xo (mewsref15.May.ok r15e) call63 Z (xz (.bool (!r15)) Z (xe (cb h Z (fun _ h => ?_) (fun _ h => ?_))))
 refine xr (xa (.str nS) Z (pu_assign Z (AEv.const Z)) (xz (.i 1) Z (xe (aw_ret ?_))))
 cases h
 exact rt ⟨Z, Z⟩ Z w0
 refine aw_skip (xr (xL 0 isAgg68 sizeOf68 Z ?_))
 obtain ⟨r16, r16e, h⟩ := bind_some h
 refine xo (mewsref15.load.ok r16e) call64 Z (xy Z (xe (xr (xy Z (xa (.i (r16.length : Int)) Z (pu_strLen Z underlying9 (tm Z)) (xy Z (xe (aw_seq (aw_seq ?_)))))))))
 refine aw_region (xy Z (xz (bd (4194304 < (r16.length : Int))) Z (xe (cd h Z (fun _ h => ?_) (fun _ h => ?_)))))
 refine xr (xa (.str nS) Z (pu_assign Z (AEv.const Z)) (xz (.i 6) Z (xe (aw_ret ?_))))
 cases h
 exact rt ⟨Z, Z⟩ Z w0
 refine aw_skip (xr (xy Z (xa (.int .u8 (IntKind.wrap .u8 (r16.length : Int))) Z (pu_conv Z underlying3 underlying5 (tm Z)) (xy Z (xa (.i (w64 ((r16.length : Int).tdiv 256))) Z (pu_quo Z (tm Z) (AEv.int _ _) (by decide)) (xa (.int .u8 (IntKind.wrap .u8 (w64 ((r16.length : Int).tdiv 256)))) Z (pu_conv Z underlying3 underlying5 (tm Z)) (xy Z (xa (.i (w64 ((r16.length : Int).tdiv 65536))) Z (pu_quo Z (tm Z) (AEv.int _ _) (by decide)) ?_))))))))
 refine xa (.int .u8 (IntKind.wrap .u8 (w64 ((r16.length : Int).tdiv 65536)))) Z (pu_conv Z underlying3 underlying5 (tm Z)) ?_
 obtain ⟨c17, h⟩ := need_of h
 obtain ⟨c18, h⟩ := need_of h
 obtain ⟨c19, h⟩ := need_of h
 obtain ⟨c20, h⟩ := need_of h
 refine xc Z (op_buildSlice (xs := ([u8 (IntKind.wrap .u8 (r16.length : Int)), u8 (IntKind.wrap .u8 (w64 ((r16.length : Int).tdiv 256))), u8 (IntKind.wrap .u8 (w64 ((r16.length : Int).tdiv 65536))), u8 0] : List UInt8).map byteAV) (aparts := [(0, byteAV (u8 (IntKind.wrap .u8 (r16.length : Int)))), (1, byteAV (u8 (IntKind.wrap .u8 (w64 ((r16.length : Int).tdiv 256))))), (2, byteAV (u8 (IntKind.wrap .u8 (w64 ((r16.length : Int).tdiv 65536))))), (3, byteAV (u8 0))]) Z underlying114 sizeOf5 zeroValue5 (by decide) (by decide) ⟨Z, (AEv.le (tm Z) (AV.Le.of_eq (byteAV_u8 c17.1 c17.2).symm)), ⟨Z, (AEv.le (tm Z) (AV.Le.of_eq (byteAV_u8 c18.1 c18.2).symm)), ⟨Z, (AEv.le (tm Z) (AV.Le.of_eq (byteAV_u8 c19.1 c19.2).symm)), ⟨Z, (AEv.le (AEv.int _ _) (AV.Le.of_eq (byteAV_u8 c20.1 c20.2).symm)), trivial⟩⟩⟩⟩ Z Z Z (xc Z (op_bytesStr Z underlying114 underlying5 underlying9 (tm Z) ?_)))
 obtain ⟨c21, h⟩ := need_of h
 obtain ⟨x22, x22e, h⟩ := letO_of h
 refine xa (.str x22) Z (APure.eq (pu_strAdd Z (AEv.const Z) (tm Z) c21) (congrArg (AV.str) x22e.symm)) (xy Z ?_)
 obtain ⟨c23, h⟩ := need_of h
 refine xa (.str (x22 ++ r16)) Z (pu_strAdd Z (tm Z) (tm Z) c23) ?_
 obtain ⟨r24, r24e, h⟩ := bind_some h
 refine xo (mewsref14.Seal.ok r24e) call65 Z (xy Z (xz (.i 0) Z (xe (aw_ret ?_))))
 cases h
 exact rt ⟨Z, Z⟩ Z w0

theorem mewsref18.Bytes.ok {l r} (h : mewsref18.Bytes l = some r) : Sp prog 13 [.sl .no 1 (m7L l)] [] (fun v H => v = .tup [.str r.1, .i r.2] ∧ H = []) := by
 unfold mewsref18.Bytes at h
 refine sb [.tmp 2, .tmp 3] func13 Z (xr (xa (.str nS) Z (pu_assign Z (AEv.const Z)) (xz (.i 0) Z (xe (xr (xa (.str nS) Z (pu_assign Z (AEv.const Z)) (xe ?_)))))))
 obtain ⟨s92, s92e, h69⟩ := bind_some h
 refine aw_join (σ := List UInt8) (ν := Unit) (fun u v => [(4, .str u)]) (fun u v => []) (fun u => s92 = .inl u) ?_ ?_
 intro s68
 intro _
 rintro rfl
 have h := onSum_inl h69
 refine xr (xy Z (xy Z (xz (.i 0) Z (xe (aw_ret ?_)))))
 cases h
 exact rt ⟨Z, Z⟩ Z w0
 have h := s92e
 refine xr (xz (.i 0) Z (xe (aw_block (aw_while (σ := mewsref18.Bytes.S0) (ν := Unit) (mewsref18.Bytes.body0 l) (fun s83 v => [(0, .sl .no 1 (m7L l)), (4, .str s83.s), (5, .i s83.i)]) (fun s83 v => []) ⟨nS, 0⟩ () _ h (wi [] Z) ?_))))
 rintro s83 _ x85 h hx84
 unfold mewsref18.Bytes.body0 at h
 refine aw_seq (xr (xy Z (xy Z (xa (.i (l.length : Int)) Z (pu_lenM Z underlying28 (tm Z)) (xz (bd (s83.i < (l.length : Int))) Z (xe (cd h Z (fun _ h => ?_) (fun _ h => ?_))))))))
 refine aw_skip (aw_seq (aw_block (xr (xy Z (xy Z ?_)))))
 obtain ⟨c87, h⟩ := need_of h
 refine xa (.vptr [.sl .no 1 (m4L (ix l s83.i).Cmds)]) Z (pu_indexAddrM Z underlying28 sizeOf68 (tm Z) (tm Z) c87 Z) (xc Z (op_loadVN Z isAgg68 sizeOf68 (tm Z) (nb Z) Z ?_))
 obtain ⟨r88, r88e, h⟩ := bind_some h
 refine xo (mewsref15.Put.ok r88e) call37 Z (xy Z (xz (.str r88.1) Z (xz (.i r88.2) Z (xy Z (xy Z (xe (aw_seq (xr (xy Z ?_)))))))))
 refine xz (bn (r88.2 = 0)) Z (xe (cn h Z (fun _ h => ?_) (fun _ h => ?_)))
 refine xr (xy Z (xa (.str nS) Z (pu_assign Z (AEv.const Z)) (xy Z (xe (aw_ret ?_)))))
 cases h
 cases congrArg some (hx84 _ rfl)
 cases onSum_inr h69
 exact rt ⟨Z, Z⟩ Z w0
 refine aw_skip (aw_region (xy Z (xy Z ?_)))
 obtain ⟨c89, h⟩ := need_of h
 refine xa (.str (s83.s ++ r88.1)) Z (pu_strAdd Z (tm Z) (tm Z) c89) (xy Z (xe (aw_region (xy Z (xz (.i (w64 (s83.i + 1))) Z (xy Z (xe ?_)))))))
 cases h
 exact ⟨_, (), Z, wi [] Z⟩
 refine aw_exit ?_
 cases h
 have h := congrArg some (hx84 _ rfl)
 exact ⟨s83.s, (), (some_of h).symm, wi [] Z⟩

theorem mewsref16.between.ok {n_ most r} (h : mewsref16.between n_ most = some r) : Sp prog 59 [.i n_, .i most] [] (fun v H => v = .i r ∧ H = []) := by
 unfold mewsref16.between at h
 refine sb [.tmp 4] func59 Z (xr (xz (.i 0) Z (xe (aw_seq (xr (xy Z (xz (bd (n_ < 0)) Z ?_)))))))
 refine xe (cd h Z (fun _ h => ?_) (fun _ h => ?_))
 refine xr (xz (.i 0) Z (xe (aw_ret ?_)))
 cases h
 exact rt ⟨Z, Z⟩ Z w0
 refine aw_skip (aw_seq (xr (xy Z (xy Z (xz (bd (most < n_)) Z (xe (cd h Z (fun _ h => ?_) (fun _ h => ?_))))))))
 refine xr (xy Z (xy Z (xe (aw_ret ?_))))
 cases h
 exact rt ⟨Z, Z⟩ Z w0
 refine aw_skip (xr (xy Z (xy Z (xe (aw_ret ?_)))))
 cases h
 exact rt ⟨Z, Z⟩ Z w0

theorem mewsref16.Find.ok {d name r} (h : mewsref16.Find d name = some r) : Sp prog 31 [.agg [.sl .no 3 (m0L d.Files), .sl .no 3 (m1L d.Faults)], .str name] [] (fun v H => v = .tup [.agg [.str r.1.Name, .str r.1.Data, .i r.1.Synced], .bool r.2] ∧ H = []) := by
 unfold mewsref16.Find at h
 refine sb [.cell 4 60, .tmp 5] func31 Z (xr (xb [.sl .no 3 (m0L d.Files), .sl .no 3 (m1L d.Faults)] Z fun p49 => xA (.agg [.str nS, .str nS, .i 0]) zeroValue60 Z fun p50 => xz (.bool false) Z (xe ?_)))
 obtain ⟨s96, s96e, h73⟩ := bind_some h
 refine aw_join (σ := Unit) (ν := Unit) (fun u v => [(4, .ptr p50 0)]) (fun u v => [(p50, .cells [.str nS, .str nS, .i 0])]) (fun u => s96 = .inl u) ?_ ?_
 intro s72
 intro _
 rintro rfl
 have h := onSum_inl h73
 refine xr (xa (.agg [.str nS, .str nS, .i 0]) Z (pu_build (zs := [.str nS, .str nS, .i 0]) (szs := [1, 1, 1]) (aparts := []) (cs := [.str nS, .str nS, .i 0]) Z underlying60 zeroValue60 Z ⟨sizeOf9, sizeOf9, sizeOf3, trivial⟩ trivial Z) (xs 0 [.str nS, .str nS, .i 0] sizeOf60 Z (xz (.bool false) Z (xe (aw_ret ?_)))))
 cases h
 exact rq [.agg [.str nS, .str nS, .i 0], .bool false] ⟨Z, Z⟩ (AV.Le.tup cr) ⟨(CellOk.agg 0 (tm Z) Z isAgg60 sizeOf60 (nb Z) Z), (tm Z), trivial⟩ w0
 have h := s96e
 refine xr (xz (.i 0) Z (xe (aw_block (aw_while (σ := mewsref16.Find.S0) (ν := Unit) (mewsref16.Find.body0 d name) (fun s87 v => [(1, .str name), (2, .ptr p49 0), (4, .ptr p50 0), (6, .i s87.i)]) (fun s87 v => [(p49, .cells [.sl .no 3 (m0L d.Files), .sl .no 3 (m1L d.Faults)]), (p50, .cells [.str nS, .str nS, .i 0])]) ⟨0⟩ () _ h (wi [1, 0] Z) ?_))))
 rintro s87 _ x89 h hx88
 unfold mewsref16.Find.body0 at h
 refine aw_seq (xr (xy Z (xf (.ptr p49 0) underlying25 sizeOf22 Z (xl 0 isAgg22 Z (xa (.i (d.Files.length : Int)) Z (pu_lenM Z underlying22 (tm Z)) (xz (bd (s87.i < (d.Files.length : Int))) Z (xe (cd h Z (fun _ h => ?_) (fun _ h => ?_)))))))))
 refine aw_skip (aw_seq (aw_block (xr (xf (.ptr p49 0) underlying25 sizeOf22 Z (xl 0 isAgg22 Z (xy Z ?_))))))
 obtain ⟨c91, h⟩ := need_of h
 refine xa (.vptr [.str (ix d.Files s87.i).Name, .str (ix d.Files s87.i).Data, .i (ix d.Files s87.i).Synced]) Z (pu_indexAddrM Z underlying22 sizeOf60 (tm Z) (tm Z) c91 Z) (xc Z (op_loadVN Z isAgg60 sizeOf60 (tm Z) (nb Z) Z (xA (.agg [.str nS, .str nS, .i 0]) zeroValue60 Z fun p92 => xs 0 [.str (ix d.Files s87.i).Name, .str (ix d.Files s87.i).Data, .i (ix d.Files s87.i).Synced] sizeOf60 Z (xe (xr (xf (.ptr p92 0) underlying60 sizeOf9 Z (xl 0 isAgg9 Z (xy Z (xa (bd ((ix d.Files s87.i).Name = name)) Z (pu_str (v := bd ((ix d.Files s87.i).Name = name)) Z Z (tm Z) (tm Z) Z) (xe (cd h Z (fun _ h => ?_) (fun _ h => ?_))))))))))))
 refine xr (xf (.ptr p92 2) underlying60 sizeOf3 Z (xl 0 isAgg3 Z (xf (.ptr p92 1) underlying60 sizeOf9 Z (xl 0 isAgg9 Z (xa (.i ((ix d.Files s87.i).Data.length : Int)) Z (pu_strLen Z underlying9 (tm Z)) ?_)))))
 obtain ⟨r93, r93e, h⟩ := bind_some h
 refine xo (mewsref16.between.ok r93e) call59 Z (xf (.ptr p92 2) underlying60 sizeOf3 Z (xs 0 [.str (ix d.Files s87.i).Name, .str (ix d.Files s87.i).Data, .i r93] sizeOf3 Z (xe (xr (xL 0 isAgg60 sizeOf60 Z (xs 2 [.str (ix d.Files s87.i).Name, .str (ix d.Files s87.i).Data, .i r93] sizeOf60 Z (xz (.bool true) Z (xe (aw_ret ?_)))))))))
 cases h
 cases congrArg some (hx88 _ rfl)
 cases onSum_inr h73
 exact rq [.agg [.str (ix d.Files s87.i).Name, .str (ix d.Files s87.i).Data, .i r93], .bool true] ⟨Z, Z⟩ (AV.Le.tup cr) ⟨(CellOk.agg 2 (tm Z) Z isAgg60 sizeOf60 (nb Z) Z), (tm Z), trivial⟩ w0
 refine aw_skip (aw_region (xy Z (xz (.i (w64 (s87.i + 1))) Z (xy Z (xe ?_)))))
 cases h
 exact ⟨_, (), Z, wi [1, 2] Z⟩
 refine aw_exit ?_
 cases h
 have h := congrArg some (hx88 _ rfl)
 exact ⟨(), (), (some_of h).symm, wi [1] Z⟩

theorem mewsref16.Files.ok {d r} (h : mewsref16.Files d = some r) : Sp prog 35 [.agg [.sl .no 3 (m0L d.Files), .sl .no 3 (m1L d.Faults)]] [] (fun v H => ∃ n0, v = .sl (.own n0) 3 (m0L r) ∧ H = [(n0, .spare)]) := by
 unfold mewsref16.Files at h
 refine sb [.tmp 2] func35 Z (xr (xb [.sl .no 3 (m0L d.Files), .sl .no 3 (m1L d.Faults)] Z fun p980 => xa (.sl .full 3 e0L) Z (pu_assign Z (AEv.nil 3 (by decide))) (xe (xr (xa (.sl .full 3 e0L) Z (pu_assign Z (AEv.nil 3 (by decide))) (xe ?_))))))
 obtain ⟨s1468, s1468e, h1470⟩ := bind_some h
 refine aw_meet (ν := Nat) (fun v => [(3, .sl (.own v) 3 (m0L s1468))]) (fun v => [(v, .spare)]) ?_ ?_
 have h := s1468e
 refine xr (xz (.i 0) Z (xe (aw_block (aw_claim 3 (tm Z) fun t1958 => (aw_while (σ := mewsref16.Files.S0) (ν := Nat) (mewsref16.Files.body0 d) (fun s1794 v => [(1, .ptr p980 0), (3, .sl (.own v) 3 (m0L s1794.out)), (4, .i s1794.i)]) (fun s1794 v => [(p980, .cells [.sl .no 3 (m0L d.Files), .sl .no 3 (m1L d.Faults)]), (v, .spare)]) ⟨([] : List api.File), 0⟩ t1958 _ h (wi [1, 0] Z) ?_)))))
 rintro s1794 n1795 x1797 h hx1796
 unfold mewsref16.Files.body0 at h
 refine aw_seq (xr (xy Z (xf (.ptr p980 0) underlying25 sizeOf22 Z (xl 0 isAgg22 Z (xa (.i (d.Files.length : Int)) Z (pu_lenM Z underlying22 (tm Z)) (xz (bd (s1794.i < (d.Files.length : Int))) Z (xe (cd h Z (fun _ h => ?_) (fun _ h => ?_)))))))))
 refine aw_skip ?_
 obtain ⟨s1876, s1876e, h1878⟩ := bind_some h
 refine aw_meet (ν := Nat) (fun v => [(1, .ptr p980 0), (3, .sl (.own v) 3 (m0L s1876)), (4, .i s1794.i)]) (fun v => [(p980, .cells [.sl .no 3 (m0L d.Files), .sl .no 3 (m1L d.Faults)]), (v, .spare)]) ?_ ?_
 have h := s1876e
 refine aw_block (xr (xz (.bool false) Z (xe ?_)))
 obtain ⟨s1914, s1914e, h1915⟩ := bind_some h
 refine aw_meet (ν := Unit) (fun v => [(1, .ptr p980 0), (3, .sl (.own n1795) 3 (m0L s1794.out)), (4, .i s1794.i), (5, .bool s1914)]) (fun v => [(p980, .cells [.sl .no 3 (m0L d.Files), .sl .no 3 (m1L d.Faults)]), (n1795, .spare)]) ?_ ?_
 have h := s1914e
 refine xr (xz (.i 0) Z (xe (aw_block (aw_while (σ := mewsref16.Files.S2) (ν := Unit) (mewsref16.Files.body2 s1794 d) (fun s1937 v => [(1, .ptr p980 0), (3, .sl (.own n1795) 3 (m0L s1794.out)), (4, .i s1794.i), (5, .bool s1937.met), (6, .i s1937.k)]) (fun s1937 v => [(p980, .cells [.sl .no 3 (m0L d.Files), .sl .no 3 (m1L d.Faults)]), (n1795, .spare)]) ⟨false, 0⟩ () _ h (wi [0, 1] Z) ?_))))
 rintro s1937 _ x1939 h hx1938
 unfold mewsref16.Files.body2 at h
 refine aw_seq (xr (xy Z (xy Z (xz (bd (s1937.k < s1794.i)) Z (xe (cd h Z (fun _ h => ?_) (fun _ h => ?_)))))))
 refine aw_skip ?_
 obtain ⟨s1944, s1944e, h1945⟩ := bind_some h
 refine aw_meet (ν := Unit) (fun v => [(1, .ptr p980 0), (3, .sl (.own n1795) 3 (m0L s1794.out)), (4, .i s1794.i), (5, .bool s1944), (6, .i s1937.k)]) (fun v => [(p980, .cells [.sl .no 3 (m0L d.Files), .sl .no 3 (m1L d.Faults)]), (n1795, .spare)]) ?_ ?_
 have h := s1944e
 refine aw_block ?_
 rcases Bool.eq_false_or_eq_true s1937.met with hb1947 | hb1947
 replace h := ite_t hb1947 h
 refine aw_planR (by decide +kernel) [[], [], [], [], [], [], [], [], [], [], [], [], [], [], [], [], []] [[], []] [[[(p980, .cells [.sl .no 3 (m0L d.Files), .sl .no 3 (m1L d.Faults)])]], [[(n1795, .spare)]]] [.bool s1937.met, .bool true, .lit undef, .lit undef, .lit undef, .lit undef, .lit undef, .lit undef, .lit undef, .lit undef, .lit undef, .lit undef, .lit undef, .lit undef, .lit undef, .bool true, .bool true] (by decide +kernel) Z Z ?_ ?_
 exact ⟨ym Z Z Z, AStepG.cast (ym Z Z Z) (congrArg AV.bool hb1947), yx Z Z Z, yx Z Z Z, yx Z Z Z, yx Z Z Z, yx Z Z Z, yx Z Z Z, yx Z Z Z, yx Z Z Z, yx Z Z Z, yx Z Z Z, yx Z Z Z, yx Z Z Z, yx Z Z Z, yp Z (pe Z), ym Z Z Z, trivial⟩
 cases h
 exact ⟨(), wi [0, 1] Z⟩
 replace h := ite_fb hb1947 h
 obtain ⟨c1948, h⟩ := need_of h
 obtain ⟨c1949, h⟩ := need_of h
 refine aw_planR (by decide +kernel) [[], [], [], [(0, 0, false)], [], [], [], [], [], [(0, 0, false)], [], [], [], [], [], [], []] [[], []] [[[(p980, .cells [.sl .no 3 (m0L d.Files), .sl .no 3 (m1L d.Faults)])]], [[(n1795, .spare)]]] [.bool s1937.met, .bool false, .ptr p980 0, .sl .no 3 (m0L d.Files), .i s1937.k, .vptr [.str (ix d.Files s1937.k).Name, .str (ix d.Files s1937.k).Data, .i (ix d.Files s1937.k).Synced], .vptr [.str (ix d.Files s1937.k).Name, .str (ix d.Files s1937.k).Data, .i (ix d.Files s1937.k).Synced], .str (ix d.Files s1937.k).Name, .ptr p980 0, .sl .no 3 (m0L d.Files), .i s1794.i, .vptr [.str (ix d.Files s1794.i).Name, .str (ix d.Files s1794.i).Data, .i (ix d.Files s1794.i).Synced], .vptr [.str (ix d.Files s1794.i).Name, .str (ix d.Files s1794.i).Data, .i (ix d.Files s1794.i).Synced], .str (ix d.Files s1794.i).Name, bd ((ix d.Files s1937.k).Name = (ix d.Files s1794.i).Name), bd ((ix d.Files s1937.k).Name = (ix d.Files s1794.i).Name), bd ((ix d.Files s1937.k).Name = (ix d.Files s1794.i).Name)] (by decide +kernel) Z Z ?_ ?_
 exact ⟨ym Z Z Z, AStepG.cast (ym Z Z Z) (congrArg AV.bool hb1947), yq Z Z (fa Z underlying25 Z sizeOf22 Z Z Z), yg Z Z (op_load1 (i := 0) Z isAgg22 (tm Z) Z Z ⟨Z, Z⟩), yq Z Z (pe Z), yq Z Z (pu_indexAddrM Z underlying22 sizeOf60 (tm Z) (tm Z) c1948 Z), yq Z Z (fa Z underlying60 Z sizeOf9 Z Z Z), yg Z Z (op_loadV1 Z isAgg9 (tm Z) Z ⟨Z, Z⟩), yq Z Z (fa Z underlying25 Z sizeOf22 Z Z Z), yg Z Z (op_load1 (i := 0) Z isAgg22 (tm Z) Z Z ⟨Z, Z⟩), yq Z Z (pe Z), yq Z Z (pu_indexAddrM Z underlying22 sizeOf60 (tm Z) (tm Z) c1949 Z), yq Z Z (fa Z underlying60 Z sizeOf9 Z Z Z), yg Z Z (op_loadV1 Z isAgg9 (tm Z) Z ⟨Z, Z⟩), yq Z Z (pu_str (v := bd ((ix d.Files s1937.k).Name = (ix d.Files s1794.i).Name)) Z Z (tm Z) (tm Z) Z), yp Z (pe Z), ym Z Z Z, trivial⟩
 cases h
 exact ⟨(), wi [0, 1] Z⟩
 intro _
 have h := h1945
 refine aw_region (xy Z (xz (.i (w64 (s1937.k + 1))) Z (xy Z (xe ?_))))
 cases h
 exact ⟨_, (), Z, wi [0, 1] Z⟩
 refine aw_exit ?_
 cases h
 cases congrArg some (hx1938 _ rfl)
 exact ⟨(), wi [0, 1] Z⟩
 intro _
 have h := h1915
 refine xr (xy Z (xz (.bool (!s1914)) Z (xe (cb h Z (fun _ h => ?_) (fun _ h => ?_)))))
 refine aw_seq ?_
 obtain ⟨c1951, h⟩ := need_of h
 obtain ⟨r1952, r1952e, h⟩ := bind_some h
 refine aw_reserve fun p1953 => (aw_planR (by decide +kernel) [[(1, 0, false)], [], [(1, 0, false)], [], [], [], [], [], [], [], [], [(0, 0, true)], [(0, 1, true)], []] [[11, 12], [], []] [[[(p1953, .resv)], [(p1953, .cells [.str nS, .str nS, .i 0])], [(p1953, .cells [.str r1952.1.Name, .str r1952.1.Data, .i r1952.1.Synced])]], [[(p980, .cells [.sl .no 3 (m0L d.Files), .sl .no 3 (m1L d.Faults)])]], [[(n1795, .spare)]]] [.agg [.sl .no 3 (m0L d.Files), .sl .no 3 (m1L d.Faults)], .ptr p980 0, .sl .no 3 (m0L d.Files), .i s1794.i, .vptr [.str (ix d.Files s1794.i).Name, .str (ix d.Files s1794.i).Data, .i (ix d.Files s1794.i).Synced], .vptr [.str (ix d.Files s1794.i).Name, .str (ix d.Files s1794.i).Data, .i (ix d.Files s1794.i).Synced], .str (ix d.Files s1794.i).Name, .tup [.agg [.str r1952.1.Name, .str r1952.1.Data, .i r1952.1.Synced], .bool r1952.2], .tup [.agg [.str r1952.1.Name, .str r1952.1.Data, .i r1952.1.Synced], .bool r1952.2], .agg [.str r1952.1.Name, .str r1952.1.Data, .i r1952.1.Synced], .bool r1952.2, .ptr p1953 0, .un, .bool r1952.2] (by decide +kernel) Z Z ?_ ?_)
 exact ⟨stepg_plain Z (op_loadN (i := 0) Z isAgg25 sizeOf25 (tm Z) Z (nb Z) Z ⟨Z, Z⟩), yp Z (fa Z underlying25 Z sizeOf22 Z Z Z), stepg_plain Z (op_load1 (i := 0) Z isAgg22 (tm Z) Z Z ⟨Z, Z⟩), ym Z Z Z, yp Z (pu_indexAddrM Z underlying22 sizeOf60 (tm Z) (tm Z) c1951 Z), yp Z (fa Z underlying60 Z sizeOf9 Z Z Z), stepg_plain Z (op_loadV1 Z isAgg9 (tm Z) Z ⟨Z, Z⟩), stepg_plain Z (op_call (vs := [.agg [.sl .no 3 (m0L d.Files), .sl .no 3 (m1L d.Faults)], .str (ix d.Files s1794.i).Name]) (H := []) Z call31 ⟨(tm Z), (tm Z), trivial⟩ (R := []) (List.Perm.refl _) (mewsref16.Find.ok r1952e) (by rintro _ _ ⟨rfl, rfl⟩; exact ⟨Z, Z⟩)), ym Z Z Z, yp Z (pe Z), yp Z (pe Z), stepg_plain Z (aop_settleP (op_alloc (cs := [.str nS, .str nS, .i 0]) (v := .agg [.str nS, .str nS, .i 0]) Z zeroValue60 Z Z Z fun t => ⟨t, Z, Z⟩) ⟨Z, Z⟩), stepg_plain Z (op_store (i := 0) (cs' := [.str r1952.1.Name, .str r1952.1.Data, .i r1952.1.Synced]) Z sizeOf60 (tm Z) (v := .agg [.str r1952.1.Name, .str r1952.1.Data, .i r1952.1.Synced]) (tm Z) Z Z Z (nb Z) Z ⟨Z, Z⟩), ym Z Z Z, trivial⟩
 refine aw_region (xy Z (xL 0 isAgg60 sizeOf60 Z (xc Z (op_buildSlice (xs := ([r1952.1] : List api.File).map api.File.av) (aparts := [(0, .agg [.str r1952.1.Name, .str r1952.1.Data, .i r1952.1.Synced])]) Z underlying22 sizeOf60 zeroValue60 (by decide) (by decide) ⟨Z, (tm Z), trivial⟩ Z Z Z ?_))))
 obtain ⟨c1954, h⟩ := need_of h
 refine xc Z (op_appendOM (q := 2) Z underlying22 underlying22 (.inl Z) typeInfo60 Z Z Z (by decide) (tm Z) Z (given_sl (tm Z)) c1954 ?_)
 intro t1955
 refine xy Z (xe ?_)
 cases h
 exact ⟨t1955, wi [1, 2] Z⟩
 refine aw_skip ?_
 cases h
 exact ⟨n1795, wi [0, 1] Z⟩
 intro n1877
 have h := h1878
 refine aw_region (xy Z (xz (.i (w64 (s1794.i + 1))) Z (xy Z (xe ?_))))
 cases h
 exact ⟨_, n1877, Z, wi [0, 1] Z⟩
 refine aw_exit ?_
 cases h
 cases congrArg some (hx1796 _ rfl)
 exact ⟨n1795, wi [1] Z⟩
 intro n1469
 have h := h1470
 refine xr (xy Z (xy Z (xe (aw_ret ?_))))
 cases h
 exact rt ⟨n1469, Z, Z⟩ Z (wi [0] Z)

end Go.Pu
