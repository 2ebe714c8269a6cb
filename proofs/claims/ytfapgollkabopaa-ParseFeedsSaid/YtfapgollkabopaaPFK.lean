/- Printed by lift.py: the functions come to them. -/
import Derived.Test.YtfapgollkabopaaPFK2
set_option maxRecDepth 100000
set_option maxHeartbeats 0
namespace Go.Pu
open Go.Lift Go.Proofs.Try Go.RowKit Go.Proofs

theorem mewsref05.All.ok {s_ : List UInt8} {l : api.Limits} {r : api.Input × (List api.Request)} (h : mewsref05.All s_ l = some r) : Go.Lift.Spec prog 16 [.str s_, .agg [.int .i64 l.Args, .int .i64 l.Bulk, .int .i64 l.Line]] [] (fun v H => ∃ n0, v = .tup [.agg [.str r.1.Rest, .sl .no 1 (r.1.Args.map AV.str), .int .i64 r.1.Left, .int .i64 r.1.Size, .bool r.1.Body, .int .i64 r.1.Need, .int .i64 r.1.Dead], .sl (.own n0) 2 (r.2.map api.Request.av)] ∧ H = [(n0, .spare)]) := by
  unfold mewsref05.All at h
  refine Go.Lift.Spec.of_body (rs := [.cell 4 29, .tmp 5]) func16 rfl rfl (Nat.le_of_ble_eq_true rfl) rfl ?_
  refine aw_seq ?_
  refine aw_region ?_
  refine ac rfl rfl rfl (op_box (cs := [.int .i64 l.Args, .int .i64 l.Bulk, .int .i64 l.Line]) (v := .agg [.int .i64 l.Args, .int .i64 l.Bulk, .int .i64 l.Line]) rfl (AEv.tmp rfl) rfl rfl ?_)
  intro p185
  refine ac rfl rfl rfl (op_alloc (cs := [.str ([] : List UInt8), .sl .full 1 (([] : List (List UInt8)).map AV.str), .int .i64 0, .int .i64 0, .bool false, .int .i64 0, .int .i64 0]) (v := .agg [.str ([] : List UInt8), .sl .full 1 (([] : List (List UInt8)).map AV.str), .int .i64 0, .int .i64 0, .bool false, .int .i64 0, .int .i64 0]) rfl zeroValue29 rfl rfl rfl ?_)
  intro p186
  refine ap (.sl .full 2 (([] : List api.Request).map api.Request.av)) rfl rfl rfl (pu_assign rfl (AEv.nil 2 (by decide))) ?_
  refine aops_nil ?_
  refine aw_seq ?_
  refine aw_region ?_
  refine ac rfl rfl rfl (op_loadN (i := 1) rfl isAgg23 sizeOf23 (AEv.tmp rfl) rfl (Nat.le_of_ble_eq_true rfl) rfl ?_)
  obtain ⟨r187, r187e, h⟩ := bind_some h
  refine ac rfl rfl rfl (op_call (vs := [.agg [.int .i64 l.Args, .int .i64 l.Bulk, .int .i64 l.Line]]) (H := []) rfl call20 ⟨(AEv.tmp rfl), trivial⟩ (List.Perm.refl _) (mewsref05.Limits.ok r187e) ?_)
  rintro _ _ ⟨rfl, rfl⟩
  refine ac0 rfl rfl (op_store (i := 1) (cs' := [.int .i64 r187.Args, .int .i64 r187.Bulk, .int .i64 r187.Line]) rfl sizeOf23 (AEv.tmp rfl) (v := .agg [.int .i64 r187.Args, .int .i64 r187.Bulk, .int .i64 r187.Line]) (AEv.tmp rfl) rfl rfl rfl (Nat.le_of_ble_eq_true rfl) rfl ?_)
  refine aops_nil ?_
  refine aw_seq ?_
  refine aw_region ?_
  refine ap (.sl .full 2 (([] : List api.Request).map api.Request.av)) rfl rfl rfl (pu_assign rfl (AEv.nil 2 (by decide))) ?_
  refine aops_nil ?_
  obtain ⟨s368, s368e, h278⟩ := bind_some h
  refine aw_join (σ := List api.Request) (ν := Nat) (fun u v => [(4, .ptr p186 0), (6, .sl (.own v) 2 (u.map api.Request.av))]) (fun u v => [(p186, .cells [.str ([] : List UInt8), .sl .full 1 (([] : List (List UInt8)).map AV.str), .int .i64 0, .int .i64 0, .bool false, .int .i64 0, .int .i64 0]), (v, .spare)]) (fun u => s368 = .inl u) ?_ ?_
  · intro s276
    intro n277
    rintro rfl
    have h := onSum_inl h278
    refine aw_seq ?_
    refine aw_region ?_
    refine ap (.agg [.str ([] : List UInt8), .sl .full 1 (([] : List (List UInt8)).map AV.str), .int .i64 0, .int .i64 0, .bool false, .int .i64 0, .int .i64 0]) rfl rfl rfl (pu_build (zs := [.str ([] : List UInt8), .sl .full 1 (([] : List (List UInt8)).map AV.str), .int .i64 0, .int .i64 0, .bool false, .int .i64 0, .int .i64 0]) (szs := [1, 1, 1, 1, 1, 1, 1]) (aparts := []) (cs := [.str ([] : List UInt8), .sl .full 1 (([] : List (List UInt8)).map AV.str), .int .i64 0, .int .i64 0, .bool false, .int .i64 0, .int .i64 0]) rfl underlying29 zeroValue29 rfl ⟨sizeOf9, sizeOf26, sizeOf3, sizeOf3, sizeOf4, sizeOf3, sizeOf27, trivial⟩ trivial rfl) ?_
    refine ap (.sl (.own n277) 2 (s276.map api.Request.av)) rfl rfl rfl (pu_move rfl (AEv.tmp rfl)) ?_
    refine ac0 rfl rfl (op_store (i := 0) (cs' := [.str ([] : List UInt8), .sl .full 1 (([] : List (List UInt8)).map AV.str), .int .i64 0, .int .i64 0, .bool false, .int .i64 0, .int .i64 0]) rfl sizeOf29 (AEv.tmp rfl) (v := .agg [.str ([] : List UInt8), .sl .full 1 (([] : List (List UInt8)).map AV.str), .int .i64 0, .int .i64 0, .bool false, .int .i64 0, .int .i64 0]) (AEv.tmp rfl) rfl rfl rfl (Nat.le_of_ble_eq_true rfl) rfl ?_)
    refine ap (.sl (.own n277) 2 (s276.map api.Request.av)) rfl rfl rfl (pu_assign rfl (AEv.tmp rfl)) ?_
    refine aops_nil ?_
    refine aw_ret ?_
    obtain rfl := some_of h
    exact ⟨[.agg [.str ([] : List UInt8), .sl .full 1 (([] : List (List UInt8)).map AV.str), .int .i64 0, .int .i64 0, .bool false, .int .i64 0, .int .i64 0], .sl (.own n277) 2 (s276.map api.Request.av)], .tup [.agg [.str ([] : List UInt8), .sl .no 1 (([] : List (List UInt8)).map AV.str), .int .i64 0, .int .i64 0, .bool false, .int .i64 0, .int .i64 0], .sl (.own n277) 2 (s276.map api.Request.av)], [(n277, .spare)], ⟨(CellOk.agg 0 (AEv.tmp rfl) rfl isAgg29 sizeOf29 (Nat.le_of_ble_eq_true rfl) rfl), (AEv.tmp rfl), trivial⟩, (AV.Le.tup ⟨(AV.Le.agg ⟨(AV.Le.refl _), (AV.Le.forget _ _ _), (AV.Le.refl _), (AV.Le.refl _), (AV.Le.refl _), (AV.Le.refl _), (AV.Le.refl _), trivial⟩), (AV.Le.refl _), trivial⟩), Weak.mkL [1] (by decide) ⟨⟨_, rfl, rfl⟩, trivial⟩ trivial, ⟨n277, rfl, rfl⟩⟩
  · have h := s368e
    refine aw_block ?_
    refine aw_claim 6 (AEv.tmp rfl) fun t367 => ?_
    refine aw_while (σ := mewsref05.All.S0) (ν := Nat) (mewsref05.All.body0 r187) (fun s336 v => [(0, .str s336.s), (3, .ptr p185 0), (4, .ptr p186 0), (6, .sl (.own v) 2 (s336.out.map api.Request.av))]) (fun s336 v => [(p185, .cells [.int .i64 r187.Args, .int .i64 r187.Bulk, .int .i64 r187.Line]), (p186, .cells [.str ([] : List UInt8), .sl .full 1 (([] : List (List UInt8)).map AV.str), .int .i64 0, .int .i64 0, .bool false, .int .i64 0, .int .i64 0]), (v, .spare)]) ⟨s_, ([] : List api.Request)⟩ t367 _ h (Weak.mkL [2, 1, 0] (by decide) ⟨⟨_, rfl, (CellsLe.refl _), rfl⟩, ⟨_, rfl, (CellsLe.refl _), rfl⟩, ⟨_, rfl, rfl⟩, trivial⟩ ⟨AEv.tmp rfl, AEv.tmp rfl, AEv.tmp rfl, AEv.tmp rfl, trivial⟩) ?_
    rintro s336 n337 x339 h hx338
    unfold mewsref05.All.body0 at h
    refine aw_seq ?_
    refine aw_seq ?_
    refine aw_region ?_
    refine ap (.str s336.s) rfl rfl rfl (pu_move rfl (AEv.tmp rfl)) ?_
    refine ap (.bool (!decide (s336.s = ([] : List UInt8)))) rfl rfl rfl (pu_str (v := .bool (!decide (s336.s = ([] : List UInt8)))) rfl rfl (AEv.tmp rfl) (AEv.const rfl) rfl) ?_
    refine aops_nil ?_
    refine aw_cond (b := (!decide (s336.s = ([] : List UInt8)))) (AEv.tmp rfl) (fun hb366 => ?_) (fun hb366 => ?_)
    · replace h := ite_f (ndec_t hb366) h
      refine aw_skip ?_
      refine aw_block ?_
      refine aw_seq ?_
      refine aw_region ?_
      refine ap (.agg [.str ([] : List UInt8), .sl .full 1 (([] : List (List UInt8)).map AV.str), .int .i64 0, .int .i64 0, .bool false, .int .i64 0, .int .i64 0]) rfl rfl rfl (pu_build (zs := [.str ([] : List UInt8), .sl .full 1 (([] : List (List UInt8)).map AV.str), .int .i64 0, .int .i64 0, .bool false, .int .i64 0, .int .i64 0]) (szs := [1, 1, 1, 1, 1, 1, 1]) (aparts := []) (cs := [.str ([] : List UInt8), .sl .full 1 (([] : List (List UInt8)).map AV.str), .int .i64 0, .int .i64 0, .bool false, .int .i64 0, .int .i64 0]) rfl underlying29 zeroValue29 rfl ⟨sizeOf9, sizeOf26, sizeOf3, sizeOf3, sizeOf4, sizeOf3, sizeOf27, trivial⟩ trivial rfl) ?_
      refine ac rfl rfl rfl (op_alloc (cs := [.str ([] : List UInt8), .sl .full 1 (([] : List (List UInt8)).map AV.str), .int .i64 0, .int .i64 0, .bool false, .int .i64 0, .int .i64 0]) (v := .agg [.str ([] : List UInt8), .sl .full 1 (([] : List (List UInt8)).map AV.str), .int .i64 0, .int .i64 0, .bool false, .int .i64 0, .int .i64 0]) rfl zeroValue29 rfl rfl rfl ?_)
      intro p341
      refine ac0 rfl rfl (op_store (i := 0) (cs' := [.str ([] : List UInt8), .sl .full 1 (([] : List (List UInt8)).map AV.str), .int .i64 0, .int .i64 0, .bool false, .int .i64 0, .int .i64 0]) rfl sizeOf29 (AEv.tmp rfl) (v := .agg [.str ([] : List UInt8), .sl .full 1 (([] : List (List UInt8)).map AV.str), .int .i64 0, .int .i64 0, .bool false, .int .i64 0, .int .i64 0]) (AEv.tmp rfl) rfl rfl rfl (Nat.le_of_ble_eq_true rfl) rfl ?_)
      refine ap (.int .i64 0) rfl rfl rfl (pu_assign rfl (AEv.int _ _)) ?_
      refine aops_nil ?_
      obtain ⟨s346, s346e, h347⟩ := bind_some h
      refine aw_meet (ν := Unit) (fun v => [(0, .str s336.s), (3, .ptr p185 0), (4, .ptr p186 0), (6, .sl (.own n337) 2 (s336.out.map api.Request.av)), (7, .ptr p341 0), (8, .int .i64 s346.1)]) (fun v => [(p185, .cells [.int .i64 r187.Args, .int .i64 r187.Bulk, .int .i64 r187.Line]), (p186, .cells [.str ([] : List UInt8), .sl .full 1 (([] : List (List UInt8)).map AV.str), .int .i64 0, .int .i64 0, .bool false, .int .i64 0, .int .i64 0]), (n337, .spare), (p341, .cells [.str s346.2.1, .sl .no 1 (s346.2.2.1.map AV.str), .int .i64 s346.2.2.2.1, .int .i64 s346.2.2.2.2.1, .bool s346.2.2.2.2.2.1, .int .i64 s346.2.2.2.2.2.2.1, .int .i64 s346.2.2.2.2.2.2.2])]) ?_ ?_
      · have h := s346e
        refine aw_seq ?_
        refine aw_region ?_
        refine ap (.str s336.s) rfl rfl rfl (pu_move rfl (AEv.tmp rfl)) ?_
        obtain ⟨c349, h⟩ := need_of h
        refine ap (.int .u8 (bix s336.s 0)) rfl rfl rfl (pu_strIdxM rfl underlying9 (AEv.tmp rfl) (AEv.int _ _) c349) ?_
        refine ap (.bool (decide ((bix s336.s 0) = 42))) rfl rfl rfl (pu_int (v := .bool (decide ((bix s336.s 0) = 42))) rfl rfl (AEv.tmp rfl) (AEv.int _ _) rfl) ?_
        refine aops_nil ?_
        refine aw_cond (b := decide ((bix s336.s 0) = 42)) (AEv.tmp rfl) (fun hb352 => ?_) (fun hb352 => ?_)
        · replace h := ite_t (dec_t hb352) h
          refine aw_region ?_
          refine ap (.str s336.s) rfl rfl rfl (pu_move rfl (AEv.tmp rfl)) ?_
          refine ac rfl rfl rfl (op_loadN (i := 1) rfl isAgg23 sizeOf23 (AEv.tmp rfl) rfl (Nat.le_of_ble_eq_true rfl) rfl ?_)
          obtain ⟨r350, r350e, h⟩ := bind_some h
          refine ac rfl rfl rfl (op_call (vs := [.str s336.s, .agg [.int .i64 r187.Args, .int .i64 r187.Bulk, .int .i64 r187.Line]]) (H := []) rfl call53 ⟨(AEv.tmp rfl), (AEv.tmp rfl), trivial⟩ (List.Perm.refl _) (mewsref05.many.ok r350e) ?_)
          rintro _ _ ⟨rfl, rfl⟩
          refine ap (.tup [.agg (api.Input.ct .no r350.1), .int .i64 r350.2]) rfl rfl rfl (pu_move rfl (AEv.tmp rfl)) ?_
          refine ap (.agg (api.Input.ct .no r350.1)) rfl rfl rfl (pu_extract rfl (AEv.tmp rfl) (Nat.le_of_ble_eq_true rfl) rfl) ?_
          refine ap (.int .i64 r350.2) rfl rfl rfl (pu_extract rfl (AEv.tmp rfl) (Nat.le_of_ble_eq_true rfl) rfl) ?_
          refine ac0 rfl rfl (op_store (i := 0) (cs' := (api.Input.ct .no r350.1)) rfl sizeOf29 (AEv.tmp rfl) (v := .agg (api.Input.ct .no r350.1)) (AEv.tmp rfl) rfl rfl rfl (Nat.le_of_ble_eq_true rfl) rfl ?_)
          refine ap (.int .i64 r350.2) rfl rfl rfl (pu_assign rfl (AEv.tmp rfl)) ?_
          refine aops_nil ?_
          obtain rfl := some_of h
          exact ⟨(), Weak.mkL [1, 2, 3, 0] (by decide) ⟨⟨_, rfl, (CellsLe.refl _), rfl⟩, ⟨_, rfl, (CellsLe.refl _), rfl⟩, ⟨_, rfl, rfl⟩, ⟨_, rfl, (CellsLe.refl _), rfl⟩, trivial⟩ ⟨AEv.tmp rfl, AEv.tmp rfl, AEv.tmp rfl, AEv.tmp rfl, AEv.tmp rfl, AEv.tmp rfl, trivial⟩⟩
        · replace h := ite_f (dec_f hb352) h
          refine aw_region ?_
          refine ap (.str s336.s) rfl rfl rfl (pu_move rfl (AEv.tmp rfl)) ?_
          refine ac rfl rfl rfl (op_loadN (i := 1) rfl isAgg23 sizeOf23 (AEv.tmp rfl) rfl (Nat.le_of_ble_eq_true rfl) rfl ?_)
          obtain ⟨r351, r351e, h⟩ := bind_some h
          refine ac rfl rfl rfl (op_call (vs := [.str s336.s, .agg [.int .i64 r187.Args, .int .i64 r187.Bulk, .int .i64 r187.Line]]) (H := []) rfl call54 ⟨(AEv.tmp rfl), (AEv.tmp rfl), trivial⟩ (List.Perm.refl _) (mewsref05.one.ok r351e) ?_)
          rintro _ _ ⟨rfl, rfl⟩
          refine ap (.tup [.agg (api.Input.ct .no r351.1), .int .i64 r351.2]) rfl rfl rfl (pu_move rfl (AEv.tmp rfl)) ?_
          refine ap (.agg (api.Input.ct .no r351.1)) rfl rfl rfl (pu_extract rfl (AEv.tmp rfl) (Nat.le_of_ble_eq_true rfl) rfl) ?_
          refine ap (.int .i64 r351.2) rfl rfl rfl (pu_extract rfl (AEv.tmp rfl) (Nat.le_of_ble_eq_true rfl) rfl) ?_
          refine ac0 rfl rfl (op_store (i := 0) (cs' := (api.Input.ct .no r351.1)) rfl sizeOf29 (AEv.tmp rfl) (v := .agg (api.Input.ct .no r351.1)) (AEv.tmp rfl) rfl rfl rfl (Nat.le_of_ble_eq_true rfl) rfl ?_)
          refine ap (.int .i64 r351.2) rfl rfl rfl (pu_assign rfl (AEv.tmp rfl)) ?_
          refine aops_nil ?_
          obtain rfl := some_of h
          exact ⟨(), Weak.mkL [1, 2, 3, 0] (by decide) ⟨⟨_, rfl, (CellsLe.refl _), rfl⟩, ⟨_, rfl, (CellsLe.refl _), rfl⟩, ⟨_, rfl, rfl⟩, ⟨_, rfl, (CellsLe.refl _), rfl⟩, trivial⟩ ⟨AEv.tmp rfl, AEv.tmp rfl, AEv.tmp rfl, AEv.tmp rfl, AEv.tmp rfl, AEv.tmp rfl, trivial⟩⟩
      · intro _
        have h := h347
        refine aw_seq ?_
        refine aw_seq ?_
        refine aw_region ?_
        refine ap (.int .i64 s346.1) rfl rfl rfl (pu_move rfl (AEv.tmp rfl)) ?_
        refine ap (.bool (decide (s346.1 = (-1)))) rfl rfl rfl (pu_int (v := .bool (decide (s346.1 = (-1)))) rfl rfl (AEv.tmp rfl) (AEv.int _ _) rfl) ?_
        refine aops_nil ?_
        refine aw_cond (b := decide (s346.1 = (-1))) (AEv.tmp rfl) (fun hb365 => ?_) (fun hb365 => ?_)
        · replace h := ite_t (dec_t hb365) h
          refine aw_seq ?_
          refine aw_region ?_
          refine ac rfl rfl rfl (op_loadN (i := 3) rfl isAgg29 sizeOf29 (AEv.tmp rfl) rfl (Nat.le_of_ble_eq_true rfl) rfl ?_)
          refine ap (.sl (.own n337) 2 (s336.out.map api.Request.av)) rfl rfl rfl (pu_move rfl (AEv.tmp rfl)) ?_
          refine ac0 rfl rfl (op_store (i := 1) (cs' := [.str s346.2.1, .sl .no 1 (s346.2.2.1.map AV.str), .int .i64 s346.2.2.2.1, .int .i64 s346.2.2.2.2.1, .bool s346.2.2.2.2.2.1, .int .i64 s346.2.2.2.2.2.2.1, .int .i64 s346.2.2.2.2.2.2.2]) rfl sizeOf29 (AEv.tmp rfl) (v := .agg [.str s346.2.1, .sl .no 1 (s346.2.2.1.map AV.str), .int .i64 s346.2.2.2.1, .int .i64 s346.2.2.2.2.1, .bool s346.2.2.2.2.2.1, .int .i64 s346.2.2.2.2.2.2.1, .int .i64 s346.2.2.2.2.2.2.2]) (AEv.tmp rfl) rfl rfl rfl (Nat.le_of_ble_eq_true rfl) rfl ?_)
          refine ap (.sl (.own n337) 2 (s336.out.map api.Request.av)) rfl rfl rfl (pu_assign rfl (AEv.tmp rfl)) ?_
          refine aops_nil ?_
          refine aw_ret ?_
          obtain rfl := some_of h
          have h := congrArg some (hx338 _ rfl)
          obtain rfl := some_of h
          have h := onSum_inr h278
          obtain rfl := some_of h
          exact ⟨[.agg [.str s346.2.1, .sl .no 1 (s346.2.2.1.map AV.str), .int .i64 s346.2.2.2.1, .int .i64 s346.2.2.2.2.1, .bool s346.2.2.2.2.2.1, .int .i64 s346.2.2.2.2.2.2.1, .int .i64 s346.2.2.2.2.2.2.2], .sl (.own n337) 2 (s336.out.map api.Request.av)], .tup [.agg [.str s346.2.1, .sl .no 1 (s346.2.2.1.map AV.str), .int .i64 s346.2.2.2.1, .int .i64 s346.2.2.2.2.1, .bool s346.2.2.2.2.2.1, .int .i64 s346.2.2.2.2.2.2.1, .int .i64 s346.2.2.2.2.2.2.2], .sl (.own n337) 2 (s336.out.map api.Request.av)], [(n337, .spare)], ⟨(CellOk.agg 1 (AEv.tmp rfl) rfl isAgg29 sizeOf29 (Nat.le_of_ble_eq_true rfl) rfl), (AEv.tmp rfl), trivial⟩, (AV.Le.tup (CellsLe.refl _)), Weak.mkL [2] (by decide) ⟨⟨_, rfl, rfl⟩, trivial⟩ trivial, ⟨n337, rfl, rfl⟩⟩
        · replace h := ite_f (dec_f hb365) h
          refine aw_skip ?_
          refine aw_seq ?_
          refine aw_seq ?_
          refine aw_region ?_
          refine ap (.int .i64 s346.1) rfl rfl rfl (pu_move rfl (AEv.tmp rfl)) ?_
          refine ap (.bool (!decide (s346.1 = 0))) rfl rfl rfl (pu_int (v := .bool (!decide (s346.1 = 0))) rfl rfl (AEv.tmp rfl) (AEv.int _ _) rfl) ?_
          refine aops_nil ?_
          refine aw_cond (b := (!decide (s346.1 = 0))) (AEv.tmp rfl) (fun hb364 => ?_) (fun hb364 => ?_)
          · replace h := ite_f (ndec_t hb364) h
            refine aw_seq ?_
            refine aw_region ?_
            refine ap (.int .i64 s346.1) rfl rfl rfl (pu_move rfl (AEv.tmp rfl)) ?_
            refine ap (.agg [.str ([] : List UInt8), .sl .full 1 (([] : List (List UInt8)).map AV.str), .int .i64 0, .int .i64 0, .bool false, .int .i64 0, .int .i64 s346.1]) rfl rfl rfl (pu_build (zs := [.str ([] : List UInt8), .sl .full 1 (([] : List (List UInt8)).map AV.str), .int .i64 0, .int .i64 0, .bool false, .int .i64 0, .int .i64 0]) (szs := [1, 1, 1, 1, 1, 1, 1]) (aparts := [(6, .int .i64 s346.1)]) (cs := [.str ([] : List UInt8), .sl .full 1 (([] : List (List UInt8)).map AV.str), .int .i64 0, .int .i64 0, .bool false, .int .i64 0, .int .i64 s346.1]) rfl underlying29 zeroValue29 rfl ⟨sizeOf9, sizeOf26, sizeOf3, sizeOf3, sizeOf4, sizeOf3, sizeOf27, trivial⟩ ⟨rfl, (AEv.tmp rfl), trivial⟩ rfl) ?_
            refine ap (.sl (.own n337) 2 (s336.out.map api.Request.av)) rfl rfl rfl (pu_move rfl (AEv.tmp rfl)) ?_
            refine ac0 rfl rfl (op_store (i := 1) (cs' := [.str ([] : List UInt8), .sl .full 1 (([] : List (List UInt8)).map AV.str), .int .i64 0, .int .i64 0, .bool false, .int .i64 0, .int .i64 s346.1]) rfl sizeOf29 (AEv.tmp rfl) (v := .agg [.str ([] : List UInt8), .sl .full 1 (([] : List (List UInt8)).map AV.str), .int .i64 0, .int .i64 0, .bool false, .int .i64 0, .int .i64 s346.1]) (AEv.tmp rfl) rfl rfl rfl (Nat.le_of_ble_eq_true rfl) rfl ?_)
            refine ap (.sl (.own n337) 2 (s336.out.map api.Request.av)) rfl rfl rfl (pu_assign rfl (AEv.tmp rfl)) ?_
            refine aops_nil ?_
            refine aw_ret ?_
            obtain rfl := some_of h
            have h := congrArg some (hx338 _ rfl)
            obtain rfl := some_of h
            have h := onSum_inr h278
            obtain rfl := some_of h
            exact ⟨[.agg [.str ([] : List UInt8), .sl .full 1 (([] : List (List UInt8)).map AV.str), .int .i64 0, .int .i64 0, .bool false, .int .i64 0, .int .i64 s346.1], .sl (.own n337) 2 (s336.out.map api.Request.av)], .tup [.agg [.str ([] : List UInt8), .sl .no 1 (([] : List (List UInt8)).map AV.str), .int .i64 0, .int .i64 0, .bool false, .int .i64 0, .int .i64 s346.1], .sl (.own n337) 2 (s336.out.map api.Request.av)], [(n337, .spare)], ⟨(CellOk.agg 1 (AEv.tmp rfl) rfl isAgg29 sizeOf29 (Nat.le_of_ble_eq_true rfl) rfl), (AEv.tmp rfl), trivial⟩, (AV.Le.tup ⟨(AV.Le.agg ⟨(AV.Le.refl _), (AV.Le.forget _ _ _), (AV.Le.refl _), (AV.Le.refl _), (AV.Le.refl _), (AV.Le.refl _), (AV.Le.refl _), trivial⟩), (AV.Le.refl _), trivial⟩), Weak.mkL [2] (by decide) ⟨⟨_, rfl, rfl⟩, trivial⟩ trivial, ⟨n337, rfl, rfl⟩⟩
          · replace h := ite_t (ndec_f hb364) h
            refine aw_skip ?_
            obtain ⟨s356, s356e, h358⟩ := bind_some h
            refine aw_meet (ν := Nat) (fun v => [(0, .str s336.s), (3, .ptr p185 0), (4, .ptr p186 0), (6, .sl (.own v) 2 (s356.map api.Request.av)), (7, .ptr p341 0)]) (fun v => [(p185, .cells [.int .i64 r187.Args, .int .i64 r187.Bulk, .int .i64 r187.Line]), (p186, .cells [.str ([] : List UInt8), .sl .full 1 (([] : List (List UInt8)).map AV.str), .int .i64 0, .int .i64 0, .bool false, .int .i64 0, .int .i64 0]), (v, .spare), (p341, .cells [.str s346.2.1, .sl .no 1 (s346.2.2.1.map AV.str), .int .i64 s346.2.2.2.1, .int .i64 s346.2.2.2.2.1, .bool s346.2.2.2.2.2.1, .int .i64 s346.2.2.2.2.2.2.1, .int .i64 s346.2.2.2.2.2.2.2])]) ?_ ?_
            · have h := s356e
              refine aw_seq ?_
              refine aw_region ?_
              refine ap (.ptr p341 1) rfl rfl rfl (pu_fieldAddr rfl underlying29 rfl sizeOf26 (by decide) (AEv.tmp rfl) rfl) ?_
              refine ac rfl rfl rfl (op_load1 (i := 3) rfl isAgg26 (AEv.tmp rfl) rfl rfl ?_)
              refine ap (.int .i64 (s346.2.2.1.length : Int)) rfl rfl rfl (pu_lenM rfl underlying26 (AEv.tmp rfl)) ?_
              refine ap (.bool (decide (0 < (s346.2.2.1.length : Int)))) rfl rfl rfl (pu_int (v := .bool (decide (0 < (s346.2.2.1.length : Int)))) rfl rfl (AEv.tmp rfl) (AEv.int _ _) rfl) ?_
              refine aops_nil ?_
              refine aw_cond (b := decide (0 < (s346.2.2.1.length : Int))) (AEv.tmp rfl) (fun hb362 => ?_) (fun hb362 => ?_)
              · replace h := ite_t (dec_t hb362) h
                refine aw_region ?_
                refine ap (.sl (.own n337) 2 (s336.out.map api.Request.av)) rfl rfl rfl (pu_move rfl (AEv.tmp rfl)) ?_
                refine ap (.ptr p341 1) rfl rfl rfl (pu_fieldAddr rfl underlying29 rfl sizeOf26 (by decide) (AEv.tmp rfl) rfl) ?_
                refine ac rfl rfl rfl (op_load1 (i := 3) rfl isAgg26 (AEv.tmp rfl) rfl rfl ?_)
                refine ap (.ptr p341 3) rfl rfl rfl (pu_fieldAddr rfl underlying29 rfl sizeOf3 (by decide) (AEv.tmp rfl) rfl) ?_
                refine ac rfl rfl rfl (op_load1 (i := 3) rfl isAgg3 (AEv.tmp rfl) rfl rfl ?_)
                refine ap (.agg [.sl .no 1 (s346.2.2.1.map AV.str), .int .i64 s346.2.2.2.2.1]) rfl rfl rfl (pu_build (zs := [.sl .full 1 (([] : List (List UInt8)).map AV.str), .int .i64 0]) (szs := [1, 1]) (aparts := [(0, .sl .no 1 (s346.2.2.1.map AV.str)), (1, .int .i64 s346.2.2.2.2.1)]) (cs := [.sl .no 1 (s346.2.2.1.map AV.str), .int .i64 s346.2.2.2.2.1]) rfl underlying44 zeroValue44 rfl ⟨sizeOf26, sizeOf3, trivial⟩ ⟨rfl, (AEv.tmp rfl), ⟨rfl, (AEv.tmp rfl), trivial⟩⟩ rfl) ?_
                refine ac rfl rfl rfl (op_buildSlice (xs := ([({ Args := s346.2.2.1, Size := s346.2.2.2.2.1 } : api.Request)] : List api.Request).map api.Request.av) (aparts := [(0, .agg [.sl .no 1 (s346.2.2.1.map AV.str), .int .i64 s346.2.2.2.2.1])]) rfl underlying30 sizeOf44 zeroValue44 (by decide) (by decide) ⟨rfl, (AEv.tmp rfl), trivial⟩ rfl rfl rfl ?_)
                obtain ⟨c360, h⟩ := need_of h
                refine ac rfl rfl rfl (op_appendOM (q := 2) rfl underlying30 underlying30 (.inl rfl) typeInfo44 rfl rfl rfl (by decide) (AEv.tmp rfl) rfl (given_sl (AEv.tmp rfl)) c360 ?_)
                intro t361
                refine ap (.sl (.own t361) 2 ((s336.out ++ [({ Args := s346.2.2.1, Size := s346.2.2.2.2.1 } : api.Request)]).map api.Request.av)) rfl rfl rfl (pu_assign rfl (AEv.tmp rfl)) ?_
                refine aops_nil ?_
                obtain rfl := some_of h
                exact ⟨t361, Weak.mkL [0, 1, 2, 3] (by decide) ⟨⟨_, rfl, (CellsLe.refl _), rfl⟩, ⟨_, rfl, (CellsLe.refl _), rfl⟩, ⟨_, rfl, rfl⟩, ⟨_, rfl, (CellsLe.refl _), rfl⟩, trivial⟩ ⟨AEv.tmp rfl, AEv.tmp rfl, AEv.tmp rfl, (AEv.le (AEv.tmp rfl) (AV.Le.refl _)), AEv.tmp rfl, trivial⟩⟩
              · replace h := ite_f (dec_f hb362) h
                refine aw_skip ?_
                obtain rfl := some_of h
                exact ⟨n337, Weak.mkL [0, 1, 2, 3] (by decide) ⟨⟨_, rfl, (CellsLe.refl _), rfl⟩, ⟨_, rfl, (CellsLe.refl _), rfl⟩, ⟨_, rfl, rfl⟩, ⟨_, rfl, (CellsLe.refl _), rfl⟩, trivial⟩ ⟨AEv.tmp rfl, AEv.tmp rfl, AEv.tmp rfl, AEv.tmp rfl, AEv.tmp rfl, trivial⟩⟩
            · intro n357
              have h := h358
              refine aw_region ?_
              refine ap (.str s336.s) rfl rfl rfl (pu_move rfl (AEv.tmp rfl)) ?_
              refine ap (.ptr p341 3) rfl rfl rfl (pu_fieldAddr rfl underlying29 rfl sizeOf3 (by decide) (AEv.tmp rfl) rfl) ?_
              refine ac rfl rfl rfl (op_load1 (i := 3) rfl isAgg3 (AEv.tmp rfl) rfl rfl ?_)
              obtain ⟨c363, h⟩ := need_of h
              refine ap (.str (sub s336.s s346.2.2.2.2.1 (s336.s.length : Int))) rfl rfl rfl (pu_strSliceM rfl underlying9 (AEv.tmp rfl) ⟨_, (AEv.tmp rfl)⟩ rfl c363) ?_
              refine ap (.str (sub s336.s s346.2.2.2.2.1 (s336.s.length : Int))) rfl rfl rfl (pu_assign rfl (AEv.tmp rfl)) ?_
              refine aops_nil ?_
              obtain rfl := some_of h
              exact ⟨_, n357, rfl, Weak.mkL [0, 1, 2] (by decide) ⟨⟨_, rfl, (CellsLe.refl _), rfl⟩, ⟨_, rfl, (CellsLe.refl _), rfl⟩, ⟨_, rfl, rfl⟩, trivial⟩ ⟨(AEv.le (AEv.tmp rfl) (AV.Le.refl _)), AEv.tmp rfl, AEv.tmp rfl, AEv.tmp rfl, trivial⟩⟩
    · replace h := ite_t (ndec_f hb366) h
      refine aw_exit ?_
      obtain rfl := some_of h
      have h := congrArg some (hx338 _ rfl)
      exact ⟨s336.out, n337, (some_of h).symm, Weak.mkL [1, 2] (by decide) ⟨⟨_, rfl, (CellsLe.refl _), rfl⟩, ⟨_, rfl, rfl⟩, trivial⟩ ⟨AEv.tmp rfl, AEv.tmp rfl, trivial⟩⟩

theorem mewsref05.SameInput.ok {a : api.Input} {b : api.Input} {r : Bool} (h : mewsref05.SameInput a b = some r) : Go.Lift.Spec prog 17 [.agg (api.Input.ct .no a), .agg (api.Input.ct .no b)] [] (fun v H => v = .bool r ∧ H = []) := by
  unfold mewsref05.SameInput at h
  refine Go.Lift.Spec.of_body (rs := [.tmp 4]) func17 rfl rfl (Nat.le_of_ble_eq_true rfl) rfl ?_
  refine aw_seq ?_
  refine aw_region ?_
  refine ac rfl rfl rfl (op_box (cs := (api.Input.ct .no a)) (v := .agg (api.Input.ct .no a)) rfl (AEv.tmp rfl) rfl rfl ?_)
  intro p20
  refine ac rfl rfl rfl (op_box (cs := (api.Input.ct .no b)) (v := .agg (api.Input.ct .no b)) rfl (AEv.tmp rfl) rfl rfl ?_)
  intro p21
  refine ap (.bool false) rfl rfl rfl (pu_assign rfl (AEv.bool _)) ?_
  refine aops_nil ?_
  obtain ⟨s29, s29e, h30⟩ := bind_some h
  refine aw_meet (ν := Unit) (fun v => [(4, .bool s29)]) (fun v => []) ?_ ?_
  · have h := s29e
    refine aw_region ?_
    refine ap (.ptr p20 0) rfl rfl rfl (pu_fieldAddr rfl underlying29 rfl sizeOf9 (by decide) (AEv.tmp rfl) rfl) ?_
    refine ac rfl rfl rfl (op_load1 (i := 1) rfl isAgg9 (AEv.tmp rfl) rfl rfl ?_)
    refine ap (.ptr p21 0) rfl rfl rfl (pu_fieldAddr rfl underlying29 rfl sizeOf9 (by decide) (AEv.tmp rfl) rfl) ?_
    refine ac rfl rfl rfl (op_load1 (i := 0) rfl isAgg9 (AEv.tmp rfl) rfl rfl ?_)
    refine ap (.bool (decide (a.Rest = b.Rest))) rfl rfl rfl (pu_str (v := .bool (decide (a.Rest = b.Rest))) rfl rfl (AEv.tmp rfl) (AEv.tmp rfl) rfl) ?_
    refine ap (.bool (decide (a.Rest = b.Rest))) rfl rfl rfl (pu_move rfl (AEv.tmp rfl)) ?_
    rcases Bool.eq_false_or_eq_true (decide (a.Rest = b.Rest)) with hb32 | hb32
    · replace h := ite_t (dec_t hb32) h
      refine aops_known 10 rfl hb32 ?_
      refine agp (.ptr p20 1) rfl rfl rfl rfl rfl rfl rfl (pu_fieldAddr rfl underlying29 rfl sizeOf26 (by decide) (AEv.tmp rfl) rfl) ?_
      refine ag rfl rfl rfl rfl rfl rfl rfl (op_load1 (i := 1) rfl isAgg26 (AEv.tmp rfl) rfl rfl ?_)
      refine agp (.ptr p21 1) rfl rfl rfl rfl rfl rfl rfl (pu_fieldAddr rfl underlying29 rfl sizeOf26 (by decide) (AEv.tmp rfl) rfl) ?_
      refine ag rfl rfl rfl rfl rfl rfl rfl (op_load1 (i := 0) rfl isAgg26 (AEv.tmp rfl) rfl rfl ?_)
      obtain ⟨r33, r33e, h⟩ := bind_some h
      refine ag rfl rfl rfl rfl rfl rfl rfl (op_call (vs := [.sl .no 1 (a.Args.map AV.str), .sl .no 1 (b.Args.map AV.str)]) (H := []) rfl call55 ⟨(AEv.tmp rfl), (AEv.tmp rfl), trivial⟩ (List.Perm.refl _) (mewsref05.texts.ok r33e) ?_)
      rintro _ _ ⟨rfl, rfl⟩
      refine ap (.bool r33) rfl rfl rfl (pu_pick (b := true) rfl (AEv.tmp rfl) (fun _ => (AEv.tmp rfl)) (fun h => nomatch h)) ?_
      refine ap (.bool r33) rfl rfl rfl (pu_move rfl (AEv.tmp rfl)) ?_
      rcases Bool.eq_false_or_eq_true r33 with hb34 | hb34
      · replace h := ite_t hb34 h
        refine aops_known 17 rfl hb34 ?_
        refine agp (.ptr p20 2) rfl rfl rfl rfl rfl rfl rfl (pu_fieldAddr rfl underlying29 rfl sizeOf3 (by decide) (AEv.tmp rfl) rfl) ?_
        refine ag rfl rfl rfl rfl rfl rfl rfl (op_load1 (i := 1) rfl isAgg3 (AEv.tmp rfl) rfl rfl ?_)
        refine agp (.ptr p21 2) rfl rfl rfl rfl rfl rfl rfl (pu_fieldAddr rfl underlying29 rfl sizeOf3 (by decide) (AEv.tmp rfl) rfl) ?_
        refine ag rfl rfl rfl rfl rfl rfl rfl (op_load1 (i := 0) rfl isAgg3 (AEv.tmp rfl) rfl rfl ?_)
        refine agp (.bool (decide (a.Left = b.Left))) rfl rfl rfl rfl rfl rfl rfl (pu_int (v := .bool (decide (a.Left = b.Left))) rfl rfl (AEv.tmp rfl) (AEv.tmp rfl) rfl) ?_
        refine ap (.bool (decide (a.Left = b.Left))) rfl rfl rfl (pu_pick (b := true) rfl (AEv.tmp rfl) (fun _ => (AEv.tmp rfl)) (fun h => nomatch h)) ?_
        refine ap (.bool (decide (a.Left = b.Left))) rfl rfl rfl (pu_move rfl (AEv.tmp rfl)) ?_
        rcases Bool.eq_false_or_eq_true (decide (a.Left = b.Left)) with hb35 | hb35
        · replace h := ite_t (dec_t hb35) h
          refine aops_known 24 rfl hb35 ?_
          refine agp (.ptr p20 3) rfl rfl rfl rfl rfl rfl rfl (pu_fieldAddr rfl underlying29 rfl sizeOf3 (by decide) (AEv.tmp rfl) rfl) ?_
          refine ag rfl rfl rfl rfl rfl rfl rfl (op_load1 (i := 1) rfl isAgg3 (AEv.tmp rfl) rfl rfl ?_)
          refine agp (.ptr p21 3) rfl rfl rfl rfl rfl rfl rfl (pu_fieldAddr rfl underlying29 rfl sizeOf3 (by decide) (AEv.tmp rfl) rfl) ?_
          refine ag rfl rfl rfl rfl rfl rfl rfl (op_load1 (i := 0) rfl isAgg3 (AEv.tmp rfl) rfl rfl ?_)
          refine agp (.bool (decide (a.Size = b.Size))) rfl rfl rfl rfl rfl rfl rfl (pu_int (v := .bool (decide (a.Size = b.Size))) rfl rfl (AEv.tmp rfl) (AEv.tmp rfl) rfl) ?_
          refine ap (.bool (decide (a.Size = b.Size))) rfl rfl rfl (pu_pick (b := true) rfl (AEv.tmp rfl) (fun _ => (AEv.tmp rfl)) (fun h => nomatch h)) ?_
          refine ap (.bool (decide (a.Size = b.Size))) rfl rfl rfl (pu_move rfl (AEv.tmp rfl)) ?_
          rcases Bool.eq_false_or_eq_true (decide (a.Size = b.Size)) with hb36 | hb36
          · replace h := ite_t (dec_t hb36) h
            refine aops_known 31 rfl hb36 ?_
            refine agp (.ptr p20 4) rfl rfl rfl rfl rfl rfl rfl (pu_fieldAddr rfl underlying29 rfl sizeOf4 (by decide) (AEv.tmp rfl) rfl) ?_
            refine ag rfl rfl rfl rfl rfl rfl rfl (op_load1 (i := 1) rfl isAgg4 (AEv.tmp rfl) rfl rfl ?_)
            refine agp (.ptr p21 4) rfl rfl rfl rfl rfl rfl rfl (pu_fieldAddr rfl underlying29 rfl sizeOf4 (by decide) (AEv.tmp rfl) rfl) ?_
            refine ag rfl rfl rfl rfl rfl rfl rfl (op_load1 (i := 0) rfl isAgg4 (AEv.tmp rfl) rfl rfl ?_)
            refine agp (.bool (a.Body == b.Body)) rfl rfl rfl rfl rfl rfl rfl (pu_boolEq rfl underlying4 (AEv.tmp rfl) (AEv.tmp rfl)) ?_
            refine ap (.bool (a.Body == b.Body)) rfl rfl rfl (pu_pick (b := true) rfl (AEv.tmp rfl) (fun _ => (AEv.tmp rfl)) (fun h => nomatch h)) ?_
            refine ap (.bool (a.Body == b.Body)) rfl rfl rfl (pu_move rfl (AEv.tmp rfl)) ?_
            rcases Bool.eq_false_or_eq_true (a.Body == b.Body) with hb37 | hb37
            · replace h := ite_t hb37 h
              refine aops_known 38 rfl hb37 ?_
              refine agp (.ptr p20 5) rfl rfl rfl rfl rfl rfl rfl (pu_fieldAddr rfl underlying29 rfl sizeOf3 (by decide) (AEv.tmp rfl) rfl) ?_
              refine ag rfl rfl rfl rfl rfl rfl rfl (op_load1 (i := 1) rfl isAgg3 (AEv.tmp rfl) rfl rfl ?_)
              refine agp (.ptr p21 5) rfl rfl rfl rfl rfl rfl rfl (pu_fieldAddr rfl underlying29 rfl sizeOf3 (by decide) (AEv.tmp rfl) rfl) ?_
              refine ag rfl rfl rfl rfl rfl rfl rfl (op_load1 (i := 0) rfl isAgg3 (AEv.tmp rfl) rfl rfl ?_)
              refine agp (.bool (decide (a.Need = b.Need))) rfl rfl rfl rfl rfl rfl rfl (pu_int (v := .bool (decide (a.Need = b.Need))) rfl rfl (AEv.tmp rfl) (AEv.tmp rfl) rfl) ?_
              refine ap (.bool (decide (a.Need = b.Need))) rfl rfl rfl (pu_pick (b := true) rfl (AEv.tmp rfl) (fun _ => (AEv.tmp rfl)) (fun h => nomatch h)) ?_
              refine ap (.bool (decide (a.Need = b.Need))) rfl rfl rfl (pu_move rfl (AEv.tmp rfl)) ?_
              rcases Bool.eq_false_or_eq_true (decide (a.Need = b.Need)) with hb38 | hb38
              · replace h := ite_t (dec_t hb38) h
                refine aops_known 45 rfl hb38 ?_
                refine agp (.ptr p20 6) rfl rfl rfl rfl rfl rfl rfl (pu_fieldAddr rfl underlying29 rfl sizeOf27 (by decide) (AEv.tmp rfl) rfl) ?_
                refine ag rfl rfl rfl rfl rfl rfl rfl (op_load1 (i := 1) rfl isAgg27 (AEv.tmp rfl) rfl rfl ?_)
                refine agp (.ptr p21 6) rfl rfl rfl rfl rfl rfl rfl (pu_fieldAddr rfl underlying29 rfl sizeOf27 (by decide) (AEv.tmp rfl) rfl) ?_
                refine ag rfl rfl rfl rfl rfl rfl rfl (op_load1 (i := 0) rfl isAgg27 (AEv.tmp rfl) rfl rfl ?_)
                refine agp (.bool (decide (a.Dead = b.Dead))) rfl rfl rfl rfl rfl rfl rfl (pu_int (v := .bool (decide (a.Dead = b.Dead))) rfl rfl (AEv.tmp rfl) (AEv.tmp rfl) rfl) ?_
                refine ap (.bool (decide (a.Dead = b.Dead))) rfl rfl rfl (pu_pick (b := true) rfl (AEv.tmp rfl) (fun _ => (AEv.tmp rfl)) (fun h => nomatch h)) ?_
                refine ap (.bool (decide (a.Dead = b.Dead))) rfl rfl rfl (pu_assign rfl (AEv.tmp rfl)) ?_
                refine aops_nil ?_
                obtain rfl := some_of h
                exact ⟨(), Weak.mkL [] (by decide) trivial ⟨(AEv.le (AEv.tmp rfl) (AV.Le.refl _)), trivial⟩⟩
              · replace h := ite_f (dec_f hb38) h
                refine aops_known 45 rfl hb38 ?_
                refine an rfl rfl rfl rfl rfl rfl rfl rfl ?_
                refine an rfl rfl rfl rfl rfl rfl rfl rfl ?_
                refine an rfl rfl rfl rfl rfl rfl rfl rfl ?_
                refine an rfl rfl rfl rfl rfl rfl rfl rfl ?_
                refine an rfl rfl rfl rfl rfl rfl rfl rfl ?_
                refine ap (.bool false) rfl rfl rfl (pu_pick (b := false) rfl (AEv.tmp rfl) (fun h => nomatch h) (fun _ => (AEv.bool _))) ?_
                refine ap (.bool false) rfl rfl rfl (pu_assign rfl (AEv.tmp rfl)) ?_
                refine aops_nil ?_
                obtain rfl := some_of h
                exact ⟨(), Weak.mkL [] (by decide) trivial ⟨AEv.tmp rfl, trivial⟩⟩
            · replace h := ite_fb hb37 h
              refine aops_known 38 rfl hb37 ?_
              refine an rfl rfl rfl rfl rfl rfl rfl rfl ?_
              refine an rfl rfl rfl rfl rfl rfl rfl rfl ?_
              refine an rfl rfl rfl rfl rfl rfl rfl rfl ?_
              refine an rfl rfl rfl rfl rfl rfl rfl rfl ?_
              refine an rfl rfl rfl rfl rfl rfl rfl rfl ?_
              refine ap (.bool false) rfl rfl rfl (pu_pick (b := false) rfl (AEv.tmp rfl) (fun h => nomatch h) (fun _ => (AEv.bool _))) ?_
              refine ap (.bool false) rfl rfl rfl (pu_move rfl (AEv.tmp rfl)) ?_
              refine an rfl rfl rfl rfl rfl rfl rfl rfl ?_
              refine an rfl rfl rfl rfl rfl rfl rfl rfl ?_
              refine an rfl rfl rfl rfl rfl rfl rfl rfl ?_
              refine an rfl rfl rfl rfl rfl rfl rfl rfl ?_
              refine an rfl rfl rfl rfl rfl rfl rfl rfl ?_
              refine ap (.bool false) rfl rfl rfl (pu_pick (b := false) rfl (AEv.tmp rfl) (fun h => nomatch h) (fun _ => (AEv.bool _))) ?_
              refine ap (.bool false) rfl rfl rfl (pu_assign rfl (AEv.tmp rfl)) ?_
              refine aops_nil ?_
              obtain rfl := some_of h
              exact ⟨(), Weak.mkL [] (by decide) trivial ⟨AEv.tmp rfl, trivial⟩⟩
          · replace h := ite_f (dec_f hb36) h
            refine aops_known 31 rfl hb36 ?_
            refine an rfl rfl rfl rfl rfl rfl rfl rfl ?_
            refine an rfl rfl rfl rfl rfl rfl rfl rfl ?_
            refine an rfl rfl rfl rfl rfl rfl rfl rfl ?_
            refine an rfl rfl rfl rfl rfl rfl rfl rfl ?_
            refine an rfl rfl rfl rfl rfl rfl rfl rfl ?_
            refine ap (.bool false) rfl rfl rfl (pu_pick (b := false) rfl (AEv.tmp rfl) (fun h => nomatch h) (fun _ => (AEv.bool _))) ?_
            refine ap (.bool false) rfl rfl rfl (pu_move rfl (AEv.tmp rfl)) ?_
            refine an rfl rfl rfl rfl rfl rfl rfl rfl ?_
            refine an rfl rfl rfl rfl rfl rfl rfl rfl ?_
            refine an rfl rfl rfl rfl rfl rfl rfl rfl ?_
            refine an rfl rfl rfl rfl rfl rfl rfl rfl ?_
            refine an rfl rfl rfl rfl rfl rfl rfl rfl ?_
            refine ap (.bool false) rfl rfl rfl (pu_pick (b := false) rfl (AEv.tmp rfl) (fun h => nomatch h) (fun _ => (AEv.bool _))) ?_
            refine ap (.bool false) rfl rfl rfl (pu_move rfl (AEv.tmp rfl)) ?_
            refine an rfl rfl rfl rfl rfl rfl rfl rfl ?_
            refine an rfl rfl rfl rfl rfl rfl rfl rfl ?_
            refine an rfl rfl rfl rfl rfl rfl rfl rfl ?_
            refine an rfl rfl rfl rfl rfl rfl rfl rfl ?_
            refine an rfl rfl rfl rfl rfl rfl rfl rfl ?_
            refine ap (.bool false) rfl rfl rfl (pu_pick (b := false) rfl (AEv.tmp rfl) (fun h => nomatch h) (fun _ => (AEv.bool _))) ?_
            refine ap (.bool false) rfl rfl rfl (pu_assign rfl (AEv.tmp rfl)) ?_
            refine aops_nil ?_
            obtain rfl := some_of h
            exact ⟨(), Weak.mkL [] (by decide) trivial ⟨AEv.tmp rfl, trivial⟩⟩
        · replace h := ite_f (dec_f hb35) h
          refine aops_known 24 rfl hb35 ?_
          refine an rfl rfl rfl rfl rfl rfl rfl rfl ?_
          refine an rfl rfl rfl rfl rfl rfl rfl rfl ?_
          refine an rfl rfl rfl rfl rfl rfl rfl rfl ?_
          refine an rfl rfl rfl rfl rfl rfl rfl rfl ?_
          refine an rfl rfl rfl rfl rfl rfl rfl rfl ?_
          refine ap (.bool false) rfl rfl rfl (pu_pick (b := false) rfl (AEv.tmp rfl) (fun h => nomatch h) (fun _ => (AEv.bool _))) ?_
          refine ap (.bool false) rfl rfl rfl (pu_move rfl (AEv.tmp rfl)) ?_
          refine an rfl rfl rfl rfl rfl rfl rfl rfl ?_
          refine an rfl rfl rfl rfl rfl rfl rfl rfl ?_
          refine an rfl rfl rfl rfl rfl rfl rfl rfl ?_
          refine an rfl rfl rfl rfl rfl rfl rfl rfl ?_
          refine an rfl rfl rfl rfl rfl rfl rfl rfl ?_
          refine ap (.bool false) rfl rfl rfl (pu_pick (b := false) rfl (AEv.tmp rfl) (fun h => nomatch h) (fun _ => (AEv.bool _))) ?_
          refine ap (.bool false) rfl rfl rfl (pu_move rfl (AEv.tmp rfl)) ?_
          refine an rfl rfl rfl rfl rfl rfl rfl rfl ?_
          refine an rfl rfl rfl rfl rfl rfl rfl rfl ?_
          refine an rfl rfl rfl rfl rfl rfl rfl rfl ?_
          refine an rfl rfl rfl rfl rfl rfl rfl rfl ?_
          refine an rfl rfl rfl rfl rfl rfl rfl rfl ?_
          refine ap (.bool false) rfl rfl rfl (pu_pick (b := false) rfl (AEv.tmp rfl) (fun h => nomatch h) (fun _ => (AEv.bool _))) ?_
          refine ap (.bool false) rfl rfl rfl (pu_move rfl (AEv.tmp rfl)) ?_
          refine an rfl rfl rfl rfl rfl rfl rfl rfl ?_
          refine an rfl rfl rfl rfl rfl rfl rfl rfl ?_
          refine an rfl rfl rfl rfl rfl rfl rfl rfl ?_
          refine an rfl rfl rfl rfl rfl rfl rfl rfl ?_
          refine an rfl rfl rfl rfl rfl rfl rfl rfl ?_
          refine ap (.bool false) rfl rfl rfl (pu_pick (b := false) rfl (AEv.tmp rfl) (fun h => nomatch h) (fun _ => (AEv.bool _))) ?_
          refine ap (.bool false) rfl rfl rfl (pu_assign rfl (AEv.tmp rfl)) ?_
          refine aops_nil ?_
          obtain rfl := some_of h
          exact ⟨(), Weak.mkL [] (by decide) trivial ⟨AEv.tmp rfl, trivial⟩⟩
      · replace h := ite_fb hb34 h
        refine aops_known 17 rfl hb34 ?_
        refine an rfl rfl rfl rfl rfl rfl rfl rfl ?_
        refine an rfl rfl rfl rfl rfl rfl rfl rfl ?_
        refine an rfl rfl rfl rfl rfl rfl rfl rfl ?_
        refine an rfl rfl rfl rfl rfl rfl rfl rfl ?_
        refine an rfl rfl rfl rfl rfl rfl rfl rfl ?_
        refine ap (.bool false) rfl rfl rfl (pu_pick (b := false) rfl (AEv.tmp rfl) (fun h => nomatch h) (fun _ => (AEv.bool _))) ?_
        refine ap (.bool false) rfl rfl rfl (pu_move rfl (AEv.tmp rfl)) ?_
        refine an rfl rfl rfl rfl rfl rfl rfl rfl ?_
        refine an rfl rfl rfl rfl rfl rfl rfl rfl ?_
        refine an rfl rfl rfl rfl rfl rfl rfl rfl ?_
        refine an rfl rfl rfl rfl rfl rfl rfl rfl ?_
        refine an rfl rfl rfl rfl rfl rfl rfl rfl ?_
        refine ap (.bool false) rfl rfl rfl (pu_pick (b := false) rfl (AEv.tmp rfl) (fun h => nomatch h) (fun _ => (AEv.bool _))) ?_
        refine ap (.bool false) rfl rfl rfl (pu_move rfl (AEv.tmp rfl)) ?_
        refine an rfl rfl rfl rfl rfl rfl rfl rfl ?_
        refine an rfl rfl rfl rfl rfl rfl rfl rfl ?_
        refine an rfl rfl rfl rfl rfl rfl rfl rfl ?_
        refine an rfl rfl rfl rfl rfl rfl rfl rfl ?_
        refine an rfl rfl rfl rfl rfl rfl rfl rfl ?_
        refine ap (.bool false) rfl rfl rfl (pu_pick (b := false) rfl (AEv.tmp rfl) (fun h => nomatch h) (fun _ => (AEv.bool _))) ?_
        refine ap (.bool false) rfl rfl rfl (pu_move rfl (AEv.tmp rfl)) ?_
        refine an rfl rfl rfl rfl rfl rfl rfl rfl ?_
        refine an rfl rfl rfl rfl rfl rfl rfl rfl ?_
        refine an rfl rfl rfl rfl rfl rfl rfl rfl ?_
        refine an rfl rfl rfl rfl rfl rfl rfl rfl ?_
        refine an rfl rfl rfl rfl rfl rfl rfl rfl ?_
        refine ap (.bool false) rfl rfl rfl (pu_pick (b := false) rfl (AEv.tmp rfl) (fun h => nomatch h) (fun _ => (AEv.bool _))) ?_
        refine ap (.bool false) rfl rfl rfl (pu_move rfl (AEv.tmp rfl)) ?_
        refine an rfl rfl rfl rfl rfl rfl rfl rfl ?_
        refine an rfl rfl rfl rfl rfl rfl rfl rfl ?_
        refine an rfl rfl rfl rfl rfl rfl rfl rfl ?_
        refine an rfl rfl rfl rfl rfl rfl rfl rfl ?_
        refine an rfl rfl rfl rfl rfl rfl rfl rfl ?_
        refine ap (.bool false) rfl rfl rfl (pu_pick (b := false) rfl (AEv.tmp rfl) (fun h => nomatch h) (fun _ => (AEv.bool _))) ?_
        refine ap (.bool false) rfl rfl rfl (pu_assign rfl (AEv.tmp rfl)) ?_
        refine aops_nil ?_
        obtain rfl := some_of h
        exact ⟨(), Weak.mkL [] (by decide) trivial ⟨AEv.tmp rfl, trivial⟩⟩
    · replace h := ite_f (dec_f hb32) h
      refine aops_known 10 rfl hb32 ?_
      refine an rfl rfl rfl rfl rfl rfl rfl rfl ?_
      refine an rfl rfl rfl rfl rfl rfl rfl rfl ?_
      refine an rfl rfl rfl rfl rfl rfl rfl rfl ?_
      refine an rfl rfl rfl rfl rfl rfl rfl rfl ?_
      refine an rfl rfl rfl rfl rfl rfl rfl rfl ?_
      refine ap (.bool false) rfl rfl rfl (pu_pick (b := false) rfl (AEv.tmp rfl) (fun h => nomatch h) (fun _ => (AEv.bool _))) ?_
      refine ap (.bool false) rfl rfl rfl (pu_move rfl (AEv.tmp rfl)) ?_
      refine an rfl rfl rfl rfl rfl rfl rfl rfl ?_
      refine an rfl rfl rfl rfl rfl rfl rfl rfl ?_
      refine an rfl rfl rfl rfl rfl rfl rfl rfl ?_
      refine an rfl rfl rfl rfl rfl rfl rfl rfl ?_
      refine an rfl rfl rfl rfl rfl rfl rfl rfl ?_
      refine ap (.bool false) rfl rfl rfl (pu_pick (b := false) rfl (AEv.tmp rfl) (fun h => nomatch h) (fun _ => (AEv.bool _))) ?_
      refine ap (.bool false) rfl rfl rfl (pu_move rfl (AEv.tmp rfl)) ?_
      refine an rfl rfl rfl rfl rfl rfl rfl rfl ?_
      refine an rfl rfl rfl rfl rfl rfl rfl rfl ?_
      refine an rfl rfl rfl rfl rfl rfl rfl rfl ?_
      refine an rfl rfl rfl rfl rfl rfl rfl rfl ?_
      refine an rfl rfl rfl rfl rfl rfl rfl rfl ?_
      refine ap (.bool false) rfl rfl rfl (pu_pick (b := false) rfl (AEv.tmp rfl) (fun h => nomatch h) (fun _ => (AEv.bool _))) ?_
      refine ap (.bool false) rfl rfl rfl (pu_move rfl (AEv.tmp rfl)) ?_
      refine an rfl rfl rfl rfl rfl rfl rfl rfl ?_
      refine an rfl rfl rfl rfl rfl rfl rfl rfl ?_
      refine an rfl rfl rfl rfl rfl rfl rfl rfl ?_
      refine an rfl rfl rfl rfl rfl rfl rfl rfl ?_
      refine an rfl rfl rfl rfl rfl rfl rfl rfl ?_
      refine ap (.bool false) rfl rfl rfl (pu_pick (b := false) rfl (AEv.tmp rfl) (fun h => nomatch h) (fun _ => (AEv.bool _))) ?_
      refine ap (.bool false) rfl rfl rfl (pu_move rfl (AEv.tmp rfl)) ?_
      refine an rfl rfl rfl rfl rfl rfl rfl rfl ?_
      refine an rfl rfl rfl rfl rfl rfl rfl rfl ?_
      refine an rfl rfl rfl rfl rfl rfl rfl rfl ?_
      refine an rfl rfl rfl rfl rfl rfl rfl rfl ?_
      refine an rfl rfl rfl rfl rfl rfl rfl rfl ?_
      refine ap (.bool false) rfl rfl rfl (pu_pick (b := false) rfl (AEv.tmp rfl) (fun h => nomatch h) (fun _ => (AEv.bool _))) ?_
      refine ap (.bool false) rfl rfl rfl (pu_move rfl (AEv.tmp rfl)) ?_
      refine an rfl rfl rfl rfl rfl rfl rfl rfl ?_
      refine an rfl rfl rfl rfl rfl rfl rfl rfl ?_
      refine an rfl rfl rfl rfl rfl rfl rfl rfl ?_
      refine an rfl rfl rfl rfl rfl rfl rfl rfl ?_
      refine an rfl rfl rfl rfl rfl rfl rfl rfl ?_
      refine ap (.bool false) rfl rfl rfl (pu_pick (b := false) rfl (AEv.tmp rfl) (fun h => nomatch h) (fun _ => (AEv.bool _))) ?_
      refine ap (.bool false) rfl rfl rfl (pu_assign rfl (AEv.tmp rfl)) ?_
      refine aops_nil ?_
      obtain rfl := some_of h
      exact ⟨(), Weak.mkL [] (by decide) trivial ⟨AEv.tmp rfl, trivial⟩⟩
  · intro _
    have h := h30
    refine aw_ret ?_
    obtain rfl := some_of h
    exact ⟨[.bool s29], _, [], ⟨(AEv.tmp rfl), trivial⟩, (AV.Le.refl _), Weak.mkL [] (by decide) trivial trivial, ⟨rfl, rfl⟩⟩

theorem mewslaw05.ParseFeeds.ok {s_ : List UInt8} {l : api.Limits} {r : Bool} (h : mewslaw05.ParseFeeds s_ l = some r) : Go.Lift.Spec prog 3 [.str s_, .agg [.int .i64 l.Args, .int .i64 l.Bulk, .int .i64 l.Line]] [] (fun v H => v = .bool r ∧ H = []) := by
  unfold mewslaw05.ParseFeeds at h
  refine Go.Lift.Spec.of_body (rs := [.tmp 4]) func3 rfl rfl (Nat.le_of_ble_eq_true rfl) rfl ?_
  refine aw_seq ?_
  refine aw_region ?_
  refine ac rfl rfl rfl (op_box (cs := [.int .i64 l.Args, .int .i64 l.Bulk, .int .i64 l.Line]) (v := .agg [.int .i64 l.Args, .int .i64 l.Bulk, .int .i64 l.Line]) rfl (AEv.tmp rfl) rfl rfl ?_)
  intro p48
  refine ap (.bool false) rfl rfl rfl (pu_assign rfl (AEv.bool _)) ?_
  refine aops_nil ?_
  refine aw_seq ?_
  refine aw_seq ?_
  refine aw_region ?_
  refine ap (.str s_) rfl rfl rfl (pu_move rfl (AEv.tmp rfl)) ?_
  refine ac rfl rfl rfl (op_buildSlice (xs := ([s_] : List (List UInt8)).map AV.str) (aparts := [(0, .str s_)]) rfl underlying26 sizeOf9 zeroValue9 (by decide) (by decide) ⟨rfl, (AEv.tmp rfl), trivial⟩ rfl rfl rfl ?_)
  obtain ⟨r49, r49e, h⟩ := bind_some h
  refine ac rfl rfl rfl (op_call (vs := [.sl .no 1 ([s_].map AV.str)]) (H := []) rfl call13 ⟨(AEv.le (AEv.tmp rfl) (AV.Le.forget _ _ _)), trivial⟩ (List.Perm.refl _) (mewslaw05.far.ok r49e) ?_)
  rintro _ _ ⟨rfl, rfl⟩
  refine aops_nil ?_
  refine aw_cond (b := r49) (AEv.tmp rfl) (fun hb94 => ?_) (fun hb94 => ?_)
  · replace h := ite_t hb94 h
    refine aw_seq ?_
    refine aw_region ?_
    obtain ⟨r50, r50e, h⟩ := bind_some h
    refine ac rfl rfl rfl (op_call (vs := []) (H := []) rfl call14 trivial (List.Perm.refl _) (mewslaw05.alive.ok r50e) ?_)
    rintro _ _ ⟨rfl, rfl⟩
    refine ap (.bool r50) rfl rfl rfl (pu_assign rfl (AEv.tmp rfl)) ?_
    refine aops_nil ?_
    refine aw_ret ?_
    obtain rfl := some_of h
    exact ⟨[.bool r50], _, [], ⟨(AEv.tmp rfl), trivial⟩, (AV.Le.refl _), Weak.mkL [] (by decide) trivial trivial, ⟨rfl, rfl⟩⟩
  · replace h := ite_fb hb94 h
    refine aw_skip ?_
    refine aw_seq ?_
    refine aw_region ?_
    refine ap (.agg [.str ([] : List UInt8), .sl .full 1 (([] : List (List UInt8)).map AV.str), .int .i64 0, .int .i64 0, .bool false, .int .i64 0, .int .i64 0]) rfl rfl rfl (pu_build (zs := [.str ([] : List UInt8), .sl .full 1 (([] : List (List UInt8)).map AV.str), .int .i64 0, .int .i64 0, .bool false, .int .i64 0, .int .i64 0]) (szs := [1, 1, 1, 1, 1, 1, 1]) (aparts := []) (cs := [.str ([] : List UInt8), .sl .full 1 (([] : List (List UInt8)).map AV.str), .int .i64 0, .int .i64 0, .bool false, .int .i64 0, .int .i64 0]) rfl underlying29 zeroValue29 rfl ⟨sizeOf9, sizeOf26, sizeOf3, sizeOf3, sizeOf4, sizeOf3, sizeOf27, trivial⟩ trivial rfl) ?_
    refine ap (.str s_) rfl rfl rfl (pu_move rfl (AEv.tmp rfl)) ?_
    refine ac rfl rfl rfl (op_loadN (i := 0) rfl isAgg23 sizeOf23 (AEv.tmp rfl) rfl (Nat.le_of_ble_eq_true rfl) rfl ?_)
    obtain ⟨r51, r51e, h⟩ := bind_some h
    refine ac rfl rfl rfl (op_call (vs := [.agg [.str ([] : List UInt8), .sl .no 1 (([] : List (List UInt8)).map AV.str), .int .i64 0, .int .i64 0, .bool false, .int .i64 0, .int .i64 0], .str s_, .agg [.int .i64 l.Args, .int .i64 l.Bulk, .int .i64 l.Line]]) (H := []) rfl call15 ⟨(AEv.le (AEv.tmp rfl) (AV.Le.agg ⟨(AV.Le.refl _), (AV.Le.forget _ _ _), (AV.Le.refl _), (AV.Le.refl _), (AV.Le.refl _), (AV.Le.refl _), (AV.Le.refl _), trivial⟩)), (AEv.tmp rfl), (AEv.tmp rfl), trivial⟩ (List.Perm.refl _) (parse.Feed.ok r51e) ?_)
    rintro _ _ ⟨t52, rfl, rfl⟩
    refine ap (.tup [.agg (api.Input.ct .no r51.1), .sl (.own t52) 2 (r51.2.1.map api.Request.av), .int .i64 r51.2.2]) rfl rfl rfl (pu_move rfl (AEv.tmp rfl)) ?_
    refine ap (.agg (api.Input.ct .no r51.1)) rfl rfl rfl (pu_extract rfl (AEv.tmp rfl) (Nat.le_of_ble_eq_true rfl) rfl) ?_
    refine ap (.sl (.own t52) 2 (r51.2.1.map api.Request.av)) rfl rfl rfl (pu_extract rfl (AEv.tmp rfl) (Nat.le_of_ble_eq_true rfl) rfl) ?_
    refine ap (.int .i64 r51.2.2) rfl rfl rfl (pu_extract rfl (AEv.tmp rfl) (Nat.le_of_ble_eq_true rfl) rfl) ?_
    refine ac rfl rfl rfl (op_alloc (cs := [.str ([] : List UInt8), .sl .full 1 (([] : List (List UInt8)).map AV.str), .int .i64 0, .int .i64 0, .bool false, .int .i64 0, .int .i64 0]) (v := .agg [.str ([] : List UInt8), .sl .full 1 (([] : List (List UInt8)).map AV.str), .int .i64 0, .int .i64 0, .bool false, .int .i64 0, .int .i64 0]) rfl zeroValue29 rfl rfl rfl ?_)
    intro p53
    refine ac0 rfl rfl (op_store (i := 0) (cs' := (api.Input.ct .no r51.1)) rfl sizeOf29 (AEv.tmp rfl) (v := .agg (api.Input.ct .no r51.1)) (AEv.tmp rfl) rfl rfl rfl (Nat.le_of_ble_eq_true rfl) rfl ?_)
    refine ap (.sl (.own t52) 2 (r51.2.1.map api.Request.av)) rfl rfl rfl (pu_assign rfl (AEv.tmp rfl)) ?_
    refine ap (.int .i64 r51.2.2) rfl rfl rfl (pu_assign rfl (AEv.tmp rfl)) ?_
    refine aops_nil ?_
    refine aw_seq ?_
    refine aw_region ?_
    refine ap (.str s_) rfl rfl rfl (pu_move rfl (AEv.tmp rfl)) ?_
    refine ac rfl rfl rfl (op_loadN (i := 2) rfl isAgg23 sizeOf23 (AEv.tmp rfl) rfl (Nat.le_of_ble_eq_true rfl) rfl ?_)
    obtain ⟨r54, r54e, h⟩ := bind_some h
    refine ac rfl rfl rfl (op_call (vs := [.str s_, .agg [.int .i64 l.Args, .int .i64 l.Bulk, .int .i64 l.Line]]) (H := []) rfl call16 ⟨(AEv.tmp rfl), (AEv.tmp rfl), trivial⟩ (List.Perm.refl _) (mewsref05.All.ok r54e) ?_)
    rintro _ _ ⟨t55, rfl, rfl⟩
    refine ap (.tup [.agg (api.Input.ct .no r54.1), .sl (.own t55) 2 (r54.2.map api.Request.av)]) rfl rfl rfl (pu_move rfl (AEv.tmp rfl)) ?_
    refine ap (.agg (api.Input.ct .no r54.1)) rfl rfl rfl (pu_extract rfl (AEv.tmp rfl) (Nat.le_of_ble_eq_true rfl) rfl) ?_
    refine ap (.sl (.own t55) 2 (r54.2.map api.Request.av)) rfl rfl rfl (pu_extract rfl (AEv.tmp rfl) (Nat.le_of_ble_eq_true rfl) rfl) ?_
    refine ac rfl rfl rfl (op_alloc (cs := [.str ([] : List UInt8), .sl .full 1 (([] : List (List UInt8)).map AV.str), .int .i64 0, .int .i64 0, .bool false, .int .i64 0, .int .i64 0]) (v := .agg [.str ([] : List UInt8), .sl .full 1 (([] : List (List UInt8)).map AV.str), .int .i64 0, .int .i64 0, .bool false, .int .i64 0, .int .i64 0]) rfl zeroValue29 rfl rfl rfl ?_)
    intro p56
    refine ac0 rfl rfl (op_store (i := 0) (cs' := (api.Input.ct .no r54.1)) rfl sizeOf29 (AEv.tmp rfl) (v := .agg (api.Input.ct .no r54.1)) (AEv.tmp rfl) rfl rfl rfl (Nat.le_of_ble_eq_true rfl) rfl ?_)
    refine ap (.sl (.own t55) 2 (r54.2.map api.Request.av)) rfl rfl rfl (pu_assign rfl (AEv.tmp rfl)) ?_
    refine aops_nil ?_
    obtain ⟨s74, s74e, h75⟩ := bind_some h
    refine aw_meet (ν := Unit) (fun v => [(4, .bool s74)]) (fun v => []) ?_ ?_
    · have h := s74e
      obtain ⟨r77, r77e, h⟩ := bind_some h
      rcases Bool.eq_false_or_eq_true r77 with hb78 | hb78
      · replace h := ite_t hb78 h
        obtain ⟨r79, r79e, h⟩ := bind_some h
        rcases Bool.eq_false_or_eq_true r79 with hb80 | hb80
        · replace h := ite_t hb80 h
          rcases Bool.eq_false_or_eq_true (decide (r51.2.2 = r54.1.Dead)) with hb81 | hb81
          · replace h := ite_t (dec_t hb81) h
            obtain ⟨r82, r82e, h⟩ := bind_some h
            obtain ⟨r83, r83e, h⟩ := bind_some h
            rcases Bool.eq_false_or_eq_true (decide (r82 = r83)) with hb84 | hb84
            · replace h := ite_t (dec_t hb84) h
              obtain ⟨r85, r85e, h⟩ := bind_some h
              rcases Bool.eq_false_or_eq_true (decide (r54.1.Rest = ([] : List UInt8))) with hb86 | hb86
              · replace h := ite_t (dec_t hb86) h
                rcases Bool.eq_false_or_eq_true (decide (r54.1.Size = 0)) with hb87 | hb87
                · replace h := ite_t (dec_t hb87) h
                  rcases Bool.eq_false_or_eq_true (r85 == (decide (r54.1.Dead = 0))) with hb88 | hb88
                  · replace h := ite_t hb88 h
                    obtain ⟨r89, r89e, h⟩ := bind_some h
                    refine aw_plan (by decide +kernel) [([], some 28, [5]), ([], some 29, [8]), ([0, 1], some 30, [28, 29]), ([2, 2], some 31, [30]), ([3], some 32, [6, 31]), ([3], some 33, [9, 31]), ([4, 5, 3, 3], some 34, [32, 33, 31]), ([3, 6], some 35, [31, 34]), ([7, 6], some 36, [35]), ([8], some 37, [7, 36]), ([8], some 38, [8, 36]), ([10, 8], some 39, [38, 36]), ([9, 11, 8], some 40, [37, 39, 36]), ([8, 12], some 41, [36, 40]), ([13, 8], some 42, [41]), ([14], some 43, [3, 42]), ([15, 14, 14], some 44, [43, 42]), ([14], some 45, [3, 42]), ([17, 16, 14], some 46, [45, 42]), ([16, 18, 14], some 47, [44, 46, 42]), ([14, 19], some 48, [42, 47]), ([20, 18], some 49, [48]), ([21], some 50, [5, 49]), ([22, 21, 21], some 51, [50, 49]), ([21], some 52, [8, 49]), ([24, 21], some 53, [52, 49]), ([25, 21], some 54, [53, 49]), ([26, 23, 21], some 55, [54, 49]), ([27], some 56, [8, 55]), ([28, 27], some 57, [56, 55]), ([29, 27], some 58, [57, 55]), ([27, 30, 21], some 59, [55, 58, 49]), ([31, 27, 21], some 60, [59, 49]), ([32], some 61, [8, 60]), ([33, 32], some 62, [61, 60]), ([34, 32], some 63, [62, 60]), ([32, 35, 21], some 64, [60, 63, 49]), ([23, 36, 21], some 65, [51, 64, 49]), ([21, 37], some 66, [49, 65]), ([38, 32], some 67, [66]), ([39, 39], some 68, [67]), ([39, 40], some 69, [67, 68]), ([41, 40, 0, 1, 2, 3, 4, 5, 6, 7, 8, 9, 10, 11, 12, 13, 14, 15, 16, 17, 18, 19, 20, 21, 22, 23, 24, 25, 26, 27, 28, 29, 30, 31, 32, 33, 34, 35, 36, 37, 38, 39, 40, 41], some 4, [69])] rfl [[], [], [0, 1], [0, 1, 2], [0, 1, 2, 3], [0, 1, 2, 3], [0, 1, 2, 3, 4, 5], [0, 1, 2, 3, 4, 5, 6], [0, 1, 2, 3, 4, 5, 6, 7], [0, 1, 2, 3, 4, 5, 6, 7, 8], [0, 1, 2, 3, 4, 5, 6, 7, 8], [0, 1, 2, 3, 4, 5, 6, 7, 8, 10], [0, 1, 2, 3, 4, 5, 6, 7, 8, 9, 10, 11], [0, 1, 2, 3, 4, 5, 6, 7, 8, 9, 10, 11, 12], [0, 1, 2, 3, 4, 5, 6, 7, 8, 9, 10, 11, 12, 13], [0, 1, 2, 3, 4, 5, 6, 7, 8, 9, 10, 11, 12, 13, 14], [0, 1, 2, 3, 4, 5, 6, 7, 8, 9, 10, 11, 12, 13, 14, 15], [0, 1, 2, 3, 4, 5, 6, 7, 8, 9, 10, 11, 12, 13, 14], [0, 1, 2, 3, 4, 5, 6, 7, 8, 9, 10, 11, 12, 13, 14, 15, 16, 17], [0, 1, 2, 3, 4, 5, 6, 7, 8, 9, 10, 11, 12, 13, 14, 15, 16, 17, 18], [0, 1, 2, 3, 4, 5, 6, 7, 8, 9, 10, 11, 12, 13, 14, 15, 16, 17, 18, 19], [0, 1, 2, 3, 4, 5, 6, 7, 8, 9, 10, 11, 12, 13, 14, 15, 16, 17, 18, 19, 20], [0, 1, 2, 3, 4, 5, 6, 7, 8, 9, 10, 11, 12, 13, 14, 15, 16, 17, 18, 19, 20, 21], [0, 1, 2, 3, 4, 5, 6, 7, 8, 9, 10, 11, 12, 13, 14, 15, 16, 17, 18, 19, 20, 21, 22], [0, 1, 2, 3, 4, 5, 6, 7, 8, 9, 10, 11, 12, 13, 14, 15, 16, 17, 18, 19, 20, 21], [0, 1, 2, 3, 4, 5, 6, 7, 8, 9, 10, 11, 12, 13, 14, 15, 16, 17, 18, 19, 20, 21, 24], [0, 1, 2, 3, 4, 5, 6, 7, 8, 9, 10, 11, 12, 13, 14, 15, 16, 17, 18, 19, 20, 21, 24, 25], [0, 1, 2, 3, 4, 5, 6, 7, 8, 9, 10, 11, 12, 13, 14, 15, 16, 17, 18, 19, 20, 21, 22, 23, 24, 25, 26], [0, 1, 2, 3, 4, 5, 6, 7, 8, 9, 10, 11, 12, 13, 14, 15, 16, 17, 18, 19, 20, 21, 22, 23, 24, 25, 26, 27], [0, 1, 2, 3, 4, 5, 6, 7, 8, 9, 10, 11, 12, 13, 14, 15, 16, 17, 18, 19, 20, 21, 22, 23, 24, 25, 26, 27, 28], [0, 1, 2, 3, 4, 5, 6, 7, 8, 9, 10, 11, 12, 13, 14, 15, 16, 17, 18, 19, 20, 21, 22, 23, 24, 25, 26, 27, 28, 29], [0, 1, 2, 3, 4, 5, 6, 7, 8, 9, 10, 11, 12, 13, 14, 15, 16, 17, 18, 19, 20, 21, 22, 23, 24, 25, 26, 27, 28, 29, 30], [0, 1, 2, 3, 4, 5, 6, 7, 8, 9, 10, 11, 12, 13, 14, 15, 16, 17, 18, 19, 20, 21, 22, 23, 24, 25, 26, 27, 28, 29, 30, 31], [0, 1, 2, 3, 4, 5, 6, 7, 8, 9, 10, 11, 12, 13, 14, 15, 16, 17, 18, 19, 20, 21, 22, 23, 24, 25, 26, 27, 28, 29, 30, 31, 32], [0, 1, 2, 3, 4, 5, 6, 7, 8, 9, 10, 11, 12, 13, 14, 15, 16, 17, 18, 19, 20, 21, 22, 23, 24, 25, 26, 27, 28, 29, 30, 31, 32, 33], [0, 1, 2, 3, 4, 5, 6, 7, 8, 9, 10, 11, 12, 13, 14, 15, 16, 17, 18, 19, 20, 21, 22, 23, 24, 25, 26, 27, 28, 29, 30, 31, 32, 33, 34], [0, 1, 2, 3, 4, 5, 6, 7, 8, 9, 10, 11, 12, 13, 14, 15, 16, 17, 18, 19, 20, 21, 22, 23, 24, 25, 26, 27, 28, 29, 30, 31, 32, 33, 34, 35], [0, 1, 2, 3, 4, 5, 6, 7, 8, 9, 10, 11, 12, 13, 14, 15, 16, 17, 18, 19, 20, 21, 22, 23, 24, 25, 26, 27, 28, 29, 30, 31, 32, 33, 34, 35, 36], [0, 1, 2, 3, 4, 5, 6, 7, 8, 9, 10, 11, 12, 13, 14, 15, 16, 17, 18, 19, 20, 21, 22, 23, 24, 25, 26, 27, 28, 29, 30, 31, 32, 33, 34, 35, 36, 37], [0, 1, 2, 3, 4, 5, 6, 7, 8, 9, 10, 11, 12, 13, 14, 15, 16, 17, 18, 19, 20, 21, 22, 23, 24, 25, 26, 27, 28, 29, 30, 31, 32, 33, 34, 35, 36, 37, 38], [0, 1, 2, 3, 4, 5, 6, 7, 8, 9, 10, 11, 12, 13, 14, 15, 16, 17, 18, 19, 20, 21, 22, 23, 24, 25, 26, 27, 28, 29, 30, 31, 32, 33, 34, 35, 36, 37, 38, 39], [0, 1, 2, 3, 4, 5, 6, 7, 8, 9, 10, 11, 12, 13, 14, 15, 16, 17, 18, 19, 20, 21, 22, 23, 24, 25, 26, 27, 28, 29, 30, 31, 32, 33, 34, 35, 36, 37, 38, 39, 40], [0, 1, 2, 3, 4, 5, 6, 7, 8, 9, 10, 11, 12, 13, 14, 15, 16, 17, 18, 19, 20, 21, 22, 23, 24, 25, 26, 27, 28, 29, 30, 31, 32, 33, 34, 35, 36, 37, 38, 39, 40, 41]] [[(2, 0, false)], [(0, 0, false)], [], [], [], [], [], [], [], [], [], [(0, 0, false)], [], [], [], [(4, 0, false)], [], [(4, 0, false)], [], [], [], [], [(2, 0, false)], [], [], [(0, 0, false)], [], [], [], [(0, 0, false)], [], [], [], [], [(0, 0, false)], [], [], [], [], [], [], [], []] [[], [], [], [], []] [[[(p56, .cells (api.Input.ct .no r54.1))]], [[(t55, .spare)]], [[(p53, .cells (api.Input.ct .no r51.1))]], [[(t52, .spare)]], [[(p48, .cells [.int .i64 l.Args, .int .i64 l.Bulk, .int .i64 l.Line])]]] [.agg (api.Input.ct .no r51.1), .agg (api.Input.ct .no r54.1), .bool r77, .bool true, .sl (.own t52) 2 (r51.2.1.map api.Request.av), .sl (.own t55) 2 (r54.2.map api.Request.av), .bool r79, .bool r79, .bool true, .int .i64 r51.2.2, .ptr p56 6, .int .i64 r54.1.Dead, .bool (decide (r51.2.2 = r54.1.Dead)), .bool (decide (r51.2.2 = r54.1.Dead)), .bool true, .agg [.int .i64 l.Args, .int .i64 l.Bulk, .int .i64 l.Line], .agg [.int .i64 r82.Args, .int .i64 r82.Bulk, .int .i64 r82.Line], .agg [.int .i64 l.Args, .int .i64 l.Bulk, .int .i64 l.Line], .agg [.int .i64 r83.Args, .int .i64 r83.Bulk, .int .i64 r83.Line], .bool (decide (r82 = r83)), .bool (decide (r82 = r83)), .bool true, .agg (api.Input.ct .no r51.1), .bool r85, .ptr p56 0, .str r54.1.Rest, .bool (decide (r54.1.Rest = ([] : List UInt8))), .bool true, .ptr p56 3, .int .i64 r54.1.Size, .bool (decide (r54.1.Size = 0)), .bool (decide (r54.1.Size = 0)), .bool true, .ptr p56 6, .int .i64 r54.1.Dead, .bool (decide (r54.1.Dead = 0)), .bool (decide (r54.1.Dead = 0)), .bool (r85 == (decide (r54.1.Dead = 0))), .bool (r85 == (decide (r54.1.Dead = 0))), .bool true, .bool r89, .bool r89, .bool r89] (by decide +kernel) rfl rfl ?_ ?_
                    · refine ⟨⟨[5], rfl, stepg_plain rfl (op_loadN (i := 0) rfl isAgg29 sizeOf29 (AEv.tmp rfl) rfl (Nat.le_of_ble_eq_true rfl) rfl ⟨rfl, rfl⟩)⟩, ?_⟩
                      refine ⟨⟨[8], rfl, stepg_plain rfl (op_loadN (i := 0) rfl isAgg29 sizeOf29 (AEv.tmp rfl) rfl (Nat.le_of_ble_eq_true rfl) rfl ⟨rfl, rfl⟩)⟩, ?_⟩
                      refine ⟨⟨[28, 29], rfl, stepg_plain rfl (op_call (vs := [.agg (api.Input.ct .no r51.1), .agg (api.Input.ct .no r54.1)]) (H := []) rfl call17 ⟨(AEv.tmp rfl), (AEv.tmp rfl), trivial⟩ (R := []) (List.Perm.refl _) (mewsref05.SameInput.ok r77e) (by rintro _ _ ⟨rfl, rfl⟩; exact ⟨rfl, rfl⟩))⟩, ?_⟩
                      refine ⟨⟨[30], rfl, (stepg_pure rfl (pu_move rfl (AEv.tmp rfl))).cast (congrArg AV.bool hb78)⟩, ?_⟩
                      refine ⟨⟨[6, 31], rfl, stepg_guardP rfl rfl rfl (by decide) rfl (pu_move rfl (AEv.tmp rfl))⟩, ?_⟩
                      refine ⟨⟨[9, 31], rfl, stepg_guardP rfl rfl rfl (by decide) rfl (pu_move rfl (AEv.tmp rfl))⟩, ?_⟩
                      refine ⟨⟨[31, 32, 33], rfl, stepg_guard rfl rfl rfl (by decide) rfl (op_call (vs := [.sl .no 2 (r51.2.1.map api.Request.av), .sl .no 2 (r54.2.map api.Request.av)]) (H := []) rfl call18 ⟨(AEv.le (AEv.tmp rfl) (AV.Le.forget _ _ _)), (AEv.le (AEv.tmp rfl) (AV.Le.forget _ _ _)), trivial⟩ (R := []) (List.Perm.refl _) (mewsref05.Same.ok r79e) (by rintro _ _ ⟨rfl, rfl⟩; exact ⟨rfl, rfl⟩))⟩, ?_⟩
                      refine ⟨⟨[31, 34], rfl, stepg_pure rfl (pu_pick (b := true) rfl (AEv.tmp rfl) (fun _ => (AEv.tmp rfl)) (fun h => nomatch h))⟩, ?_⟩
                      refine ⟨⟨[35], rfl, (stepg_pure rfl (pu_move rfl (AEv.tmp rfl))).cast (congrArg AV.bool hb80)⟩, ?_⟩
                      refine ⟨⟨[7, 36], rfl, stepg_guardP rfl rfl rfl (by decide) rfl (pu_move rfl (AEv.tmp rfl))⟩, ?_⟩
                      refine ⟨⟨[8, 36], rfl, stepg_guardP rfl rfl rfl (by decide) rfl (pu_fieldAddr rfl underlying29 rfl sizeOf27 (by decide) (AEv.tmp rfl) rfl)⟩, ?_⟩
                      refine ⟨⟨[36, 38], rfl, stepg_guard rfl rfl rfl (by decide) rfl (op_load1 (i := 0) rfl isAgg27 (AEv.tmp rfl) rfl rfl ⟨rfl, rfl⟩)⟩, ?_⟩
                      refine ⟨⟨[36, 37, 39], rfl, stepg_guardP rfl rfl rfl (by decide) rfl (pu_int (v := .bool (decide (r51.2.2 = r54.1.Dead))) rfl rfl (AEv.tmp rfl) (AEv.tmp rfl) rfl)⟩, ?_⟩
                      refine ⟨⟨[36, 40], rfl, stepg_pure rfl (pu_pick (b := true) rfl (AEv.tmp rfl) (fun _ => (AEv.tmp rfl)) (fun h => nomatch h))⟩, ?_⟩
                      refine ⟨⟨[41], rfl, (stepg_pure rfl (pu_move rfl (AEv.tmp rfl))).cast (congrArg AV.bool hb81)⟩, ?_⟩
                      refine ⟨⟨[3, 42], rfl, stepg_guard rfl rfl rfl (by decide) rfl (op_loadN (i := 0) rfl isAgg23 sizeOf23 (AEv.tmp rfl) rfl (Nat.le_of_ble_eq_true rfl) rfl ⟨rfl, rfl⟩)⟩, ?_⟩
                      refine ⟨⟨[42, 43], rfl, stepg_guard rfl rfl rfl (by decide) rfl (op_call (vs := [.agg [.int .i64 l.Args, .int .i64 l.Bulk, .int .i64 l.Line]]) (H := []) rfl call19 ⟨(AEv.tmp rfl), trivial⟩ (R := []) (List.Perm.refl _) (parse.Limits.ok r82e) (by rintro _ _ ⟨rfl, rfl⟩; exact ⟨rfl, rfl⟩))⟩, ?_⟩
                      refine ⟨⟨[3, 42], rfl, stepg_guard rfl rfl rfl (by decide) rfl (op_loadN (i := 0) rfl isAgg23 sizeOf23 (AEv.tmp rfl) rfl (Nat.le_of_ble_eq_true rfl) rfl ⟨rfl, rfl⟩)⟩, ?_⟩
                      refine ⟨⟨[42, 45], rfl, stepg_guard rfl rfl rfl (by decide) rfl (op_call (vs := [.agg [.int .i64 l.Args, .int .i64 l.Bulk, .int .i64 l.Line]]) (H := []) rfl call20 ⟨(AEv.tmp rfl), trivial⟩ (R := []) (List.Perm.refl _) (mewsref05.Limits.ok r83e) (by rintro _ _ ⟨rfl, rfl⟩; exact ⟨rfl, rfl⟩))⟩, ?_⟩
                      refine ⟨⟨[42, 44, 46], rfl, stepg_guardP rfl rfl rfl (by decide) rfl (APure.eq (pu_structEq (b := (decide (r82.Args = r83.Args) && (decide (r82.Bulk = r83.Bulk) && (decide (r82.Line = r83.Line) && true)))) rfl underlying23 (by kernel_rfl) (by kernel_rfl) (AEv.tmp rfl) (AEv.tmp rfl) ⟨_, _, _, _, ⟨by decide, isAgg3, rfl, rfl, CEq.int underlying3⟩, ⟨_, _, _, _, ⟨by decide, isAgg3, rfl, rfl, CEq.int underlying3⟩, ⟨_, _, _, _, ⟨by decide, isAgg3, rfl, rfl, CEq.int underlying3⟩, rfl, rfl⟩, rfl⟩, rfl⟩) (congrArg AV.bool (api.Limits.eq_iff r82 r83).symm))⟩, ?_⟩
                      refine ⟨⟨[42, 47], rfl, stepg_pure rfl (pu_pick (b := true) rfl (AEv.tmp rfl) (fun _ => (AEv.tmp rfl)) (fun h => nomatch h))⟩, ?_⟩
                      refine ⟨⟨[48], rfl, (stepg_pure rfl (pu_move rfl (AEv.tmp rfl))).cast (congrArg AV.bool hb84)⟩, ?_⟩
                      refine ⟨⟨[5, 49], rfl, stepg_guard rfl rfl rfl (by decide) rfl (op_loadN (i := 0) rfl isAgg29 sizeOf29 (AEv.tmp rfl) rfl (Nat.le_of_ble_eq_true rfl) rfl ⟨rfl, rfl⟩)⟩, ?_⟩
                      refine ⟨⟨[49, 50], rfl, stepg_guard rfl rfl rfl (by decide) rfl (op_call (vs := [.agg (api.Input.ct .no r51.1)]) (H := []) rfl call21 ⟨(AEv.tmp rfl), trivial⟩ (R := []) (List.Perm.refl _) (parse.Idle.ok r85e) (by rintro _ _ ⟨rfl, rfl⟩; exact ⟨rfl, rfl⟩))⟩, ?_⟩
                      refine ⟨⟨[8, 49], rfl, stepg_guardP rfl rfl rfl (by decide) rfl (pu_fieldAddr rfl underlying29 rfl sizeOf9 (by decide) (AEv.tmp rfl) rfl)⟩, ?_⟩
                      refine ⟨⟨[49, 52], rfl, stepg_guard rfl rfl rfl (by decide) rfl (op_load1 (i := 0) rfl isAgg9 (AEv.tmp rfl) rfl rfl ⟨rfl, rfl⟩)⟩, ?_⟩
                      refine ⟨⟨[49, 53], rfl, stepg_guardP rfl rfl rfl (by decide) rfl (pu_str (v := .bool (decide (r54.1.Rest = ([] : List UInt8)))) rfl rfl (AEv.tmp rfl) (AEv.const rfl) rfl)⟩, ?_⟩
                      refine ⟨⟨[49, 54], rfl, (stepg_guardP rfl rfl rfl (by decide) rfl (pu_move rfl (AEv.tmp rfl))).cast (congrArg AV.bool hb86)⟩, ?_⟩
                      refine ⟨⟨[8, 55], rfl, stepg_guardP rfl rfl rfl (by decide) rfl (pu_fieldAddr rfl underlying29 rfl sizeOf3 (by decide) (AEv.tmp rfl) rfl)⟩, ?_⟩
                      refine ⟨⟨[55, 56], rfl, stepg_guard rfl rfl rfl (by decide) rfl (op_load1 (i := 0) rfl isAgg3 (AEv.tmp rfl) rfl rfl ⟨rfl, rfl⟩)⟩, ?_⟩
                      refine ⟨⟨[55, 57], rfl, stepg_guardP rfl rfl rfl (by decide) rfl (pu_int (v := .bool (decide (r54.1.Size = 0))) rfl rfl (AEv.tmp rfl) (AEv.int _ _) rfl)⟩, ?_⟩
                      refine ⟨⟨[49, 55, 58], rfl, stepg_guardP rfl rfl rfl (by decide) rfl (pu_pick (b := true) rfl (AEv.tmp rfl) (fun _ => (AEv.tmp rfl)) (fun h => nomatch h))⟩, ?_⟩
                      refine ⟨⟨[49, 59], rfl, (stepg_guardP rfl rfl rfl (by decide) rfl (pu_move rfl (AEv.tmp rfl))).cast (congrArg AV.bool hb87)⟩, ?_⟩
                      refine ⟨⟨[8, 60], rfl, stepg_guardP rfl rfl rfl (by decide) rfl (pu_fieldAddr rfl underlying29 rfl sizeOf27 (by decide) (AEv.tmp rfl) rfl)⟩, ?_⟩
                      refine ⟨⟨[60, 61], rfl, stepg_guard rfl rfl rfl (by decide) rfl (op_load1 (i := 0) rfl isAgg27 (AEv.tmp rfl) rfl rfl ⟨rfl, rfl⟩)⟩, ?_⟩
                      refine ⟨⟨[60, 62], rfl, stepg_guardP rfl rfl rfl (by decide) rfl (pu_int (v := .bool (decide (r54.1.Dead = 0))) rfl rfl (AEv.tmp rfl) (AEv.int _ _) rfl)⟩, ?_⟩
                      refine ⟨⟨[49, 60, 63], rfl, stepg_guardP rfl rfl rfl (by decide) rfl (pu_pick (b := true) rfl (AEv.tmp rfl) (fun _ => (AEv.tmp rfl)) (fun h => nomatch h))⟩, ?_⟩
                      refine ⟨⟨[49, 51, 64], rfl, stepg_guardP rfl rfl rfl (by decide) rfl (pu_boolEq rfl underlying4 (AEv.tmp rfl) (AEv.tmp rfl))⟩, ?_⟩
                      refine ⟨⟨[49, 65], rfl, stepg_pure rfl (pu_pick (b := true) rfl (AEv.tmp rfl) (fun _ => (AEv.tmp rfl)) (fun h => nomatch h))⟩, ?_⟩
                      refine ⟨⟨[66], rfl, (stepg_pure rfl (pu_move rfl (AEv.tmp rfl))).cast (congrArg AV.bool hb88)⟩, ?_⟩
                      refine ⟨⟨[67], rfl, stepg_guard rfl rfl rfl (by decide) rfl (op_call (vs := []) (H := []) rfl call14 trivial (R := []) (List.Perm.refl _) (mewslaw05.alive.ok r89e) (by rintro _ _ ⟨rfl, rfl⟩; exact ⟨rfl, rfl⟩))⟩, ?_⟩
                      refine ⟨⟨[67, 68], rfl, stepg_pure rfl (pu_pick (b := true) rfl (AEv.tmp rfl) (fun _ => (AEv.tmp rfl)) (fun h => nomatch h))⟩, ?_⟩
                      refine ⟨⟨[69], rfl, stepg_pure rfl (pu_assign rfl (AEv.tmp rfl))⟩, ?_⟩
                      trivial
                    obtain rfl := some_of h
                    exact ⟨(), Weak.mkL [] (by decide) trivial ⟨AEv.tmp rfl, trivial⟩⟩
                  · replace h := ite_fb hb88 h
                    refine aw_plan (by decide +kernel) [([], some 28, [5]), ([], some 29, [8]), ([0, 1], some 30, [28, 29]), ([2, 2], some 31, [30]), ([3], some 32, [6, 31]), ([3], some 33, [9, 31]), ([4, 5, 3, 3], some 34, [32, 33, 31]), ([3, 6], some 35, [31, 34]), ([7, 6], some 36, [35]), ([8], some 37, [7, 36]), ([8], some 38, [8, 36]), ([10, 8], some 39, [38, 36]), ([9, 11, 8], some 40, [37, 39, 36]), ([8, 12], some 41, [36, 40]), ([13, 8], some 42, [41]), ([14], some 43, [3, 42]), ([15, 14, 14], some 44, [43, 42]), ([14], some 45, [3, 42]), ([17, 16, 14], some 46, [45, 42]), ([16, 18, 14], some 47, [44, 46, 42]), ([14, 19], some 48, [42, 47]), ([20, 18], some 49, [48]), ([21], some 50, [5, 49]), ([22, 21, 21], some 51, [50, 49]), ([21], some 52, [8, 49]), ([24, 21], some 53, [52, 49]), ([25, 21], some 54, [53, 49]), ([26, 23, 21], some 55, [54, 49]), ([27], some 56, [8, 55]), ([28, 27], some 57, [56, 55]), ([29, 27], some 58, [57, 55]), ([27, 30, 21], some 59, [55, 58, 49]), ([31, 27, 21], some 60, [59, 49]), ([32], some 61, [8, 60]), ([33, 32], some 62, [61, 60]), ([34, 32], some 63, [62, 60]), ([32, 35, 21], some 64, [60, 63, 49]), ([23, 36, 21], some 65, [51, 64, 49]), ([21, 37], some 66, [49, 65]), ([38, 32], some 67, [66]), ([39, 39], some 68, [67]), ([39, 40], some 69, [67, 68]), ([41, 40, 0, 1, 2, 3, 4, 5, 6, 7, 8, 9, 10, 11, 12, 13, 14, 15, 16, 17, 18, 19, 20, 21, 22, 23, 24, 25, 26, 27, 28, 29, 30, 31, 32, 33, 34, 35, 36, 37, 38, 39, 40, 41], some 4, [69])] rfl [[], [], [0, 1], [0, 1, 2], [0, 1, 2, 3], [0, 1, 2, 3], [0, 1, 2, 3, 4, 5], [0, 1, 2, 3, 4, 5, 6], [0, 1, 2, 3, 4, 5, 6, 7], [0, 1, 2, 3, 4, 5, 6, 7, 8], [0, 1, 2, 3, 4, 5, 6, 7, 8], [0, 1, 2, 3, 4, 5, 6, 7, 8, 10], [0, 1, 2, 3, 4, 5, 6, 7, 8, 9, 10, 11], [0, 1, 2, 3, 4, 5, 6, 7, 8, 9, 10, 11, 12], [0, 1, 2, 3, 4, 5, 6, 7, 8, 9, 10, 11, 12, 13], [0, 1, 2, 3, 4, 5, 6, 7, 8, 9, 10, 11, 12, 13, 14], [0, 1, 2, 3, 4, 5, 6, 7, 8, 9, 10, 11, 12, 13, 14, 15], [0, 1, 2, 3, 4, 5, 6, 7, 8, 9, 10, 11, 12, 13, 14], [0, 1, 2, 3, 4, 5, 6, 7, 8, 9, 10, 11, 12, 13, 14, 15, 16, 17], [0, 1, 2, 3, 4, 5, 6, 7, 8, 9, 10, 11, 12, 13, 14, 15, 16, 17, 18], [0, 1, 2, 3, 4, 5, 6, 7, 8, 9, 10, 11, 12, 13, 14, 15, 16, 17, 18, 19], [0, 1, 2, 3, 4, 5, 6, 7, 8, 9, 10, 11, 12, 13, 14, 15, 16, 17, 18, 19, 20], [0, 1, 2, 3, 4, 5, 6, 7, 8, 9, 10, 11, 12, 13, 14, 15, 16, 17, 18, 19, 20, 21], [0, 1, 2, 3, 4, 5, 6, 7, 8, 9, 10, 11, 12, 13, 14, 15, 16, 17, 18, 19, 20, 21, 22], [0, 1, 2, 3, 4, 5, 6, 7, 8, 9, 10, 11, 12, 13, 14, 15, 16, 17, 18, 19, 20, 21], [0, 1, 2, 3, 4, 5, 6, 7, 8, 9, 10, 11, 12, 13, 14, 15, 16, 17, 18, 19, 20, 21, 24], [0, 1, 2, 3, 4, 5, 6, 7, 8, 9, 10, 11, 12, 13, 14, 15, 16, 17, 18, 19, 20, 21, 24, 25], [0, 1, 2, 3, 4, 5, 6, 7, 8, 9, 10, 11, 12, 13, 14, 15, 16, 17, 18, 19, 20, 21, 22, 23, 24, 25, 26], [0, 1, 2, 3, 4, 5, 6, 7, 8, 9, 10, 11, 12, 13, 14, 15, 16, 17, 18, 19, 20, 21, 22, 23, 24, 25, 26, 27], [0, 1, 2, 3, 4, 5, 6, 7, 8, 9, 10, 11, 12, 13, 14, 15, 16, 17, 18, 19, 20, 21, 22, 23, 24, 25, 26, 27, 28], [0, 1, 2, 3, 4, 5, 6, 7, 8, 9, 10, 11, 12, 13, 14, 15, 16, 17, 18, 19, 20, 21, 22, 23, 24, 25, 26, 27, 28, 29], [0, 1, 2, 3, 4, 5, 6, 7, 8, 9, 10, 11, 12, 13, 14, 15, 16, 17, 18, 19, 20, 21, 22, 23, 24, 25, 26, 27, 28, 29, 30], [0, 1, 2, 3, 4, 5, 6, 7, 8, 9, 10, 11, 12, 13, 14, 15, 16, 17, 18, 19, 20, 21, 22, 23, 24, 25, 26, 27, 28, 29, 30, 31], [0, 1, 2, 3, 4, 5, 6, 7, 8, 9, 10, 11, 12, 13, 14, 15, 16, 17, 18, 19, 20, 21, 22, 23, 24, 25, 26, 27, 28, 29, 30, 31, 32], [0, 1, 2, 3, 4, 5, 6, 7, 8, 9, 10, 11, 12, 13, 14, 15, 16, 17, 18, 19, 20, 21, 22, 23, 24, 25, 26, 27, 28, 29, 30, 31, 32, 33], [0, 1, 2, 3, 4, 5, 6, 7, 8, 9, 10, 11, 12, 13, 14, 15, 16, 17, 18, 19, 20, 21, 22, 23, 24, 25, 26, 27, 28, 29, 30, 31, 32, 33, 34], [0, 1, 2, 3, 4, 5, 6, 7, 8, 9, 10, 11, 12, 13, 14, 15, 16, 17, 18, 19, 20, 21, 22, 23, 24, 25, 26, 27, 28, 29, 30, 31, 32, 33, 34, 35], [0, 1, 2, 3, 4, 5, 6, 7, 8, 9, 10, 11, 12, 13, 14, 15, 16, 17, 18, 19, 20, 21, 22, 23, 24, 25, 26, 27, 28, 29, 30, 31, 32, 33, 34, 35, 36], [0, 1, 2, 3, 4, 5, 6, 7, 8, 9, 10, 11, 12, 13, 14, 15, 16, 17, 18, 19, 20, 21, 22, 23, 24, 25, 26, 27, 28, 29, 30, 31, 32, 33, 34, 35, 36, 37], [0, 1, 2, 3, 4, 5, 6, 7, 8, 9, 10, 11, 12, 13, 14, 15, 16, 17, 18, 19, 20, 21, 22, 23, 24, 25, 26, 27, 28, 29, 30, 31, 32, 33, 34, 35, 36, 37, 38], [0, 1, 2, 3, 4, 5, 6, 7, 8, 9, 10, 11, 12, 13, 14, 15, 16, 17, 18, 19, 20, 21, 22, 23, 24, 25, 26, 27, 28, 29, 30, 31, 32, 33, 34, 35, 36, 37, 38, 39], [0, 1, 2, 3, 4, 5, 6, 7, 8, 9, 10, 11, 12, 13, 14, 15, 16, 17, 18, 19, 20, 21, 22, 23, 24, 25, 26, 27, 28, 29, 30, 31, 32, 33, 34, 35, 36, 37, 38, 39, 40], [0, 1, 2, 3, 4, 5, 6, 7, 8, 9, 10, 11, 12, 13, 14, 15, 16, 17, 18, 19, 20, 21, 22, 23, 24, 25, 26, 27, 28, 29, 30, 31, 32, 33, 34, 35, 36, 37, 38, 39, 40, 41]] [[(2, 0, false)], [(0, 0, false)], [], [], [], [], [], [], [], [], [], [(0, 0, false)], [], [], [], [(4, 0, false)], [], [(4, 0, false)], [], [], [], [], [(2, 0, false)], [], [], [(0, 0, false)], [], [], [], [(0, 0, false)], [], [], [], [], [(0, 0, false)], [], [], [], [], [], [], [], []] [[], [], [], [], []] [[[(p56, .cells (api.Input.ct .no r54.1))]], [[(t55, .spare)]], [[(p53, .cells (api.Input.ct .no r51.1))]], [[(t52, .spare)]], [[(p48, .cells [.int .i64 l.Args, .int .i64 l.Bulk, .int .i64 l.Line])]]] [.agg (api.Input.ct .no r51.1), .agg (api.Input.ct .no r54.1), .bool r77, .bool true, .sl (.own t52) 2 (r51.2.1.map api.Request.av), .sl (.own t55) 2 (r54.2.map api.Request.av), .bool r79, .bool r79, .bool true, .int .i64 r51.2.2, .ptr p56 6, .int .i64 r54.1.Dead, .bool (decide (r51.2.2 = r54.1.Dead)), .bool (decide (r51.2.2 = r54.1.Dead)), .bool true, .agg [.int .i64 l.Args, .int .i64 l.Bulk, .int .i64 l.Line], .agg [.int .i64 r82.Args, .int .i64 r82.Bulk, .int .i64 r82.Line], .agg [.int .i64 l.Args, .int .i64 l.Bulk, .int .i64 l.Line], .agg [.int .i64 r83.Args, .int .i64 r83.Bulk, .int .i64 r83.Line], .bool (decide (r82 = r83)), .bool (decide (r82 = r83)), .bool true, .agg (api.Input.ct .no r51.1), .bool r85, .ptr p56 0, .str r54.1.Rest, .bool (decide (r54.1.Rest = ([] : List UInt8))), .bool true, .ptr p56 3, .int .i64 r54.1.Size, .bool (decide (r54.1.Size = 0)), .bool (decide (r54.1.Size = 0)), .bool true, .ptr p56 6, .int .i64 r54.1.Dead, .bool (decide (r54.1.Dead = 0)), .bool (decide (r54.1.Dead = 0)), .bool (r85 == (decide (r54.1.Dead = 0))), .bool (r85 == (decide (r54.1.Dead = 0))), .bool false, .lit undef, .bool false, .bool false] (by decide +kernel) rfl rfl ?_ ?_
                    · refine ⟨⟨[5], rfl, stepg_plain rfl (op_loadN (i := 0) rfl isAgg29 sizeOf29 (AEv.tmp rfl) rfl (Nat.le_of_ble_eq_true rfl) rfl ⟨rfl, rfl⟩)⟩, ?_⟩
                      refine ⟨⟨[8], rfl, stepg_plain rfl (op_loadN (i := 0) rfl isAgg29 sizeOf29 (AEv.tmp rfl) rfl (Nat.le_of_ble_eq_true rfl) rfl ⟨rfl, rfl⟩)⟩, ?_⟩
                      refine ⟨⟨[28, 29], rfl, stepg_plain rfl (op_call (vs := [.agg (api.Input.ct .no r51.1), .agg (api.Input.ct .no r54.1)]) (H := []) rfl call17 ⟨(AEv.tmp rfl), (AEv.tmp rfl), trivial⟩ (R := []) (List.Perm.refl _) (mewsref05.SameInput.ok r77e) (by rintro _ _ ⟨rfl, rfl⟩; exact ⟨rfl, rfl⟩))⟩, ?_⟩
                      refine ⟨⟨[30], rfl, (stepg_pure rfl (pu_move rfl (AEv.tmp rfl))).cast (congrArg AV.bool hb78)⟩, ?_⟩
                      refine ⟨⟨[6, 31], rfl, stepg_guardP rfl rfl rfl (by decide) rfl (pu_move rfl (AEv.tmp rfl))⟩, ?_⟩
                      refine ⟨⟨[9, 31], rfl, stepg_guardP rfl rfl rfl (by decide) rfl (pu_move rfl (AEv.tmp rfl))⟩, ?_⟩
                      refine ⟨⟨[31, 32, 33], rfl, stepg_guard rfl rfl rfl (by decide) rfl (op_call (vs := [.sl .no 2 (r51.2.1.map api.Request.av), .sl .no 2 (r54.2.map api.Request.av)]) (H := []) rfl call18 ⟨(AEv.le (AEv.tmp rfl) (AV.Le.forget _ _ _)), (AEv.le (AEv.tmp rfl) (AV.Le.forget _ _ _)), trivial⟩ (R := []) (List.Perm.refl _) (mewsref05.Same.ok r79e) (by rintro _ _ ⟨rfl, rfl⟩; exact ⟨rfl, rfl⟩))⟩, ?_⟩
                      refine ⟨⟨[31, 34], rfl, stepg_pure rfl (pu_pick (b := true) rfl (AEv.tmp rfl) (fun _ => (AEv.tmp rfl)) (fun h => nomatch h))⟩, ?_⟩
                      refine ⟨⟨[35], rfl, (stepg_pure rfl (pu_move rfl (AEv.tmp rfl))).cast (congrArg AV.bool hb80)⟩, ?_⟩
                      refine ⟨⟨[7, 36], rfl, stepg_guardP rfl rfl rfl (by decide) rfl (pu_move rfl (AEv.tmp rfl))⟩, ?_⟩
                      refine ⟨⟨[8, 36], rfl, stepg_guardP rfl rfl rfl (by decide) rfl (pu_fieldAddr rfl underlying29 rfl sizeOf27 (by decide) (AEv.tmp rfl) rfl)⟩, ?_⟩
                      refine ⟨⟨[36, 38], rfl, stepg_guard rfl rfl rfl (by decide) rfl (op_load1 (i := 0) rfl isAgg27 (AEv.tmp rfl) rfl rfl ⟨rfl, rfl⟩)⟩, ?_⟩
                      refine ⟨⟨[36, 37, 39], rfl, stepg_guardP rfl rfl rfl (by decide) rfl (pu_int (v := .bool (decide (r51.2.2 = r54.1.Dead))) rfl rfl (AEv.tmp rfl) (AEv.tmp rfl) rfl)⟩, ?_⟩
                      refine ⟨⟨[36, 40], rfl, stepg_pure rfl (pu_pick (b := true) rfl (AEv.tmp rfl) (fun _ => (AEv.tmp rfl)) (fun h => nomatch h))⟩, ?_⟩
                      refine ⟨⟨[41], rfl, (stepg_pure rfl (pu_move rfl (AEv.tmp rfl))).cast (congrArg AV.bool hb81)⟩, ?_⟩
                      refine ⟨⟨[3, 42], rfl, stepg_guard rfl rfl rfl (by decide) rfl (op_loadN (i := 0) rfl isAgg23 sizeOf23 (AEv.tmp rfl) rfl (Nat.le_of_ble_eq_true rfl) rfl ⟨rfl, rfl⟩)⟩, ?_⟩
                      refine ⟨⟨[42, 43], rfl, stepg_guard rfl rfl rfl (by decide) rfl (op_call (vs := [.agg [.int .i64 l.Args, .int .i64 l.Bulk, .int .i64 l.Line]]) (H := []) rfl call19 ⟨(AEv.tmp rfl), trivial⟩ (R := []) (List.Perm.refl _) (parse.Limits.ok r82e) (by rintro _ _ ⟨rfl, rfl⟩; exact ⟨rfl, rfl⟩))⟩, ?_⟩
                      refine ⟨⟨[3, 42], rfl, stepg_guard rfl rfl rfl (by decide) rfl (op_loadN (i := 0) rfl isAgg23 sizeOf23 (AEv.tmp rfl) rfl (Nat.le_of_ble_eq_true rfl) rfl ⟨rfl, rfl⟩)⟩, ?_⟩
                      refine ⟨⟨[42, 45], rfl, stepg_guard rfl rfl rfl (by decide) rfl (op_call (vs := [.agg [.int .i64 l.Args, .int .i64 l.Bulk, .int .i64 l.Line]]) (H := []) rfl call20 ⟨(AEv.tmp rfl), trivial⟩ (R := []) (List.Perm.refl _) (mewsref05.Limits.ok r83e) (by rintro _ _ ⟨rfl, rfl⟩; exact ⟨rfl, rfl⟩))⟩, ?_⟩
                      refine ⟨⟨[42, 44, 46], rfl, stepg_guardP rfl rfl rfl (by decide) rfl (APure.eq (pu_structEq (b := (decide (r82.Args = r83.Args) && (decide (r82.Bulk = r83.Bulk) && (decide (r82.Line = r83.Line) && true)))) rfl underlying23 (by kernel_rfl) (by kernel_rfl) (AEv.tmp rfl) (AEv.tmp rfl) ⟨_, _, _, _, ⟨by decide, isAgg3, rfl, rfl, CEq.int underlying3⟩, ⟨_, _, _, _, ⟨by decide, isAgg3, rfl, rfl, CEq.int underlying3⟩, ⟨_, _, _, _, ⟨by decide, isAgg3, rfl, rfl, CEq.int underlying3⟩, rfl, rfl⟩, rfl⟩, rfl⟩) (congrArg AV.bool (api.Limits.eq_iff r82 r83).symm))⟩, ?_⟩
                      refine ⟨⟨[42, 47], rfl, stepg_pure rfl (pu_pick (b := true) rfl (AEv.tmp rfl) (fun _ => (AEv.tmp rfl)) (fun h => nomatch h))⟩, ?_⟩
                      refine ⟨⟨[48], rfl, (stepg_pure rfl (pu_move rfl (AEv.tmp rfl))).cast (congrArg AV.bool hb84)⟩, ?_⟩
                      refine ⟨⟨[5, 49], rfl, stepg_guard rfl rfl rfl (by decide) rfl (op_loadN (i := 0) rfl isAgg29 sizeOf29 (AEv.tmp rfl) rfl (Nat.le_of_ble_eq_true rfl) rfl ⟨rfl, rfl⟩)⟩, ?_⟩
                      refine ⟨⟨[49, 50], rfl, stepg_guard rfl rfl rfl (by decide) rfl (op_call (vs := [.agg (api.Input.ct .no r51.1)]) (H := []) rfl call21 ⟨(AEv.tmp rfl), trivial⟩ (R := []) (List.Perm.refl _) (parse.Idle.ok r85e) (by rintro _ _ ⟨rfl, rfl⟩; exact ⟨rfl, rfl⟩))⟩, ?_⟩
                      refine ⟨⟨[8, 49], rfl, stepg_guardP rfl rfl rfl (by decide) rfl (pu_fieldAddr rfl underlying29 rfl sizeOf9 (by decide) (AEv.tmp rfl) rfl)⟩, ?_⟩
                      refine ⟨⟨[49, 52], rfl, stepg_guard rfl rfl rfl (by decide) rfl (op_load1 (i := 0) rfl isAgg9 (AEv.tmp rfl) rfl rfl ⟨rfl, rfl⟩)⟩, ?_⟩
                      refine ⟨⟨[49, 53], rfl, stepg_guardP rfl rfl rfl (by decide) rfl (pu_str (v := .bool (decide (r54.1.Rest = ([] : List UInt8)))) rfl rfl (AEv.tmp rfl) (AEv.const rfl) rfl)⟩, ?_⟩
                      refine ⟨⟨[49, 54], rfl, (stepg_guardP rfl rfl rfl (by decide) rfl (pu_move rfl (AEv.tmp rfl))).cast (congrArg AV.bool hb86)⟩, ?_⟩
                      refine ⟨⟨[8, 55], rfl, stepg_guardP rfl rfl rfl (by decide) rfl (pu_fieldAddr rfl underlying29 rfl sizeOf3 (by decide) (AEv.tmp rfl) rfl)⟩, ?_⟩
                      refine ⟨⟨[55, 56], rfl, stepg_guard rfl rfl rfl (by decide) rfl (op_load1 (i := 0) rfl isAgg3 (AEv.tmp rfl) rfl rfl ⟨rfl, rfl⟩)⟩, ?_⟩
                      refine ⟨⟨[55, 57], rfl, stepg_guardP rfl rfl rfl (by decide) rfl (pu_int (v := .bool (decide (r54.1.Size = 0))) rfl rfl (AEv.tmp rfl) (AEv.int _ _) rfl)⟩, ?_⟩
                      refine ⟨⟨[49, 55, 58], rfl, stepg_guardP rfl rfl rfl (by decide) rfl (pu_pick (b := true) rfl (AEv.tmp rfl) (fun _ => (AEv.tmp rfl)) (fun h => nomatch h))⟩, ?_⟩
                      refine ⟨⟨[49, 59], rfl, (stepg_guardP rfl rfl rfl (by decide) rfl (pu_move rfl (AEv.tmp rfl))).cast (congrArg AV.bool hb87)⟩, ?_⟩
                      refine ⟨⟨[8, 60], rfl, stepg_guardP rfl rfl rfl (by decide) rfl (pu_fieldAddr rfl underlying29 rfl sizeOf27 (by decide) (AEv.tmp rfl) rfl)⟩, ?_⟩
                      refine ⟨⟨[60, 61], rfl, stepg_guard rfl rfl rfl (by decide) rfl (op_load1 (i := 0) rfl isAgg27 (AEv.tmp rfl) rfl rfl ⟨rfl, rfl⟩)⟩, ?_⟩
                      refine ⟨⟨[60, 62], rfl, stepg_guardP rfl rfl rfl (by decide) rfl (pu_int (v := .bool (decide (r54.1.Dead = 0))) rfl rfl (AEv.tmp rfl) (AEv.int _ _) rfl)⟩, ?_⟩
                      refine ⟨⟨[49, 60, 63], rfl, stepg_guardP rfl rfl rfl (by decide) rfl (pu_pick (b := true) rfl (AEv.tmp rfl) (fun _ => (AEv.tmp rfl)) (fun h => nomatch h))⟩, ?_⟩
                      refine ⟨⟨[49, 51, 64], rfl, stepg_guardP rfl rfl rfl (by decide) rfl (pu_boolEq rfl underlying4 (AEv.tmp rfl) (AEv.tmp rfl))⟩, ?_⟩
                      refine ⟨⟨[49, 65], rfl, stepg_pure rfl (pu_pick (b := true) rfl (AEv.tmp rfl) (fun _ => (AEv.tmp rfl)) (fun h => nomatch h))⟩, ?_⟩
                      refine ⟨⟨[66], rfl, (stepg_pure rfl (pu_move rfl (AEv.tmp rfl))).cast (congrArg AV.bool hb88)⟩, ?_⟩
                      refine ⟨⟨[67], rfl, stepg_pass rfl rfl rfl (by decide) rfl (by decide)⟩, ?_⟩
                      refine ⟨⟨[67, 68], rfl, stepg_pure rfl (pu_pick (b := false) rfl (AEv.tmp rfl) (fun h => nomatch h) (fun _ => (AEv.bool _)))⟩, ?_⟩
                      refine ⟨⟨[69], rfl, stepg_pure rfl (pu_assign rfl (AEv.tmp rfl))⟩, ?_⟩
                      trivial
                    obtain rfl := some_of h
                    exact ⟨(), Weak.mkL [] (by decide) trivial ⟨AEv.tmp rfl, trivial⟩⟩
                · replace h := ite_f (dec_f hb87) h
                  rcases Bool.eq_false_or_eq_true (r85 == false) with hb90 | hb90
                  · replace h := ite_t hb90 h
                    obtain ⟨r91, r91e, h⟩ := bind_some h
                    refine aw_plan (by decide +kernel) [([], some 28, [5]), ([], some 29, [8]), ([0, 1], some 30, [28, 29]), ([2, 2], some 31, [30]), ([3], some 32, [6, 31]), ([3], some 33, [9, 31]), ([4, 5, 3, 3], some 34, [32, 33, 31]), ([3, 6], some 35, [31, 34]), ([7, 6], some 36, [35]), ([8], some 37, [7, 36]), ([8], some 38, [8, 36]), ([10, 8], some 39, [38, 36]), ([9, 11, 8], some 40, [37, 39, 36]), ([8, 12], some 41, [36, 40]), ([13, 8], some 42, [41]), ([14], some 43, [3, 42]), ([15, 14, 14], some 44, [43, 42]), ([14], some 45, [3, 42]), ([17, 16, 14], some 46, [45, 42]), ([16, 18, 14], some 47, [44, 46, 42]), ([14, 19], some 48, [42, 47]), ([20, 18], some 49, [48]), ([21], some 50, [5, 49]), ([22, 21, 21], some 51, [50, 49]), ([21], some 52, [8, 49]), ([24, 21], some 53, [52, 49]), ([25, 21], some 54, [53, 49]), ([26, 23, 21], some 55, [54, 49]), ([27], some 56, [8, 55]), ([28, 27], some 57, [56, 55]), ([29, 27], some 58, [57, 55]), ([27, 30, 21], some 59, [55, 58, 49]), ([31, 27, 21], some 60, [59, 49]), ([32], some 61, [8, 60]), ([33, 32], some 62, [61, 60]), ([34, 32], some 63, [62, 60]), ([32, 35, 21], some 64, [60, 63, 49]), ([23, 36, 21], some 65, [51, 64, 49]), ([21, 37], some 66, [49, 65]), ([38, 32], some 67, [66]), ([39, 39], some 68, [67]), ([39, 40], some 69, [67, 68]), ([41, 40, 0, 1, 2, 3, 4, 5, 6, 7, 8, 9, 10, 11, 12, 13, 14, 15, 16, 17, 18, 19, 20, 21, 22, 23, 24, 25, 26, 27, 28, 29, 30, 31, 32, 33, 34, 35, 36, 37, 38, 39, 40, 41], some 4, [69])] rfl [[], [], [0, 1], [0, 1, 2], [0, 1, 2, 3], [0, 1, 2, 3], [0, 1, 2, 3, 4, 5], [0, 1, 2, 3, 4, 5, 6], [0, 1, 2, 3, 4, 5, 6, 7], [0, 1, 2, 3, 4, 5, 6, 7, 8], [0, 1, 2, 3, 4, 5, 6, 7, 8], [0, 1, 2, 3, 4, 5, 6, 7, 8, 10], [0, 1, 2, 3, 4, 5, 6, 7, 8, 9, 10, 11], [0, 1, 2, 3, 4, 5, 6, 7, 8, 9, 10, 11, 12], [0, 1, 2, 3, 4, 5, 6, 7, 8, 9, 10, 11, 12, 13], [0, 1, 2, 3, 4, 5, 6, 7, 8, 9, 10, 11, 12, 13, 14], [0, 1, 2, 3, 4, 5, 6, 7, 8, 9, 10, 11, 12, 13, 14, 15], [0, 1, 2, 3, 4, 5, 6, 7, 8, 9, 10, 11, 12, 13, 14], [0, 1, 2, 3, 4, 5, 6, 7, 8, 9, 10, 11, 12, 13, 14, 15, 16, 17], [0, 1, 2, 3, 4, 5, 6, 7, 8, 9, 10, 11, 12, 13, 14, 15, 16, 17, 18], [0, 1, 2, 3, 4, 5, 6, 7, 8, 9, 10, 11, 12, 13, 14, 15, 16, 17, 18, 19], [0, 1, 2, 3, 4, 5, 6, 7, 8, 9, 10, 11, 12, 13, 14, 15, 16, 17, 18, 19, 20], [0, 1, 2, 3, 4, 5, 6, 7, 8, 9, 10, 11, 12, 13, 14, 15, 16, 17, 18, 19, 20, 21], [0, 1, 2, 3, 4, 5, 6, 7, 8, 9, 10, 11, 12, 13, 14, 15, 16, 17, 18, 19, 20, 21, 22], [0, 1, 2, 3, 4, 5, 6, 7, 8, 9, 10, 11, 12, 13, 14, 15, 16, 17, 18, 19, 20, 21], [0, 1, 2, 3, 4, 5, 6, 7, 8, 9, 10, 11, 12, 13, 14, 15, 16, 17, 18, 19, 20, 21, 24], [0, 1, 2, 3, 4, 5, 6, 7, 8, 9, 10, 11, 12, 13, 14, 15, 16, 17, 18, 19, 20, 21, 24, 25], [0, 1, 2, 3, 4, 5, 6, 7, 8, 9, 10, 11, 12, 13, 14, 15, 16, 17, 18, 19, 20, 21, 22, 23, 24, 25, 26], [0, 1, 2, 3, 4, 5, 6, 7, 8, 9, 10, 11, 12, 13, 14, 15, 16, 17, 18, 19, 20, 21, 22, 23, 24, 25, 26, 27], [0, 1, 2, 3, 4, 5, 6, 7, 8, 9, 10, 11, 12, 13, 14, 15, 16, 17, 18, 19, 20, 21, 22, 23, 24, 25, 26, 27, 28], [0, 1, 2, 3, 4, 5, 6, 7, 8, 9, 10, 11, 12, 13, 14, 15, 16, 17, 18, 19, 20, 21, 22, 23, 24, 25, 26, 27, 28, 29], [0, 1, 2, 3, 4, 5, 6, 7, 8, 9, 10, 11, 12, 13, 14, 15, 16, 17, 18, 19, 20, 21, 22, 23, 24, 25, 26, 27, 28, 29, 30], [0, 1, 2, 3, 4, 5, 6, 7, 8, 9, 10, 11, 12, 13, 14, 15, 16, 17, 18, 19, 20, 21, 22, 23, 24, 25, 26, 27, 28, 29, 30, 31], [0, 1, 2, 3, 4, 5, 6, 7, 8, 9, 10, 11, 12, 13, 14, 15, 16, 17, 18, 19, 20, 21, 22, 23, 24, 25, 26, 27, 28, 29, 30, 31, 32], [0, 1, 2, 3, 4, 5, 6, 7, 8, 9, 10, 11, 12, 13, 14, 15, 16, 17, 18, 19, 20, 21, 22, 23, 24, 25, 26, 27, 28, 29, 30, 31, 32, 33], [0, 1, 2, 3, 4, 5, 6, 7, 8, 9, 10, 11, 12, 13, 14, 15, 16, 17, 18, 19, 20, 21, 22, 23, 24, 25, 26, 27, 28, 29, 30, 31, 32, 33, 34], [0, 1, 2, 3, 4, 5, 6, 7, 8, 9, 10, 11, 12, 13, 14, 15, 16, 17, 18, 19, 20, 21, 22, 23, 24, 25, 26, 27, 28, 29, 30, 31, 32, 33, 34, 35], [0, 1, 2, 3, 4, 5, 6, 7, 8, 9, 10, 11, 12, 13, 14, 15, 16, 17, 18, 19, 20, 21, 22, 23, 24, 25, 26, 27, 28, 29, 30, 31, 32, 33, 34, 35, 36], [0, 1, 2, 3, 4, 5, 6, 7, 8, 9, 10, 11, 12, 13, 14, 15, 16, 17, 18, 19, 20, 21, 22, 23, 24, 25, 26, 27, 28, 29, 30, 31, 32, 33, 34, 35, 36, 37], [0, 1, 2, 3, 4, 5, 6, 7, 8, 9, 10, 11, 12, 13, 14, 15, 16, 17, 18, 19, 20, 21, 22, 23, 24, 25, 26, 27, 28, 29, 30, 31, 32, 33, 34, 35, 36, 37, 38], [0, 1, 2, 3, 4, 5, 6, 7, 8, 9, 10, 11, 12, 13, 14, 15, 16, 17, 18, 19, 20, 21, 22, 23, 24, 25, 26, 27, 28, 29, 30, 31, 32, 33, 34, 35, 36, 37, 38, 39], [0, 1, 2, 3, 4, 5, 6, 7, 8, 9, 10, 11, 12, 13, 14, 15, 16, 17, 18, 19, 20, 21, 22, 23, 24, 25, 26, 27, 28, 29, 30, 31, 32, 33, 34, 35, 36, 37, 38, 39, 40], [0, 1, 2, 3, 4, 5, 6, 7, 8, 9, 10, 11, 12, 13, 14, 15, 16, 17, 18, 19, 20, 21, 22, 23, 24, 25, 26, 27, 28, 29, 30, 31, 32, 33, 34, 35, 36, 37, 38, 39, 40, 41]] [[(2, 0, false)], [(0, 0, false)], [], [], [], [], [], [], [], [], [], [(0, 0, false)], [], [], [], [(4, 0, false)], [], [(4, 0, false)], [], [], [], [], [(2, 0, false)], [], [], [(0, 0, false)], [], [], [], [(0, 0, false)], [], [], [], [], [], [], [], [], [], [], [], [], []] [[], [], [], [], []] [[[(p56, .cells (api.Input.ct .no r54.1))]], [[(t55, .spare)]], [[(p53, .cells (api.Input.ct .no r51.1))]], [[(t52, .spare)]], [[(p48, .cells [.int .i64 l.Args, .int .i64 l.Bulk, .int .i64 l.Line])]]] [.agg (api.Input.ct .no r51.1), .agg (api.Input.ct .no r54.1), .bool r77, .bool true, .sl (.own t52) 2 (r51.2.1.map api.Request.av), .sl (.own t55) 2 (r54.2.map api.Request.av), .bool r79, .bool r79, .bool true, .int .i64 r51.2.2, .ptr p56 6, .int .i64 r54.1.Dead, .bool (decide (r51.2.2 = r54.1.Dead)), .bool (decide (r51.2.2 = r54.1.Dead)), .bool true, .agg [.int .i64 l.Args, .int .i64 l.Bulk, .int .i64 l.Line], .agg [.int .i64 r82.Args, .int .i64 r82.Bulk, .int .i64 r82.Line], .agg [.int .i64 l.Args, .int .i64 l.Bulk, .int .i64 l.Line], .agg [.int .i64 r83.Args, .int .i64 r83.Bulk, .int .i64 r83.Line], .bool (decide (r82 = r83)), .bool (decide (r82 = r83)), .bool true, .agg (api.Input.ct .no r51.1), .bool r85, .ptr p56 0, .str r54.1.Rest, .bool (decide (r54.1.Rest = ([] : List UInt8))), .bool true, .ptr p56 3, .int .i64 r54.1.Size, .bool (decide (r54.1.Size = 0)), .bool (decide (r54.1.Size = 0)), .bool false, .lit undef, .lit undef, .lit undef, .bool false, .bool (r85 == false), .bool (r85 == false), .bool true, .bool r91, .bool r91, .bool r91] (by decide +kernel) rfl rfl ?_ ?_
                    · refine ⟨⟨[5], rfl, stepg_plain rfl (op_loadN (i := 0) rfl isAgg29 sizeOf29 (AEv.tmp rfl) rfl (Nat.le_of_ble_eq_true rfl) rfl ⟨rfl, rfl⟩)⟩, ?_⟩
                      refine ⟨⟨[8], rfl, stepg_plain rfl (op_loadN (i := 0) rfl isAgg29 sizeOf29 (AEv.tmp rfl) rfl (Nat.le_of_ble_eq_true rfl) rfl ⟨rfl, rfl⟩)⟩, ?_⟩
                      refine ⟨⟨[28, 29], rfl, stepg_plain rfl (op_call (vs := [.agg (api.Input.ct .no r51.1), .agg (api.Input.ct .no r54.1)]) (H := []) rfl call17 ⟨(AEv.tmp rfl), (AEv.tmp rfl), trivial⟩ (R := []) (List.Perm.refl _) (mewsref05.SameInput.ok r77e) (by rintro _ _ ⟨rfl, rfl⟩; exact ⟨rfl, rfl⟩))⟩, ?_⟩
                      refine ⟨⟨[30], rfl, (stepg_pure rfl (pu_move rfl (AEv.tmp rfl))).cast (congrArg AV.bool hb78)⟩, ?_⟩
                      refine ⟨⟨[6, 31], rfl, stepg_guardP rfl rfl rfl (by decide) rfl (pu_move rfl (AEv.tmp rfl))⟩, ?_⟩
                      refine ⟨⟨[9, 31], rfl, stepg_guardP rfl rfl rfl (by decide) rfl (pu_move rfl (AEv.tmp rfl))⟩, ?_⟩
                      refine ⟨⟨[31, 32, 33], rfl, stepg_guard rfl rfl rfl (by decide) rfl (op_call (vs := [.sl .no 2 (r51.2.1.map api.Request.av), .sl .no 2 (r54.2.map api.Request.av)]) (H := []) rfl call18 ⟨(AEv.le (AEv.tmp rfl) (AV.Le.forget _ _ _)), (AEv.le (AEv.tmp rfl) (AV.Le.forget _ _ _)), trivial⟩ (R := []) (List.Perm.refl _) (mewsref05.Same.ok r79e) (by rintro _ _ ⟨rfl, rfl⟩; exact ⟨rfl, rfl⟩))⟩, ?_⟩
                      refine ⟨⟨[31, 34], rfl, stepg_pure rfl (pu_pick (b := true) rfl (AEv.tmp rfl) (fun _ => (AEv.tmp rfl)) (fun h => nomatch h))⟩, ?_⟩
                      refine ⟨⟨[35], rfl, (stepg_pure rfl (pu_move rfl (AEv.tmp rfl))).cast (congrArg AV.bool hb80)⟩, ?_⟩
                      refine ⟨⟨[7, 36], rfl, stepg_guardP rfl rfl rfl (by decide) rfl (pu_move rfl (AEv.tmp rfl))⟩, ?_⟩
                      refine ⟨⟨[8, 36], rfl, stepg_guardP rfl rfl rfl (by decide) rfl (pu_fieldAddr rfl underlying29 rfl sizeOf27 (by decide) (AEv.tmp rfl) rfl)⟩, ?_⟩
                      refine ⟨⟨[36, 38], rfl, stepg_guard rfl rfl rfl (by decide) rfl (op_load1 (i := 0) rfl isAgg27 (AEv.tmp rfl) rfl rfl ⟨rfl, rfl⟩)⟩, ?_⟩
                      refine ⟨⟨[36, 37, 39], rfl, stepg_guardP rfl rfl rfl (by decide) rfl (pu_int (v := .bool (decide (r51.2.2 = r54.1.Dead))) rfl rfl (AEv.tmp rfl) (AEv.tmp rfl) rfl)⟩, ?_⟩
                      refine ⟨⟨[36, 40], rfl, stepg_pure rfl (pu_pick (b := true) rfl (AEv.tmp rfl) (fun _ => (AEv.tmp rfl)) (fun h => nomatch h))⟩, ?_⟩
                      refine ⟨⟨[41], rfl, (stepg_pure rfl (pu_move rfl (AEv.tmp rfl))).cast (congrArg AV.bool hb81)⟩, ?_⟩
                      refine ⟨⟨[3, 42], rfl, stepg_guard rfl rfl rfl (by decide) rfl (op_loadN (i := 0) rfl isAgg23 sizeOf23 (AEv.tmp rfl) rfl (Nat.le_of_ble_eq_true rfl) rfl ⟨rfl, rfl⟩)⟩, ?_⟩
                      refine ⟨⟨[42, 43], rfl, stepg_guard rfl rfl rfl (by decide) rfl (op_call (vs := [.agg [.int .i64 l.Args, .int .i64 l.Bulk, .int .i64 l.Line]]) (H := []) rfl call19 ⟨(AEv.tmp rfl), trivial⟩ (R := []) (List.Perm.refl _) (parse.Limits.ok r82e) (by rintro _ _ ⟨rfl, rfl⟩; exact ⟨rfl, rfl⟩))⟩, ?_⟩
                      refine ⟨⟨[3, 42], rfl, stepg_guard rfl rfl rfl (by decide) rfl (op_loadN (i := 0) rfl isAgg23 sizeOf23 (AEv.tmp rfl) rfl (Nat.le_of_ble_eq_true rfl) rfl ⟨rfl, rfl⟩)⟩, ?_⟩
                      refine ⟨⟨[42, 45], rfl, stepg_guard rfl rfl rfl (by decide) rfl (op_call (vs := [.agg [.int .i64 l.Args, .int .i64 l.Bulk, .int .i64 l.Line]]) (H := []) rfl call20 ⟨(AEv.tmp rfl), trivial⟩ (R := []) (List.Perm.refl _) (mewsref05.Limits.ok r83e) (by rintro _ _ ⟨rfl, rfl⟩; exact ⟨rfl, rfl⟩))⟩, ?_⟩
                      refine ⟨⟨[42, 44, 46], rfl, stepg_guardP rfl rfl rfl (by decide) rfl (APure.eq (pu_structEq (b := (decide (r82.Args = r83.Args) && (decide (r82.Bulk = r83.Bulk) && (decide (r82.Line = r83.Line) && true)))) rfl underlying23 (by kernel_rfl) (by kernel_rfl) (AEv.tmp rfl) (AEv.tmp rfl) ⟨_, _, _, _, ⟨by decide, isAgg3, rfl, rfl, CEq.int underlying3⟩, ⟨_, _, _, _, ⟨by decide, isAgg3, rfl, rfl, CEq.int underlying3⟩, ⟨_, _, _, _, ⟨by decide, isAgg3, rfl, rfl, CEq.int underlying3⟩, rfl, rfl⟩, rfl⟩, rfl⟩) (congrArg AV.bool (api.Limits.eq_iff r82 r83).symm))⟩, ?_⟩
                      refine ⟨⟨[42, 47], rfl, stepg_pure rfl (pu_pick (b := true) rfl (AEv.tmp rfl) (fun _ => (AEv.tmp rfl)) (fun h => nomatch h))⟩, ?_⟩
                      refine ⟨⟨[48], rfl, (stepg_pure rfl (pu_move rfl (AEv.tmp rfl))).cast (congrArg AV.bool hb84)⟩, ?_⟩
                      refine ⟨⟨[5, 49], rfl, stepg_guard rfl rfl rfl (by decide) rfl (op_loadN (i := 0) rfl isAgg29 sizeOf29 (AEv.tmp rfl) rfl (Nat.le_of_ble_eq_true rfl) rfl ⟨rfl, rfl⟩)⟩, ?_⟩
                      refine ⟨⟨[49, 50], rfl, stepg_guard rfl rfl rfl (by decide) rfl (op_call (vs := [.agg (api.Input.ct .no r51.1)]) (H := []) rfl call21 ⟨(AEv.tmp rfl), trivial⟩ (R := []) (List.Perm.refl _) (parse.Idle.ok r85e) (by rintro _ _ ⟨rfl, rfl⟩; exact ⟨rfl, rfl⟩))⟩, ?_⟩
                      refine ⟨⟨[8, 49], rfl, stepg_guardP rfl rfl rfl (by decide) rfl (pu_fieldAddr rfl underlying29 rfl sizeOf9 (by decide) (AEv.tmp rfl) rfl)⟩, ?_⟩
                      refine ⟨⟨[49, 52], rfl, stepg_guard rfl rfl rfl (by decide) rfl (op_load1 (i := 0) rfl isAgg9 (AEv.tmp rfl) rfl rfl ⟨rfl, rfl⟩)⟩, ?_⟩
                      refine ⟨⟨[49, 53], rfl, stepg_guardP rfl rfl rfl (by decide) rfl (pu_str (v := .bool (decide (r54.1.Rest = ([] : List UInt8)))) rfl rfl (AEv.tmp rfl) (AEv.const rfl) rfl)⟩, ?_⟩
                      refine ⟨⟨[49, 54], rfl, (stepg_guardP rfl rfl rfl (by decide) rfl (pu_move rfl (AEv.tmp rfl))).cast (congrArg AV.bool hb86)⟩, ?_⟩
                      refine ⟨⟨[8, 55], rfl, stepg_guardP rfl rfl rfl (by decide) rfl (pu_fieldAddr rfl underlying29 rfl sizeOf3 (by decide) (AEv.tmp rfl) rfl)⟩, ?_⟩
                      refine ⟨⟨[55, 56], rfl, stepg_guard rfl rfl rfl (by decide) rfl (op_load1 (i := 0) rfl isAgg3 (AEv.tmp rfl) rfl rfl ⟨rfl, rfl⟩)⟩, ?_⟩
                      refine ⟨⟨[55, 57], rfl, stepg_guardP rfl rfl rfl (by decide) rfl (pu_int (v := .bool (decide (r54.1.Size = 0))) rfl rfl (AEv.tmp rfl) (AEv.int _ _) rfl)⟩, ?_⟩
                      refine ⟨⟨[49, 55, 58], rfl, stepg_guardP rfl rfl rfl (by decide) rfl (pu_pick (b := true) rfl (AEv.tmp rfl) (fun _ => (AEv.tmp rfl)) (fun h => nomatch h))⟩, ?_⟩
                      refine ⟨⟨[49, 59], rfl, (stepg_guardP rfl rfl rfl (by decide) rfl (pu_move rfl (AEv.tmp rfl))).cast (congrArg AV.bool hb87)⟩, ?_⟩
                      refine ⟨⟨[8, 60], rfl, stepg_pass rfl rfl rfl (by decide) rfl (by decide)⟩, ?_⟩
                      refine ⟨⟨[60, 61], rfl, stepg_pass rfl rfl rfl (by decide) rfl (by decide)⟩, ?_⟩
                      refine ⟨⟨[60, 62], rfl, stepg_pass rfl rfl rfl (by decide) rfl (by decide)⟩, ?_⟩
                      refine ⟨⟨[49, 60, 63], rfl, stepg_guardP rfl rfl rfl (by decide) rfl (pu_pick (b := false) rfl (AEv.tmp rfl) (fun h => nomatch h) (fun _ => (AEv.bool _)))⟩, ?_⟩
                      refine ⟨⟨[49, 51, 64], rfl, stepg_guardP rfl rfl rfl (by decide) rfl (pu_boolEq rfl underlying4 (AEv.tmp rfl) (AEv.tmp rfl))⟩, ?_⟩
                      refine ⟨⟨[49, 65], rfl, stepg_pure rfl (pu_pick (b := true) rfl (AEv.tmp rfl) (fun _ => (AEv.tmp rfl)) (fun h => nomatch h))⟩, ?_⟩
                      refine ⟨⟨[66], rfl, (stepg_pure rfl (pu_move rfl (AEv.tmp rfl))).cast (congrArg AV.bool hb90)⟩, ?_⟩
                      refine ⟨⟨[67], rfl, stepg_guard rfl rfl rfl (by decide) rfl (op_call (vs := []) (H := []) rfl call14 trivial (R := []) (List.Perm.refl _) (mewslaw05.alive.ok r91e) (by rintro _ _ ⟨rfl, rfl⟩; exact ⟨rfl, rfl⟩))⟩, ?_⟩
                      refine ⟨⟨[67, 68], rfl, stepg_pure rfl (pu_pick (b := true) rfl (AEv.tmp rfl) (fun _ => (AEv.tmp rfl)) (fun h => nomatch h))⟩, ?_⟩
                      refine ⟨⟨[69], rfl, stepg_pure rfl (pu_assign rfl (AEv.tmp rfl))⟩, ?_⟩
                      trivial
                    obtain rfl := some_of h
                    exact ⟨(), Weak.mkL [] (by decide) trivial ⟨AEv.tmp rfl, trivial⟩⟩
                  · replace h := ite_fb hb90 h
                    refine aw_plan (by decide +kernel) [([], some 28, [5]), ([], some 29, [8]), ([0, 1], some 30, [28, 29]), ([2, 2], some 31, [30]), ([3], some 32, [6, 31]), ([3], some 33, [9, 31]), ([4, 5, 3, 3], some 34, [32, 33, 31]), ([3, 6], some 35, [31, 34]), ([7, 6], some 36, [35]), ([8], some 37, [7, 36]), ([8], some 38, [8, 36]), ([10, 8], some 39, [38, 36]), ([9, 11, 8], some 40, [37, 39, 36]), ([8, 12], some 41, [36, 40]), ([13, 8], some 42, [41]), ([14], some 43, [3, 42]), ([15, 14, 14], some 44, [43, 42]), ([14], some 45, [3, 42]), ([17, 16, 14], some 46, [45, 42]), ([16, 18, 14], some 47, [44, 46, 42]), ([14, 19], some 48, [42, 47]), ([20, 18], some 49, [48]), ([21], some 50, [5, 49]), ([22, 21, 21], some 51, [50, 49]), ([21], some 52, [8, 49]), ([24, 21], some 53, [52, 49]), ([25, 21], some 54, [53, 49]), ([26, 23, 21], some 55, [54, 49]), ([27], some 56, [8, 55]), ([28, 27], some 57, [56, 55]), ([29, 27], some 58, [57, 55]), ([27, 30, 21], some 59, [55, 58, 49]), ([31, 27, 21], some 60, [59, 49]), ([32], some 61, [8, 60]), ([33, 32], some 62, [61, 60]), ([34, 32], some 63, [62, 60]), ([32, 35, 21], some 64, [60, 63, 49]), ([23, 36, 21], some 65, [51, 64, 49]), ([21, 37], some 66, [49, 65]), ([38, 32], some 67, [66]), ([39, 39], some 68, [67]), ([39, 40], some 69, [67, 68]), ([41, 40, 0, 1, 2, 3, 4, 5, 6, 7, 8, 9, 10, 11, 12, 13, 14, 15, 16, 17, 18, 19, 20, 21, 22, 23, 24, 25, 26, 27, 28, 29, 30, 31, 32, 33, 34, 35, 36, 37, 38, 39, 40, 41], some 4, [69])] rfl [[], [], [0, 1], [0, 1, 2], [0, 1, 2, 3], [0, 1, 2, 3], [0, 1, 2, 3, 4, 5], [0, 1, 2, 3, 4, 5, 6], [0, 1, 2, 3, 4, 5, 6, 7], [0, 1, 2, 3, 4, 5, 6, 7, 8], [0, 1, 2, 3, 4, 5, 6, 7, 8], [0, 1, 2, 3, 4, 5, 6, 7, 8, 10], [0, 1, 2, 3, 4, 5, 6, 7, 8, 9, 10, 11], [0, 1, 2, 3, 4, 5, 6, 7, 8, 9, 10, 11, 12], [0, 1, 2, 3, 4, 5, 6, 7, 8, 9, 10, 11, 12, 13], [0, 1, 2, 3, 4, 5, 6, 7, 8, 9, 10, 11, 12, 13, 14], [0, 1, 2, 3, 4, 5, 6, 7, 8, 9, 10, 11, 12, 13, 14, 15], [0, 1, 2, 3, 4, 5, 6, 7, 8, 9, 10, 11, 12, 13, 14], [0, 1, 2, 3, 4, 5, 6, 7, 8, 9, 10, 11, 12, 13, 14, 15, 16, 17], [0, 1, 2, 3, 4, 5, 6, 7, 8, 9, 10, 11, 12, 13, 14, 15, 16, 17, 18], [0, 1, 2, 3, 4, 5, 6, 7, 8, 9, 10, 11, 12, 13, 14, 15, 16, 17, 18, 19], [0, 1, 2, 3, 4, 5, 6, 7, 8, 9, 10, 11, 12, 13, 14, 15, 16, 17, 18, 19, 20], [0, 1, 2, 3, 4, 5, 6, 7, 8, 9, 10, 11, 12, 13, 14, 15, 16, 17, 18, 19, 20, 21], [0, 1, 2, 3, 4, 5, 6, 7, 8, 9, 10, 11, 12, 13, 14, 15, 16, 17, 18, 19, 20, 21, 22], [0, 1, 2, 3, 4, 5, 6, 7, 8, 9, 10, 11, 12, 13, 14, 15, 16, 17, 18, 19, 20, 21], [0, 1, 2, 3, 4, 5, 6, 7, 8, 9, 10, 11, 12, 13, 14, 15, 16, 17, 18, 19, 20, 21, 24], [0, 1, 2, 3, 4, 5, 6, 7, 8, 9, 10, 11, 12, 13, 14, 15, 16, 17, 18, 19, 20, 21, 24, 25], [0, 1, 2, 3, 4, 5, 6, 7, 8, 9, 10, 11, 12, 13, 14, 15, 16, 17, 18, 19, 20, 21, 22, 23, 24, 25, 26], [0, 1, 2, 3, 4, 5, 6, 7, 8, 9, 10, 11, 12, 13, 14, 15, 16, 17, 18, 19, 20, 21, 22, 23, 24, 25, 26, 27], [0, 1, 2, 3, 4, 5, 6, 7, 8, 9, 10, 11, 12, 13, 14, 15, 16, 17, 18, 19, 20, 21, 22, 23, 24, 25, 26, 27, 28], [0, 1, 2, 3, 4, 5, 6, 7, 8, 9, 10, 11, 12, 13, 14, 15, 16, 17, 18, 19, 20, 21, 22, 23, 24, 25, 26, 27, 28, 29], [0, 1, 2, 3, 4, 5, 6, 7, 8, 9, 10, 11, 12, 13, 14, 15, 16, 17, 18, 19, 20, 21, 22, 23, 24, 25, 26, 27, 28, 29, 30], [0, 1, 2, 3, 4, 5, 6, 7, 8, 9, 10, 11, 12, 13, 14, 15, 16, 17, 18, 19, 20, 21, 22, 23, 24, 25, 26, 27, 28, 29, 30, 31], [0, 1, 2, 3, 4, 5, 6, 7, 8, 9, 10, 11, 12, 13, 14, 15, 16, 17, 18, 19, 20, 21, 22, 23, 24, 25, 26, 27, 28, 29, 30, 31, 32], [0, 1, 2, 3, 4, 5, 6, 7, 8, 9, 10, 11, 12, 13, 14, 15, 16, 17, 18, 19, 20, 21, 22, 23, 24, 25, 26, 27, 28, 29, 30, 31, 32, 33], [0, 1, 2, 3, 4, 5, 6, 7, 8, 9, 10, 11, 12, 13, 14, 15, 16, 17, 18, 19, 20, 21, 22, 23, 24, 25, 26, 27, 28, 29, 30, 31, 32, 33, 34], [0, 1, 2, 3, 4, 5, 6, 7, 8, 9, 10, 11, 12, 13, 14, 15, 16, 17, 18, 19, 20, 21, 22, 23, 24, 25, 26, 27, 28, 29, 30, 31, 32, 33, 34, 35], [0, 1, 2, 3, 4, 5, 6, 7, 8, 9, 10, 11, 12, 13, 14, 15, 16, 17, 18, 19, 20, 21, 22, 23, 24, 25, 26, 27, 28, 29, 30, 31, 32, 33, 34, 35, 36], [0, 1, 2, 3, 4, 5, 6, 7, 8, 9, 10, 11, 12, 13, 14, 15, 16, 17, 18, 19, 20, 21, 22, 23, 24, 25, 26, 27, 28, 29, 30, 31, 32, 33, 34, 35, 36, 37], [0, 1, 2, 3, 4, 5, 6, 7, 8, 9, 10, 11, 12, 13, 14, 15, 16, 17, 18, 19, 20, 21, 22, 23, 24, 25, 26, 27, 28, 29, 30, 31, 32, 33, 34, 35, 36, 37, 38], [0, 1, 2, 3, 4, 5, 6, 7, 8, 9, 10, 11, 12, 13, 14, 15, 16, 17, 18, 19, 20, 21, 22, 23, 24, 25, 26, 27, 28, 29, 30, 31, 32, 33, 34, 35, 36, 37, 38, 39], [0, 1, 2, 3, 4, 5, 6, 7, 8, 9, 10, 11, 12, 13, 14, 15, 16, 17, 18, 19, 20, 21, 22, 23, 24, 25, 26, 27, 28, 29, 30, 31, 32, 33, 34, 35, 36, 37, 38, 39, 40], [0, 1, 2, 3, 4, 5, 6, 7, 8, 9, 10, 11, 12, 13, 14, 15, 16, 17, 18, 19, 20, 21, 22, 23, 24, 25, 26, 27, 28, 29, 30, 31, 32, 33, 34, 35, 36, 37, 38, 39, 40, 41]] [[(2, 0, false)], [(0, 0, false)], [], [], [], [], [], [], [], [], [], [(0, 0, false)], [], [], [], [(4, 0, false)], [], [(4, 0, false)], [], [], [], [], [(2, 0, false)], [], [], [(0, 0, false)], [], [], [], [(0, 0, false)], [], [], [], [], [], [], [], [], [], [], [], [], []] [[], [], [], [], []] [[[(p56, .cells (api.Input.ct .no r54.1))]], [[(t55, .spare)]], [[(p53, .cells (api.Input.ct .no r51.1))]], [[(t52, .spare)]], [[(p48, .cells [.int .i64 l.Args, .int .i64 l.Bulk, .int .i64 l.Line])]]] [.agg (api.Input.ct .no r51.1), .agg (api.Input.ct .no r54.1), .bool r77, .bool true, .sl (.own t52) 2 (r51.2.1.map api.Request.av), .sl (.own t55) 2 (r54.2.map api.Request.av), .bool r79, .bool r79, .bool true, .int .i64 r51.2.2, .ptr p56 6, .int .i64 r54.1.Dead, .bool (decide (r51.2.2 = r54.1.Dead)), .bool (decide (r51.2.2 = r54.1.Dead)), .bool true, .agg [.int .i64 l.Args, .int .i64 l.Bulk, .int .i64 l.Line], .agg [.int .i64 r82.Args, .int .i64 r82.Bulk, .int .i64 r82.Line], .agg [.int .i64 l.Args, .int .i64 l.Bulk, .int .i64 l.Line], .agg [.int .i64 r83.Args, .int .i64 r83.Bulk, .int .i64 r83.Line], .bool (decide (r82 = r83)), .bool (decide (r82 = r83)), .bool true, .agg (api.Input.ct .no r51.1), .bool r85, .ptr p56 0, .str r54.1.Rest, .bool (decide (r54.1.Rest = ([] : List UInt8))), .bool true, .ptr p56 3, .int .i64 r54.1.Size, .bool (decide (r54.1.Size = 0)), .bool (decide (r54.1.Size = 0)), .bool false, .lit undef, .lit undef, .lit undef, .bool false, .bool (r85 == false), .bool (r85 == false), .bool false, .lit undef, .bool false, .bool false] (by decide +kernel) rfl rfl ?_ ?_
                    · refine ⟨⟨[5], rfl, stepg_plain rfl (op_loadN (i := 0) rfl isAgg29 sizeOf29 (AEv.tmp rfl) rfl (Nat.le_of_ble_eq_true rfl) rfl ⟨rfl, rfl⟩)⟩, ?_⟩
                      refine ⟨⟨[8], rfl, stepg_plain rfl (op_loadN (i := 0) rfl isAgg29 sizeOf29 (AEv.tmp rfl) rfl (Nat.le_of_ble_eq_true rfl) rfl ⟨rfl, rfl⟩)⟩, ?_⟩
                      refine ⟨⟨[28, 29], rfl, stepg_plain rfl (op_call (vs := [.agg (api.Input.ct .no r51.1), .agg (api.Input.ct .no r54.1)]) (H := []) rfl call17 ⟨(AEv.tmp rfl), (AEv.tmp rfl), trivial⟩ (R := []) (List.Perm.refl _) (mewsref05.SameInput.ok r77e) (by rintro _ _ ⟨rfl, rfl⟩; exact ⟨rfl, rfl⟩))⟩, ?_⟩
                      refine ⟨⟨[30], rfl, (stepg_pure rfl (pu_move rfl (AEv.tmp rfl))).cast (congrArg AV.bool hb78)⟩, ?_⟩
                      refine ⟨⟨[6, 31], rfl, stepg_guardP rfl rfl rfl (by decide) rfl (pu_move rfl (AEv.tmp rfl))⟩, ?_⟩
                      refine ⟨⟨[9, 31], rfl, stepg_guardP rfl rfl rfl (by decide) rfl (pu_move rfl (AEv.tmp rfl))⟩, ?_⟩
                      refine ⟨⟨[31, 32, 33], rfl, stepg_guard rfl rfl rfl (by decide) rfl (op_call (vs := [.sl .no 2 (r51.2.1.map api.Request.av), .sl .no 2 (r54.2.map api.Request.av)]) (H := []) rfl call18 ⟨(AEv.le (AEv.tmp rfl) (AV.Le.forget _ _ _)), (AEv.le (AEv.tmp rfl) (AV.Le.forget _ _ _)), trivial⟩ (R := []) (List.Perm.refl _) (mewsref05.Same.ok r79e) (by rintro _ _ ⟨rfl, rfl⟩; exact ⟨rfl, rfl⟩))⟩, ?_⟩
                      refine ⟨⟨[31, 34], rfl, stepg_pure rfl (pu_pick (b := true) rfl (AEv.tmp rfl) (fun _ => (AEv.tmp rfl)) (fun h => nomatch h))⟩, ?_⟩
                      refine ⟨⟨[35], rfl, (stepg_pure rfl (pu_move rfl (AEv.tmp rfl))).cast (congrArg AV.bool hb80)⟩, ?_⟩
                      refine ⟨⟨[7, 36], rfl, stepg_guardP rfl rfl rfl (by decide) rfl (pu_move rfl (AEv.tmp rfl))⟩, ?_⟩
                      refine ⟨⟨[8, 36], rfl, stepg_guardP rfl rfl rfl (by decide) rfl (pu_fieldAddr rfl underlying29 rfl sizeOf27 (by decide) (AEv.tmp rfl) rfl)⟩, ?_⟩
                      refine ⟨⟨[36, 38], rfl, stepg_guard rfl rfl rfl (by decide) rfl (op_load1 (i := 0) rfl isAgg27 (AEv.tmp rfl) rfl rfl ⟨rfl, rfl⟩)⟩, ?_⟩
                      refine ⟨⟨[36, 37, 39], rfl, stepg_guardP rfl rfl rfl (by decide) rfl (pu_int (v := .bool (decide (r51.2.2 = r54.1.Dead))) rfl rfl (AEv.tmp rfl) (AEv.tmp rfl) rfl)⟩, ?_⟩
                      refine ⟨⟨[36, 40], rfl, stepg_pure rfl (pu_pick (b := true) rfl (AEv.tmp rfl) (fun _ => (AEv.tmp rfl)) (fun h => nomatch h))⟩, ?_⟩
                      refine ⟨⟨[41], rfl, (stepg_pure rfl (pu_move rfl (AEv.tmp rfl))).cast (congrArg AV.bool hb81)⟩, ?_⟩
                      refine ⟨⟨[3, 42], rfl, stepg_guard rfl rfl rfl (by decide) rfl (op_loadN (i := 0) rfl isAgg23 sizeOf23 (AEv.tmp rfl) rfl (Nat.le_of_ble_eq_true rfl) rfl ⟨rfl, rfl⟩)⟩, ?_⟩
                      refine ⟨⟨[42, 43], rfl, stepg_guard rfl rfl rfl (by decide) rfl (op_call (vs := [.agg [.int .i64 l.Args, .int .i64 l.Bulk, .int .i64 l.Line]]) (H := []) rfl call19 ⟨(AEv.tmp rfl), trivial⟩ (R := []) (List.Perm.refl _) (parse.Limits.ok r82e) (by rintro _ _ ⟨rfl, rfl⟩; exact ⟨rfl, rfl⟩))⟩, ?_⟩
                      refine ⟨⟨[3, 42], rfl, stepg_guard rfl rfl rfl (by decide) rfl (op_loadN (i := 0) rfl isAgg23 sizeOf23 (AEv.tmp rfl) rfl (Nat.le_of_ble_eq_true rfl) rfl ⟨rfl, rfl⟩)⟩, ?_⟩
                      refine ⟨⟨[42, 45], rfl, stepg_guard rfl rfl rfl (by decide) rfl (op_call (vs := [.agg [.int .i64 l.Args, .int .i64 l.Bulk, .int .i64 l.Line]]) (H := []) rfl call20 ⟨(AEv.tmp rfl), trivial⟩ (R := []) (List.Perm.refl _) (mewsref05.Limits.ok r83e) (by rintro _ _ ⟨rfl, rfl⟩; exact ⟨rfl, rfl⟩))⟩, ?_⟩
                      refine ⟨⟨[42, 44, 46], rfl, stepg_guardP rfl rfl rfl (by decide) rfl (APure.eq (pu_structEq (b := (decide (r82.Args = r83.Args) && (decide (r82.Bulk = r83.Bulk) && (decide (r82.Line = r83.Line) && true)))) rfl underlying23 (by kernel_rfl) (by kernel_rfl) (AEv.tmp rfl) (AEv.tmp rfl) ⟨_, _, _, _, ⟨by decide, isAgg3, rfl, rfl, CEq.int underlying3⟩, ⟨_, _, _, _, ⟨by decide, isAgg3, rfl, rfl, CEq.int underlying3⟩, ⟨_, _, _, _, ⟨by decide, isAgg3, rfl, rfl, CEq.int underlying3⟩, rfl, rfl⟩, rfl⟩, rfl⟩) (congrArg AV.bool (api.Limits.eq_iff r82 r83).symm))⟩, ?_⟩
                      refine ⟨⟨[42, 47], rfl, stepg_pure rfl (pu_pick (b := true) rfl (AEv.tmp rfl) (fun _ => (AEv.tmp rfl)) (fun h => nomatch h))⟩, ?_⟩
                      refine ⟨⟨[48], rfl, (stepg_pure rfl (pu_move rfl (AEv.tmp rfl))).cast (congrArg AV.bool hb84)⟩, ?_⟩
                      refine ⟨⟨[5, 49], rfl, stepg_guard rfl rfl rfl (by decide) rfl (op_loadN (i := 0) rfl isAgg29 sizeOf29 (AEv.tmp rfl) rfl (Nat.le_of_ble_eq_true rfl) rfl ⟨rfl, rfl⟩)⟩, ?_⟩
                      refine ⟨⟨[49, 50], rfl, stepg_guard rfl rfl rfl (by decide) rfl (op_call (vs := [.agg (api.Input.ct .no r51.1)]) (H := []) rfl call21 ⟨(AEv.tmp rfl), trivial⟩ (R := []) (List.Perm.refl _) (parse.Idle.ok r85e) (by rintro _ _ ⟨rfl, rfl⟩; exact ⟨rfl, rfl⟩))⟩, ?_⟩
                      refine ⟨⟨[8, 49], rfl, stepg_guardP rfl rfl rfl (by decide) rfl (pu_fieldAddr rfl underlying29 rfl sizeOf9 (by decide) (AEv.tmp rfl) rfl)⟩, ?_⟩
                      refine ⟨⟨[49, 52], rfl, stepg_guard rfl rfl rfl (by decide) rfl (op_load1 (i := 0) rfl isAgg9 (AEv.tmp rfl) rfl rfl ⟨rfl, rfl⟩)⟩, ?_⟩
                      refine ⟨⟨[49, 53], rfl, stepg_guardP rfl rfl rfl (by decide) rfl (pu_str (v := .bool (decide (r54.1.Rest = ([] : List UInt8)))) rfl rfl (AEv.tmp rfl) (AEv.const rfl) rfl)⟩, ?_⟩
                      refine ⟨⟨[49, 54], rfl, (stepg_guardP rfl rfl rfl (by decide) rfl (pu_move rfl (AEv.tmp rfl))).cast (congrArg AV.bool hb86)⟩, ?_⟩
                      refine ⟨⟨[8, 55], rfl, stepg_guardP rfl rfl rfl (by decide) rfl (pu_fieldAddr rfl underlying29 rfl sizeOf3 (by decide) (AEv.tmp rfl) rfl)⟩, ?_⟩
                      refine ⟨⟨[55, 56], rfl, stepg_guard rfl rfl rfl (by decide) rfl (op_load1 (i := 0) rfl isAgg3 (AEv.tmp rfl) rfl rfl ⟨rfl, rfl⟩)⟩, ?_⟩
                      refine ⟨⟨[55, 57], rfl, stepg_guardP rfl rfl rfl (by decide) rfl (pu_int (v := .bool (decide (r54.1.Size = 0))) rfl rfl (AEv.tmp rfl) (AEv.int _ _) rfl)⟩, ?_⟩
                      refine ⟨⟨[49, 55, 58], rfl, stepg_guardP rfl rfl rfl (by decide) rfl (pu_pick (b := true) rfl (AEv.tmp rfl) (fun _ => (AEv.tmp rfl)) (fun h => nomatch h))⟩, ?_⟩
                      refine ⟨⟨[49, 59], rfl, (stepg_guardP rfl rfl rfl (by decide) rfl (pu_move rfl (AEv.tmp rfl))).cast (congrArg AV.bool hb87)⟩, ?_⟩
                      refine ⟨⟨[8, 60], rfl, stepg_pass rfl rfl rfl (by decide) rfl (by decide)⟩, ?_⟩
                      refine ⟨⟨[60, 61], rfl, stepg_pass rfl rfl rfl (by decide) rfl (by decide)⟩, ?_⟩
                      refine ⟨⟨[60, 62], rfl, stepg_pass rfl rfl rfl (by decide) rfl (by decide)⟩, ?_⟩
                      refine ⟨⟨[49, 60, 63], rfl, stepg_guardP rfl rfl rfl (by decide) rfl (pu_pick (b := false) rfl (AEv.tmp rfl) (fun h => nomatch h) (fun _ => (AEv.bool _)))⟩, ?_⟩
                      refine ⟨⟨[49, 51, 64], rfl, stepg_guardP rfl rfl rfl (by decide) rfl (pu_boolEq rfl underlying4 (AEv.tmp rfl) (AEv.tmp rfl))⟩, ?_⟩
                      refine ⟨⟨[49, 65], rfl, stepg_pure rfl (pu_pick (b := true) rfl (AEv.tmp rfl) (fun _ => (AEv.tmp rfl)) (fun h => nomatch h))⟩, ?_⟩
                      refine ⟨⟨[66], rfl, (stepg_pure rfl (pu_move rfl (AEv.tmp rfl))).cast (congrArg AV.bool hb90)⟩, ?_⟩
                      refine ⟨⟨[67], rfl, stepg_pass rfl rfl rfl (by decide) rfl (by decide)⟩, ?_⟩
                      refine ⟨⟨[67, 68], rfl, stepg_pure rfl (pu_pick (b := false) rfl (AEv.tmp rfl) (fun h => nomatch h) (fun _ => (AEv.bool _)))⟩, ?_⟩
                      refine ⟨⟨[69], rfl, stepg_pure rfl (pu_assign rfl (AEv.tmp rfl))⟩, ?_⟩
                      trivial
                    obtain rfl := some_of h
                    exact ⟨(), Weak.mkL [] (by decide) trivial ⟨AEv.tmp rfl, trivial⟩⟩
              · replace h := ite_f (dec_f hb86) h
                rcases Bool.eq_false_or_eq_true (r85 == false) with hb92 | hb92
                · replace h := ite_t hb92 h
                  obtain ⟨r93, r93e, h⟩ := bind_some h
                  refine aw_plan (by decide +kernel) [([], some 28, [5]), ([], some 29, [8]), ([0, 1], some 30, [28, 29]), ([2, 2], some 31, [30]), ([3], some 32, [6, 31]), ([3], some 33, [9, 31]), ([4, 5, 3, 3], some 34, [32, 33, 31]), ([3, 6], some 35, [31, 34]), ([7, 6], some 36, [35]), ([8], some 37, [7, 36]), ([8], some 38, [8, 36]), ([10, 8], some 39, [38, 36]), ([9, 11, 8], some 40, [37, 39, 36]), ([8, 12], some 41, [36, 40]), ([13, 8], some 42, [41]), ([14], some 43, [3, 42]), ([15, 14, 14], some 44, [43, 42]), ([14], some 45, [3, 42]), ([17, 16, 14], some 46, [45, 42]), ([16, 18, 14], some 47, [44, 46, 42]), ([14, 19], some 48, [42, 47]), ([20, 18], some 49, [48]), ([21], some 50, [5, 49]), ([22, 21, 21], some 51, [50, 49]), ([21], some 52, [8, 49]), ([24, 21], some 53, [52, 49]), ([25, 21], some 54, [53, 49]), ([26, 23, 21], some 55, [54, 49]), ([27], some 56, [8, 55]), ([28, 27], some 57, [56, 55]), ([29, 27], some 58, [57, 55]), ([27, 30, 21], some 59, [55, 58, 49]), ([31, 27, 21], some 60, [59, 49]), ([32], some 61, [8, 60]), ([33, 32], some 62, [61, 60]), ([34, 32], some 63, [62, 60]), ([32, 35, 21], some 64, [60, 63, 49]), ([23, 36, 21], some 65, [51, 64, 49]), ([21, 37], some 66, [49, 65]), ([38, 32], some 67, [66]), ([39, 39], some 68, [67]), ([39, 40], some 69, [67, 68]), ([41, 40, 0, 1, 2, 3, 4, 5, 6, 7, 8, 9, 10, 11, 12, 13, 14, 15, 16, 17, 18, 19, 20, 21, 22, 23, 24, 25, 26, 27, 28, 29, 30, 31, 32, 33, 34, 35, 36, 37, 38, 39, 40, 41], some 4, [69])] rfl [[], [], [0, 1], [0, 1, 2], [0, 1, 2, 3], [0, 1, 2, 3], [0, 1, 2, 3, 4, 5], [0, 1, 2, 3, 4, 5, 6], [0, 1, 2, 3, 4, 5, 6, 7], [0, 1, 2, 3, 4, 5, 6, 7, 8], [0, 1, 2, 3, 4, 5, 6, 7, 8], [0, 1, 2, 3, 4, 5, 6, 7, 8, 10], [0, 1, 2, 3, 4, 5, 6, 7, 8, 9, 10, 11], [0, 1, 2, 3, 4, 5, 6, 7, 8, 9, 10, 11, 12], [0, 1, 2, 3, 4, 5, 6, 7, 8, 9, 10, 11, 12, 13], [0, 1, 2, 3, 4, 5, 6, 7, 8, 9, 10, 11, 12, 13, 14], [0, 1, 2, 3, 4, 5, 6, 7, 8, 9, 10, 11, 12, 13, 14, 15], [0, 1, 2, 3, 4, 5, 6, 7, 8, 9, 10, 11, 12, 13, 14], [0, 1, 2, 3, 4, 5, 6, 7, 8, 9, 10, 11, 12, 13, 14, 15, 16, 17], [0, 1, 2, 3, 4, 5, 6, 7, 8, 9, 10, 11, 12, 13, 14, 15, 16, 17, 18], [0, 1, 2, 3, 4, 5, 6, 7, 8, 9, 10, 11, 12, 13, 14, 15, 16, 17, 18, 19], [0, 1, 2, 3, 4, 5, 6, 7, 8, 9, 10, 11, 12, 13, 14, 15, 16, 17, 18, 19, 20], [0, 1, 2, 3, 4, 5, 6, 7, 8, 9, 10, 11, 12, 13, 14, 15, 16, 17, 18, 19, 20, 21], [0, 1, 2, 3, 4, 5, 6, 7, 8, 9, 10, 11, 12, 13, 14, 15, 16, 17, 18, 19, 20, 21, 22], [0, 1, 2, 3, 4, 5, 6, 7, 8, 9, 10, 11, 12, 13, 14, 15, 16, 17, 18, 19, 20, 21], [0, 1, 2, 3, 4, 5, 6, 7, 8, 9, 10, 11, 12, 13, 14, 15, 16, 17, 18, 19, 20, 21, 24], [0, 1, 2, 3, 4, 5, 6, 7, 8, 9, 10, 11, 12, 13, 14, 15, 16, 17, 18, 19, 20, 21, 24, 25], [0, 1, 2, 3, 4, 5, 6, 7, 8, 9, 10, 11, 12, 13, 14, 15, 16, 17, 18, 19, 20, 21, 22, 23, 24, 25, 26], [0, 1, 2, 3, 4, 5, 6, 7, 8, 9, 10, 11, 12, 13, 14, 15, 16, 17, 18, 19, 20, 21, 22, 23, 24, 25, 26, 27], [0, 1, 2, 3, 4, 5, 6, 7, 8, 9, 10, 11, 12, 13, 14, 15, 16, 17, 18, 19, 20, 21, 22, 23, 24, 25, 26, 27, 28], [0, 1, 2, 3, 4, 5, 6, 7, 8, 9, 10, 11, 12, 13, 14, 15, 16, 17, 18, 19, 20, 21, 22, 23, 24, 25, 26, 27, 28, 29], [0, 1, 2, 3, 4, 5, 6, 7, 8, 9, 10, 11, 12, 13, 14, 15, 16, 17, 18, 19, 20, 21, 22, 23, 24, 25, 26, 27, 28, 29, 30], [0, 1, 2, 3, 4, 5, 6, 7, 8, 9, 10, 11, 12, 13, 14, 15, 16, 17, 18, 19, 20, 21, 22, 23, 24, 25, 26, 27, 28, 29, 30, 31], [0, 1, 2, 3, 4, 5, 6, 7, 8, 9, 10, 11, 12, 13, 14, 15, 16, 17, 18, 19, 20, 21, 22, 23, 24, 25, 26, 27, 28, 29, 30, 31, 32], [0, 1, 2, 3, 4, 5, 6, 7, 8, 9, 10, 11, 12, 13, 14, 15, 16, 17, 18, 19, 20, 21, 22, 23, 24, 25, 26, 27, 28, 29, 30, 31, 32, 33], [0, 1, 2, 3, 4, 5, 6, 7, 8, 9, 10, 11, 12, 13, 14, 15, 16, 17, 18, 19, 20, 21, 22, 23, 24, 25, 26, 27, 28, 29, 30, 31, 32, 33, 34], [0, 1, 2, 3, 4, 5, 6, 7, 8, 9, 10, 11, 12, 13, 14, 15, 16, 17, 18, 19, 20, 21, 22, 23, 24, 25, 26, 27, 28, 29, 30, 31, 32, 33, 34, 35], [0, 1, 2, 3, 4, 5, 6, 7, 8, 9, 10, 11, 12, 13, 14, 15, 16, 17, 18, 19, 20, 21, 22, 23, 24, 25, 26, 27, 28, 29, 30, 31, 32, 33, 34, 35, 36], [0, 1, 2, 3, 4, 5, 6, 7, 8, 9, 10, 11, 12, 13, 14, 15, 16, 17, 18, 19, 20, 21, 22, 23, 24, 25, 26, 27, 28, 29, 30, 31, 32, 33, 34, 35, 36, 37], [0, 1, 2, 3, 4, 5, 6, 7, 8, 9, 10, 11, 12, 13, 14, 15, 16, 17, 18, 19, 20, 21, 22, 23, 24, 25, 26, 27, 28, 29, 30, 31, 32, 33, 34, 35, 36, 37, 38], [0, 1, 2, 3, 4, 5, 6, 7, 8, 9, 10, 11, 12, 13, 14, 15, 16, 17, 18, 19, 20, 21, 22, 23, 24, 25, 26, 27, 28, 29, 30, 31, 32, 33, 34, 35, 36, 37, 38, 39], [0, 1, 2, 3, 4, 5, 6, 7, 8, 9, 10, 11, 12, 13, 14, 15, 16, 17, 18, 19, 20, 21, 22, 23, 24, 25, 26, 27, 28, 29, 30, 31, 32, 33, 34, 35, 36, 37, 38, 39, 40], [0, 1, 2, 3, 4, 5, 6, 7, 8, 9, 10, 11, 12, 13, 14, 15, 16, 17, 18, 19, 20, 21, 22, 23, 24, 25, 26, 27, 28, 29, 30, 31, 32, 33, 34, 35, 36, 37, 38, 39, 40, 41]] [[(2, 0, false)], [(0, 0, false)], [], [], [], [], [], [], [], [], [], [(0, 0, false)], [], [], [], [(4, 0, false)], [], [(4, 0, false)], [], [], [], [], [(2, 0, false)], [], [], [(0, 0, false)], [], [], [], [], [], [], [], [], [], [], [], [], [], [], [], [], []] [[], [], [], [], []] [[[(p56, .cells (api.Input.ct .no r54.1))]], [[(t55, .spare)]], [[(p53, .cells (api.Input.ct .no r51.1))]], [[(t52, .spare)]], [[(p48, .cells [.int .i64 l.Args, .int .i64 l.Bulk, .int .i64 l.Line])]]] [.agg (api.Input.ct .no r51.1), .agg (api.Input.ct .no r54.1), .bool r77, .bool true, .sl (.own t52) 2 (r51.2.1.map api.Request.av), .sl (.own t55) 2 (r54.2.map api.Request.av), .bool r79, .bool r79, .bool true, .int .i64 r51.2.2, .ptr p56 6, .int .i64 r54.1.Dead, .bool (decide (r51.2.2 = r54.1.Dead)), .bool (decide (r51.2.2 = r54.1.Dead)), .bool true, .agg [.int .i64 l.Args, .int .i64 l.Bulk, .int .i64 l.Line], .agg [.int .i64 r82.Args, .int .i64 r82.Bulk, .int .i64 r82.Line], .agg [.int .i64 l.Args, .int .i64 l.Bulk, .int .i64 l.Line], .agg [.int .i64 r83.Args, .int .i64 r83.Bulk, .int .i64 r83.Line], .bool (decide (r82 = r83)), .bool (decide (r82 = r83)), .bool true, .agg (api.Input.ct .no r51.1), .bool r85, .ptr p56 0, .str r54.1.Rest, .bool (decide (r54.1.Rest = ([] : List UInt8))), .bool false, .lit undef, .lit undef, .lit undef, .bool false, .bool false, .lit undef, .lit undef, .lit undef, .bool false, .bool (r85 == false), .bool (r85 == false), .bool true, .bool r93, .bool r93, .bool r93] (by decide +kernel) rfl rfl ?_ ?_
                  · refine ⟨⟨[5], rfl, stepg_plain rfl (op_loadN (i := 0) rfl isAgg29 sizeOf29 (AEv.tmp rfl) rfl (Nat.le_of_ble_eq_true rfl) rfl ⟨rfl, rfl⟩)⟩, ?_⟩
                    refine ⟨⟨[8], rfl, stepg_plain rfl (op_loadN (i := 0) rfl isAgg29 sizeOf29 (AEv.tmp rfl) rfl (Nat.le_of_ble_eq_true rfl) rfl ⟨rfl, rfl⟩)⟩, ?_⟩
                    refine ⟨⟨[28, 29], rfl, stepg_plain rfl (op_call (vs := [.agg (api.Input.ct .no r51.1), .agg (api.Input.ct .no r54.1)]) (H := []) rfl call17 ⟨(AEv.tmp rfl), (AEv.tmp rfl), trivial⟩ (R := []) (List.Perm.refl _) (mewsref05.SameInput.ok r77e) (by rintro _ _ ⟨rfl, rfl⟩; exact ⟨rfl, rfl⟩))⟩, ?_⟩
                    refine ⟨⟨[30], rfl, (stepg_pure rfl (pu_move rfl (AEv.tmp rfl))).cast (congrArg AV.bool hb78)⟩, ?_⟩
                    refine ⟨⟨[6, 31], rfl, stepg_guardP rfl rfl rfl (by decide) rfl (pu_move rfl (AEv.tmp rfl))⟩, ?_⟩
                    refine ⟨⟨[9, 31], rfl, stepg_guardP rfl rfl rfl (by decide) rfl (pu_move rfl (AEv.tmp rfl))⟩, ?_⟩
                    refine ⟨⟨[31, 32, 33], rfl, stepg_guard rfl rfl rfl (by decide) rfl (op_call (vs := [.sl .no 2 (r51.2.1.map api.Request.av), .sl .no 2 (r54.2.map api.Request.av)]) (H := []) rfl call18 ⟨(AEv.le (AEv.tmp rfl) (AV.Le.forget _ _ _)), (AEv.le (AEv.tmp rfl) (AV.Le.forget _ _ _)), trivial⟩ (R := []) (List.Perm.refl _) (mewsref05.Same.ok r79e) (by rintro _ _ ⟨rfl, rfl⟩; exact ⟨rfl, rfl⟩))⟩, ?_⟩
                    refine ⟨⟨[31, 34], rfl, stepg_pure rfl (pu_pick (b := true) rfl (AEv.tmp rfl) (fun _ => (AEv.tmp rfl)) (fun h => nomatch h))⟩, ?_⟩
                    refine ⟨⟨[35], rfl, (stepg_pure rfl (pu_move rfl (AEv.tmp rfl))).cast (congrArg AV.bool hb80)⟩, ?_⟩
                    refine ⟨⟨[7, 36], rfl, stepg_guardP rfl rfl rfl (by decide) rfl (pu_move rfl (AEv.tmp rfl))⟩, ?_⟩
                    refine ⟨⟨[8, 36], rfl, stepg_guardP rfl rfl rfl (by decide) rfl (pu_fieldAddr rfl underlying29 rfl sizeOf27 (by decide) (AEv.tmp rfl) rfl)⟩, ?_⟩
                    refine ⟨⟨[36, 38], rfl, stepg_guard rfl rfl rfl (by decide) rfl (op_load1 (i := 0) rfl isAgg27 (AEv.tmp rfl) rfl rfl ⟨rfl, rfl⟩)⟩, ?_⟩
                    refine ⟨⟨[36, 37, 39], rfl, stepg_guardP rfl rfl rfl (by decide) rfl (pu_int (v := .bool (decide (r51.2.2 = r54.1.Dead))) rfl rfl (AEv.tmp rfl) (AEv.tmp rfl) rfl)⟩, ?_⟩
                    refine ⟨⟨[36, 40], rfl, stepg_pure rfl (pu_pick (b := true) rfl (AEv.tmp rfl) (fun _ => (AEv.tmp rfl)) (fun h => nomatch h))⟩, ?_⟩
                    refine ⟨⟨[41], rfl, (stepg_pure rfl (pu_move rfl (AEv.tmp rfl))).cast (congrArg AV.bool hb81)⟩, ?_⟩
                    refine ⟨⟨[3, 42], rfl, stepg_guard rfl rfl rfl (by decide) rfl (op_loadN (i := 0) rfl isAgg23 sizeOf23 (AEv.tmp rfl) rfl (Nat.le_of_ble_eq_true rfl) rfl ⟨rfl, rfl⟩)⟩, ?_⟩
                    refine ⟨⟨[42, 43], rfl, stepg_guard rfl rfl rfl (by decide) rfl (op_call (vs := [.agg [.int .i64 l.Args, .int .i64 l.Bulk, .int .i64 l.Line]]) (H := []) rfl call19 ⟨(AEv.tmp rfl), trivial⟩ (R := []) (List.Perm.refl _) (parse.Limits.ok r82e) (by rintro _ _ ⟨rfl, rfl⟩; exact ⟨rfl, rfl⟩))⟩, ?_⟩
                    refine ⟨⟨[3, 42], rfl, stepg_guard rfl rfl rfl (by decide) rfl (op_loadN (i := 0) rfl isAgg23 sizeOf23 (AEv.tmp rfl) rfl (Nat.le_of_ble_eq_true rfl) rfl ⟨rfl, rfl⟩)⟩, ?_⟩
                    refine ⟨⟨[42, 45], rfl, stepg_guard rfl rfl rfl (by decide) rfl (op_call (vs := [.agg [.int .i64 l.Args, .int .i64 l.Bulk, .int .i64 l.Line]]) (H := []) rfl call20 ⟨(AEv.tmp rfl), trivial⟩ (R := []) (List.Perm.refl _) (mewsref05.Limits.ok r83e) (by rintro _ _ ⟨rfl, rfl⟩; exact ⟨rfl, rfl⟩))⟩, ?_⟩
                    refine ⟨⟨[42, 44, 46], rfl, stepg_guardP rfl rfl rfl (by decide) rfl (APure.eq (pu_structEq (b := (decide (r82.Args = r83.Args) && (decide (r82.Bulk = r83.Bulk) && (decide (r82.Line = r83.Line) && true)))) rfl underlying23 (by kernel_rfl) (by kernel_rfl) (AEv.tmp rfl) (AEv.tmp rfl) ⟨_, _, _, _, ⟨by decide, isAgg3, rfl, rfl, CEq.int underlying3⟩, ⟨_, _, _, _, ⟨by decide, isAgg3, rfl, rfl, CEq.int underlying3⟩, ⟨_, _, _, _, ⟨by decide, isAgg3, rfl, rfl, CEq.int underlying3⟩, rfl, rfl⟩, rfl⟩, rfl⟩) (congrArg AV.bool (api.Limits.eq_iff r82 r83).symm))⟩, ?_⟩
                    refine ⟨⟨[42, 47], rfl, stepg_pure rfl (pu_pick (b := true) rfl (AEv.tmp rfl) (fun _ => (AEv.tmp rfl)) (fun h => nomatch h))⟩, ?_⟩
                    refine ⟨⟨[48], rfl, (stepg_pure rfl (pu_move rfl (AEv.tmp rfl))).cast (congrArg AV.bool hb84)⟩, ?_⟩
                    refine ⟨⟨[5, 49], rfl, stepg_guard rfl rfl rfl (by decide) rfl (op_loadN (i := 0) rfl isAgg29 sizeOf29 (AEv.tmp rfl) rfl (Nat.le_of_ble_eq_true rfl) rfl ⟨rfl, rfl⟩)⟩, ?_⟩
                    refine ⟨⟨[49, 50], rfl, stepg_guard rfl rfl rfl (by decide) rfl (op_call (vs := [.agg (api.Input.ct .no r51.1)]) (H := []) rfl call21 ⟨(AEv.tmp rfl), trivial⟩ (R := []) (List.Perm.refl _) (parse.Idle.ok r85e) (by rintro _ _ ⟨rfl, rfl⟩; exact ⟨rfl, rfl⟩))⟩, ?_⟩
                    refine ⟨⟨[8, 49], rfl, stepg_guardP rfl rfl rfl (by decide) rfl (pu_fieldAddr rfl underlying29 rfl sizeOf9 (by decide) (AEv.tmp rfl) rfl)⟩, ?_⟩
                    refine ⟨⟨[49, 52], rfl, stepg_guard rfl rfl rfl (by decide) rfl (op_load1 (i := 0) rfl isAgg9 (AEv.tmp rfl) rfl rfl ⟨rfl, rfl⟩)⟩, ?_⟩
                    refine ⟨⟨[49, 53], rfl, stepg_guardP rfl rfl rfl (by decide) rfl (pu_str (v := .bool (decide (r54.1.Rest = ([] : List UInt8)))) rfl rfl (AEv.tmp rfl) (AEv.const rfl) rfl)⟩, ?_⟩
                    refine ⟨⟨[49, 54], rfl, (stepg_guardP rfl rfl rfl (by decide) rfl (pu_move rfl (AEv.tmp rfl))).cast (congrArg AV.bool hb86)⟩, ?_⟩
                    refine ⟨⟨[8, 55], rfl, stepg_pass rfl rfl rfl (by decide) rfl (by decide)⟩, ?_⟩
                    refine ⟨⟨[55, 56], rfl, stepg_pass rfl rfl rfl (by decide) rfl (by decide)⟩, ?_⟩
                    refine ⟨⟨[55, 57], rfl, stepg_pass rfl rfl rfl (by decide) rfl (by decide)⟩, ?_⟩
                    refine ⟨⟨[49, 55, 58], rfl, stepg_guardP rfl rfl rfl (by decide) rfl (pu_pick (b := false) rfl (AEv.tmp rfl) (fun h => nomatch h) (fun _ => (AEv.bool _)))⟩, ?_⟩
                    refine ⟨⟨[49, 59], rfl, stepg_guardP rfl rfl rfl (by decide) rfl (pu_move rfl (AEv.tmp rfl))⟩, ?_⟩
                    refine ⟨⟨[8, 60], rfl, stepg_pass rfl rfl rfl (by decide) rfl (by decide)⟩, ?_⟩
                    refine ⟨⟨[60, 61], rfl, stepg_pass rfl rfl rfl (by decide) rfl (by decide)⟩, ?_⟩
                    refine ⟨⟨[60, 62], rfl, stepg_pass rfl rfl rfl (by decide) rfl (by decide)⟩, ?_⟩
                    refine ⟨⟨[49, 60, 63], rfl, stepg_guardP rfl rfl rfl (by decide) rfl (pu_pick (b := false) rfl (AEv.tmp rfl) (fun h => nomatch h) (fun _ => (AEv.bool _)))⟩, ?_⟩
                    refine ⟨⟨[49, 51, 64], rfl, stepg_guardP rfl rfl rfl (by decide) rfl (pu_boolEq rfl underlying4 (AEv.tmp rfl) (AEv.tmp rfl))⟩, ?_⟩
                    refine ⟨⟨[49, 65], rfl, stepg_pure rfl (pu_pick (b := true) rfl (AEv.tmp rfl) (fun _ => (AEv.tmp rfl)) (fun h => nomatch h))⟩, ?_⟩
                    refine ⟨⟨[66], rfl, (stepg_pure rfl (pu_move rfl (AEv.tmp rfl))).cast (congrArg AV.bool hb92)⟩, ?_⟩
                    refine ⟨⟨[67], rfl, stepg_guard rfl rfl rfl (by decide) rfl (op_call (vs := []) (H := []) rfl call14 trivial (R := []) (List.Perm.refl _) (mewslaw05.alive.ok r93e) (by rintro _ _ ⟨rfl, rfl⟩; exact ⟨rfl, rfl⟩))⟩, ?_⟩
                    refine ⟨⟨[67, 68], rfl, stepg_pure rfl (pu_pick (b := true) rfl (AEv.tmp rfl) (fun _ => (AEv.tmp rfl)) (fun h => nomatch h))⟩, ?_⟩
                    refine ⟨⟨[69], rfl, stepg_pure rfl (pu_assign rfl (AEv.tmp rfl))⟩, ?_⟩
                    trivial
                  obtain rfl := some_of h
                  exact ⟨(), Weak.mkL [] (by decide) trivial ⟨AEv.tmp rfl, trivial⟩⟩
                · replace h := ite_fb hb92 h
                  refine aw_plan (by decide +kernel) [([], some 28, [5]), ([], some 29, [8]), ([0, 1], some 30, [28, 29]), ([2, 2], some 31, [30]), ([3], some 32, [6, 31]), ([3], some 33, [9, 31]), ([4, 5, 3, 3], some 34, [32, 33, 31]), ([3, 6], some 35, [31, 34]), ([7, 6], some 36, [35]), ([8], some 37, [7, 36]), ([8], some 38, [8, 36]), ([10, 8], some 39, [38, 36]), ([9, 11, 8], some 40, [37, 39, 36]), ([8, 12], some 41, [36, 40]), ([13, 8], some 42, [41]), ([14], some 43, [3, 42]), ([15, 14, 14], some 44, [43, 42]), ([14], some 45, [3, 42]), ([17, 16, 14], some 46, [45, 42]), ([16, 18, 14], some 47, [44, 46, 42]), ([14, 19], some 48, [42, 47]), ([20, 18], some 49, [48]), ([21], some 50, [5, 49]), ([22, 21, 21], some 51, [50, 49]), ([21], some 52, [8, 49]), ([24, 21], some 53, [52, 49]), ([25, 21], some 54, [53, 49]), ([26, 23, 21], some 55, [54, 49]), ([27], some 56, [8, 55]), ([28, 27], some 57, [56, 55]), ([29, 27], some 58, [57, 55]), ([27, 30, 21], some 59, [55, 58, 49]), ([31, 27, 21], some 60, [59, 49]), ([32], some 61, [8, 60]), ([33, 32], some 62, [61, 60]), ([34, 32], some 63, [62, 60]), ([32, 35, 21], some 64, [60, 63, 49]), ([23, 36, 21], some 65, [51, 64, 49]), ([21, 37], some 66, [49, 65]), ([38, 32], some 67, [66]), ([39, 39], some 68, [67]), ([39, 40], some 69, [67, 68]), ([41, 40, 0, 1, 2, 3, 4, 5, 6, 7, 8, 9, 10, 11, 12, 13, 14, 15, 16, 17, 18, 19, 20, 21, 22, 23, 24, 25, 26, 27, 28, 29, 30, 31, 32, 33, 34, 35, 36, 37, 38, 39, 40, 41], some 4, [69])] rfl [[], [], [0, 1], [0, 1, 2], [0, 1, 2, 3], [0, 1, 2, 3], [0, 1, 2, 3, 4, 5], [0, 1, 2, 3, 4, 5, 6], [0, 1, 2, 3, 4, 5, 6, 7], [0, 1, 2, 3, 4, 5, 6, 7, 8], [0, 1, 2, 3, 4, 5, 6, 7, 8], [0, 1, 2, 3, 4, 5, 6, 7, 8, 10], [0, 1, 2, 3, 4, 5, 6, 7, 8, 9, 10, 11], [0, 1, 2, 3, 4, 5, 6, 7, 8, 9, 10, 11, 12], [0, 1, 2, 3, 4, 5, 6, 7, 8, 9, 10, 11, 12, 13], [0, 1, 2, 3, 4, 5, 6, 7, 8, 9, 10, 11, 12, 13, 14], [0, 1, 2, 3, 4, 5, 6, 7, 8, 9, 10, 11, 12, 13, 14, 15], [0, 1, 2, 3, 4, 5, 6, 7, 8, 9, 10, 11, 12, 13, 14], [0, 1, 2, 3, 4, 5, 6, 7, 8, 9, 10, 11, 12, 13, 14, 15, 16, 17], [0, 1, 2, 3, 4, 5, 6, 7, 8, 9, 10, 11, 12, 13, 14, 15, 16, 17, 18], [0, 1, 2, 3, 4, 5, 6, 7, 8, 9, 10, 11, 12, 13, 14, 15, 16, 17, 18, 19], [0, 1, 2, 3, 4, 5, 6, 7, 8, 9, 10, 11, 12, 13, 14, 15, 16, 17, 18, 19, 20], [0, 1, 2, 3, 4, 5, 6, 7, 8, 9, 10, 11, 12, 13, 14, 15, 16, 17, 18, 19, 20, 21], [0, 1, 2, 3, 4, 5, 6, 7, 8, 9, 10, 11, 12, 13, 14, 15, 16, 17, 18, 19, 20, 21, 22], [0, 1, 2, 3, 4, 5, 6, 7, 8, 9, 10, 11, 12, 13, 14, 15, 16, 17, 18, 19, 20, 21], [0, 1, 2, 3, 4, 5, 6, 7, 8, 9, 10, 11, 12, 13, 14, 15, 16, 17, 18, 19, 20, 21, 24], [0, 1, 2, 3, 4, 5, 6, 7, 8, 9, 10, 11, 12, 13, 14, 15, 16, 17, 18, 19, 20, 21, 24, 25], [0, 1, 2, 3, 4, 5, 6, 7, 8, 9, 10, 11, 12, 13, 14, 15, 16, 17, 18, 19, 20, 21, 22, 23, 24, 25, 26], [0, 1, 2, 3, 4, 5, 6, 7, 8, 9, 10, 11, 12, 13, 14, 15, 16, 17, 18, 19, 20, 21, 22, 23, 24, 25, 26, 27], [0, 1, 2, 3, 4, 5, 6, 7, 8, 9, 10, 11, 12, 13, 14, 15, 16, 17, 18, 19, 20, 21, 22, 23, 24, 25, 26, 27, 28], [0, 1, 2, 3, 4, 5, 6, 7, 8, 9, 10, 11, 12, 13, 14, 15, 16, 17, 18, 19, 20, 21, 22, 23, 24, 25, 26, 27, 28, 29], [0, 1, 2, 3, 4, 5, 6, 7, 8, 9, 10, 11, 12, 13, 14, 15, 16, 17, 18, 19, 20, 21, 22, 23, 24, 25, 26, 27, 28, 29, 30], [0, 1, 2, 3, 4, 5, 6, 7, 8, 9, 10, 11, 12, 13, 14, 15, 16, 17, 18, 19, 20, 21, 22, 23, 24, 25, 26, 27, 28, 29, 30, 31], [0, 1, 2, 3, 4, 5, 6, 7, 8, 9, 10, 11, 12, 13, 14, 15, 16, 17, 18, 19, 20, 21, 22, 23, 24, 25, 26, 27, 28, 29, 30, 31, 32], [0, 1, 2, 3, 4, 5, 6, 7, 8, 9, 10, 11, 12, 13, 14, 15, 16, 17, 18, 19, 20, 21, 22, 23, 24, 25, 26, 27, 28, 29, 30, 31, 32, 33], [0, 1, 2, 3, 4, 5, 6, 7, 8, 9, 10, 11, 12, 13, 14, 15, 16, 17, 18, 19, 20, 21, 22, 23, 24, 25, 26, 27, 28, 29, 30, 31, 32, 33, 34], [0, 1, 2, 3, 4, 5, 6, 7, 8, 9, 10, 11, 12, 13, 14, 15, 16, 17, 18, 19, 20, 21, 22, 23, 24, 25, 26, 27, 28, 29, 30, 31, 32, 33, 34, 35], [0, 1, 2, 3, 4, 5, 6, 7, 8, 9, 10, 11, 12, 13, 14, 15, 16, 17, 18, 19, 20, 21, 22, 23, 24, 25, 26, 27, 28, 29, 30, 31, 32, 33, 34, 35, 36], [0, 1, 2, 3, 4, 5, 6, 7, 8, 9, 10, 11, 12, 13, 14, 15, 16, 17, 18, 19, 20, 21, 22, 23, 24, 25, 26, 27, 28, 29, 30, 31, 32, 33, 34, 35, 36, 37], [0, 1, 2, 3, 4, 5, 6, 7, 8, 9, 10, 11, 12, 13, 14, 15, 16, 17, 18, 19, 20, 21, 22, 23, 24, 25, 26, 27, 28, 29, 30, 31, 32, 33, 34, 35, 36, 37, 38], [0, 1, 2, 3, 4, 5, 6, 7, 8, 9, 10, 11, 12, 13, 14, 15, 16, 17, 18, 19, 20, 21, 22, 23, 24, 25, 26, 27, 28, 29, 30, 31, 32, 33, 34, 35, 36, 37, 38, 39], [0, 1, 2, 3, 4, 5, 6, 7, 8, 9, 10, 11, 12, 13, 14, 15, 16, 17, 18, 19, 20, 21, 22, 23, 24, 25, 26, 27, 28, 29, 30, 31, 32, 33, 34, 35, 36, 37, 38, 39, 40], [0, 1, 2, 3, 4, 5, 6, 7, 8, 9, 10, 11, 12, 13, 14, 15, 16, 17, 18, 19, 20, 21, 22, 23, 24, 25, 26, 27, 28, 29, 30, 31, 32, 33, 34, 35, 36, 37, 38, 39, 40, 41]] [[(2, 0, false)], [(0, 0, false)], [], [], [], [], [], [], [], [], [], [(0, 0, false)], [], [], [], [(4, 0, false)], [], [(4, 0, false)], [], [], [], [], [(2, 0, false)], [], [], [(0, 0, false)], [], [], [], [], [], [], [], [], [], [], [], [], [], [], [], [], []] [[], [], [], [], []] [[[(p56, .cells (api.Input.ct .no r54.1))]], [[(t55, .spare)]], [[(p53, .cells (api.Input.ct .no r51.1))]], [[(t52, .spare)]], [[(p48, .cells [.int .i64 l.Args, .int .i64 l.Bulk, .int .i64 l.Line])]]] [.agg (api.Input.ct .no r51.1), .agg (api.Input.ct .no r54.1), .bool r77, .bool true, .sl (.own t52) 2 (r51.2.1.map api.Request.av), .sl (.own t55) 2 (r54.2.map api.Request.av), .bool r79, .bool r79, .bool true, .int .i64 r51.2.2, .ptr p56 6, .int .i64 r54.1.Dead, .bool (decide (r51.2.2 = r54.1.Dead)), .bool (decide (r51.2.2 = r54.1.Dead)), .bool true, .agg [.int .i64 l.Args, .int .i64 l.Bulk, .int .i64 l.Line], .agg [.int .i64 r82.Args, .int .i64 r82.Bulk, .int .i64 r82.Line], .agg [.int .i64 l.Args, .int .i64 l.Bulk, .int .i64 l.Line], .agg [.int .i64 r83.Args, .int .i64 r83.Bulk, .int .i64 r83.Line], .bool (decide (r82 = r83)), .bool (decide (r82 = r83)), .bool true, .agg (api.Input.ct .no r51.1), .bool r85, .ptr p56 0, .str r54.1.Rest, .bool (decide (r54.1.Rest = ([] : List UInt8))), .bool false, .lit undef, .lit undef, .lit undef, .bool false, .bool false, .lit undef, .lit undef, .lit undef, .bool false, .bool (r85 == false), .bool (r85 == false), .bool false, .lit undef, .bool false, .bool false] (by decide +kernel) rfl rfl ?_ ?_
                  · refine ⟨⟨[5], rfl, stepg_plain rfl (op_loadN (i := 0) rfl isAgg29 sizeOf29 (AEv.tmp rfl) rfl (Nat.le_of_ble_eq_true rfl) rfl ⟨rfl, rfl⟩)⟩, ?_⟩
                    refine ⟨⟨[8], rfl, stepg_plain rfl (op_loadN (i := 0) rfl isAgg29 sizeOf29 (AEv.tmp rfl) rfl (Nat.le_of_ble_eq_true rfl) rfl ⟨rfl, rfl⟩)⟩, ?_⟩
                    refine ⟨⟨[28, 29], rfl, stepg_plain rfl (op_call (vs := [.agg (api.Input.ct .no r51.1), .agg (api.Input.ct .no r54.1)]) (H := []) rfl call17 ⟨(AEv.tmp rfl), (AEv.tmp rfl), trivial⟩ (R := []) (List.Perm.refl _) (mewsref05.SameInput.ok r77e) (by rintro _ _ ⟨rfl, rfl⟩; exact ⟨rfl, rfl⟩))⟩, ?_⟩
                    refine ⟨⟨[30], rfl, (stepg_pure rfl (pu_move rfl (AEv.tmp rfl))).cast (congrArg AV.bool hb78)⟩, ?_⟩
                    refine ⟨⟨[6, 31], rfl, stepg_guardP rfl rfl rfl (by decide) rfl (pu_move rfl (AEv.tmp rfl))⟩, ?_⟩
                    refine ⟨⟨[9, 31], rfl, stepg_guardP rfl rfl rfl (by decide) rfl (pu_move rfl (AEv.tmp rfl))⟩, ?_⟩
                    refine ⟨⟨[31, 32, 33], rfl, stepg_guard rfl rfl rfl (by decide) rfl (op_call (vs := [.sl .no 2 (r51.2.1.map api.Request.av), .sl .no 2 (r54.2.map api.Request.av)]) (H := []) rfl call18 ⟨(AEv.le (AEv.tmp rfl) (AV.Le.forget _ _ _)), (AEv.le (AEv.tmp rfl) (AV.Le.forget _ _ _)), trivial⟩ (R := []) (List.Perm.refl _) (mewsref05.Same.ok r79e) (by rintro _ _ ⟨rfl, rfl⟩; exact ⟨rfl, rfl⟩))⟩, ?_⟩
                    refine ⟨⟨[31, 34], rfl, stepg_pure rfl (pu_pick (b := true) rfl (AEv.tmp rfl) (fun _ => (AEv.tmp rfl)) (fun h => nomatch h))⟩, ?_⟩
                    refine ⟨⟨[35], rfl, (stepg_pure rfl (pu_move rfl (AEv.tmp rfl))).cast (congrArg AV.bool hb80)⟩, ?_⟩
                    refine ⟨⟨[7, 36], rfl, stepg_guardP rfl rfl rfl (by decide) rfl (pu_move rfl (AEv.tmp rfl))⟩, ?_⟩
                    refine ⟨⟨[8, 36], rfl, stepg_guardP rfl rfl rfl (by decide) rfl (pu_fieldAddr rfl underlying29 rfl sizeOf27 (by decide) (AEv.tmp rfl) rfl)⟩, ?_⟩
                    refine ⟨⟨[36, 38], rfl, stepg_guard rfl rfl rfl (by decide) rfl (op_load1 (i := 0) rfl isAgg27 (AEv.tmp rfl) rfl rfl ⟨rfl, rfl⟩)⟩, ?_⟩
                    refine ⟨⟨[36, 37, 39], rfl, stepg_guardP rfl rfl rfl (by decide) rfl (pu_int (v := .bool (decide (r51.2.2 = r54.1.Dead))) rfl rfl (AEv.tmp rfl) (AEv.tmp rfl) rfl)⟩, ?_⟩
                    refine ⟨⟨[36, 40], rfl, stepg_pure rfl (pu_pick (b := true) rfl (AEv.tmp rfl) (fun _ => (AEv.tmp rfl)) (fun h => nomatch h))⟩, ?_⟩
                    refine ⟨⟨[41], rfl, (stepg_pure rfl (pu_move rfl (AEv.tmp rfl))).cast (congrArg AV.bool hb81)⟩, ?_⟩
                    refine ⟨⟨[3, 42], rfl, stepg_guard rfl rfl rfl (by decide) rfl (op_loadN (i := 0) rfl isAgg23 sizeOf23 (AEv.tmp rfl) rfl (Nat.le_of_ble_eq_true rfl) rfl ⟨rfl, rfl⟩)⟩, ?_⟩
                    refine ⟨⟨[42, 43], rfl, stepg_guard rfl rfl rfl (by decide) rfl (op_call (vs := [.agg [.int .i64 l.Args, .int .i64 l.Bulk, .int .i64 l.Line]]) (H := []) rfl call19 ⟨(AEv.tmp rfl), trivial⟩ (R := []) (List.Perm.refl _) (parse.Limits.ok r82e) (by rintro _ _ ⟨rfl, rfl⟩; exact ⟨rfl, rfl⟩))⟩, ?_⟩
                    refine ⟨⟨[3, 42], rfl, stepg_guard rfl rfl rfl (by decide) rfl (op_loadN (i := 0) rfl isAgg23 sizeOf23 (AEv.tmp rfl) rfl (Nat.le_of_ble_eq_true rfl) rfl ⟨rfl, rfl⟩)⟩, ?_⟩
                    refine ⟨⟨[42, 45], rfl, stepg_guard rfl rfl rfl (by decide) rfl (op_call (vs := [.agg [.int .i64 l.Args, .int .i64 l.Bulk, .int .i64 l.Line]]) (H := []) rfl call20 ⟨(AEv.tmp rfl), trivial⟩ (R := []) (List.Perm.refl _) (mewsref05.Limits.ok r83e) (by rintro _ _ ⟨rfl, rfl⟩; exact ⟨rfl, rfl⟩))⟩, ?_⟩
                    refine ⟨⟨[42, 44, 46], rfl, stepg_guardP rfl rfl rfl (by decide) rfl (APure.eq (pu_structEq (b := (decide (r82.Args = r83.Args) && (decide (r82.Bulk = r83.Bulk) && (decide (r82.Line = r83.Line) && true)))) rfl underlying23 (by kernel_rfl) (by kernel_rfl) (AEv.tmp rfl) (AEv.tmp rfl) ⟨_, _, _, _, ⟨by decide, isAgg3, rfl, rfl, CEq.int underlying3⟩, ⟨_, _, _, _, ⟨by decide, isAgg3, rfl, rfl, CEq.int underlying3⟩, ⟨_, _, _, _, ⟨by decide, isAgg3, rfl, rfl, CEq.int underlying3⟩, rfl, rfl⟩, rfl⟩, rfl⟩) (congrArg AV.bool (api.Limits.eq_iff r82 r83).symm))⟩, ?_⟩
                    refine ⟨⟨[42, 47], rfl, stepg_pure rfl (pu_pick (b := true) rfl (AEv.tmp rfl) (fun _ => (AEv.tmp rfl)) (fun h => nomatch h))⟩, ?_⟩
                    refine ⟨⟨[48], rfl, (stepg_pure rfl (pu_move rfl (AEv.tmp rfl))).cast (congrArg AV.bool hb84)⟩, ?_⟩
                    refine ⟨⟨[5, 49], rfl, stepg_guard rfl rfl rfl (by decide) rfl (op_loadN (i := 0) rfl isAgg29 sizeOf29 (AEv.tmp rfl) rfl (Nat.le_of_ble_eq_true rfl) rfl ⟨rfl, rfl⟩)⟩, ?_⟩
                    refine ⟨⟨[49, 50], rfl, stepg_guard rfl rfl rfl (by decide) rfl (op_call (vs := [.agg (api.Input.ct .no r51.1)]) (H := []) rfl call21 ⟨(AEv.tmp rfl), trivial⟩ (R := []) (List.Perm.refl _) (parse.Idle.ok r85e) (by rintro _ _ ⟨rfl, rfl⟩; exact ⟨rfl, rfl⟩))⟩, ?_⟩
                    refine ⟨⟨[8, 49], rfl, stepg_guardP rfl rfl rfl (by decide) rfl (pu_fieldAddr rfl underlying29 rfl sizeOf9 (by decide) (AEv.tmp rfl) rfl)⟩, ?_⟩
                    refine ⟨⟨[49, 52], rfl, stepg_guard rfl rfl rfl (by decide) rfl (op_load1 (i := 0) rfl isAgg9 (AEv.tmp rfl) rfl rfl ⟨rfl, rfl⟩)⟩, ?_⟩
                    refine ⟨⟨[49, 53], rfl, stepg_guardP rfl rfl rfl (by decide) rfl (pu_str (v := .bool (decide (r54.1.Rest = ([] : List UInt8)))) rfl rfl (AEv.tmp rfl) (AEv.const rfl) rfl)⟩, ?_⟩
                    refine ⟨⟨[49, 54], rfl, (stepg_guardP rfl rfl rfl (by decide) rfl (pu_move rfl (AEv.tmp rfl))).cast (congrArg AV.bool hb86)⟩, ?_⟩
                    refine ⟨⟨[8, 55], rfl, stepg_pass rfl rfl rfl (by decide) rfl (by decide)⟩, ?_⟩
                    refine ⟨⟨[55, 56], rfl, stepg_pass rfl rfl rfl (by decide) rfl (by decide)⟩, ?_⟩
                    refine ⟨⟨[55, 57], rfl, stepg_pass rfl rfl rfl (by decide) rfl (by decide)⟩, ?_⟩
                    refine ⟨⟨[49, 55, 58], rfl, stepg_guardP rfl rfl rfl (by decide) rfl (pu_pick (b := false) rfl (AEv.tmp rfl) (fun h => nomatch h) (fun _ => (AEv.bool _)))⟩, ?_⟩
                    refine ⟨⟨[49, 59], rfl, stepg_guardP rfl rfl rfl (by decide) rfl (pu_move rfl (AEv.tmp rfl))⟩, ?_⟩
                    refine ⟨⟨[8, 60], rfl, stepg_pass rfl rfl rfl (by decide) rfl (by decide)⟩, ?_⟩
                    refine ⟨⟨[60, 61], rfl, stepg_pass rfl rfl rfl (by decide) rfl (by decide)⟩, ?_⟩
                    refine ⟨⟨[60, 62], rfl, stepg_pass rfl rfl rfl (by decide) rfl (by decide)⟩, ?_⟩
                    refine ⟨⟨[49, 60, 63], rfl, stepg_guardP rfl rfl rfl (by decide) rfl (pu_pick (b := false) rfl (AEv.tmp rfl) (fun h => nomatch h) (fun _ => (AEv.bool _)))⟩, ?_⟩
                    refine ⟨⟨[49, 51, 64], rfl, stepg_guardP rfl rfl rfl (by decide) rfl (pu_boolEq rfl underlying4 (AEv.tmp rfl) (AEv.tmp rfl))⟩, ?_⟩
                    refine ⟨⟨[49, 65], rfl, stepg_pure rfl (pu_pick (b := true) rfl (AEv.tmp rfl) (fun _ => (AEv.tmp rfl)) (fun h => nomatch h))⟩, ?_⟩
                    refine ⟨⟨[66], rfl, (stepg_pure rfl (pu_move rfl (AEv.tmp rfl))).cast (congrArg AV.bool hb92)⟩, ?_⟩
                    refine ⟨⟨[67], rfl, stepg_pass rfl rfl rfl (by decide) rfl (by decide)⟩, ?_⟩
                    refine ⟨⟨[67, 68], rfl, stepg_pure rfl (pu_pick (b := false) rfl (AEv.tmp rfl) (fun h => nomatch h) (fun _ => (AEv.bool _)))⟩, ?_⟩
                    refine ⟨⟨[69], rfl, stepg_pure rfl (pu_assign rfl (AEv.tmp rfl))⟩, ?_⟩
                    trivial
                  obtain rfl := some_of h
                  exact ⟨(), Weak.mkL [] (by decide) trivial ⟨AEv.tmp rfl, trivial⟩⟩
            · replace h := ite_f (dec_f hb84) h
              refine aw_plan (by decide +kernel) [([], some 28, [5]), ([], some 29, [8]), ([0, 1], some 30, [28, 29]), ([2, 2], some 31, [30]), ([3], some 32, [6, 31]), ([3], some 33, [9, 31]), ([4, 5, 3, 3], some 34, [32, 33, 31]), ([3, 6], some 35, [31, 34]), ([7, 6], some 36, [35]), ([8], some 37, [7, 36]), ([8], some 38, [8, 36]), ([10, 8], some 39, [38, 36]), ([9, 11, 8], some 40, [37, 39, 36]), ([8, 12], some 41, [36, 40]), ([13, 8], some 42, [41]), ([14], some 43, [3, 42]), ([15, 14, 14], some 44, [43, 42]), ([14], some 45, [3, 42]), ([17, 16, 14], some 46, [45, 42]), ([16, 18, 14], some 47, [44, 46, 42]), ([14, 19], some 48, [42, 47]), ([20, 18], some 49, [48]), ([21], some 50, [5, 49]), ([22, 21, 21], some 51, [50, 49]), ([21], some 52, [8, 49]), ([24, 21], some 53, [52, 49]), ([25, 21], some 54, [53, 49]), ([26, 23, 21], some 55, [54, 49]), ([27], some 56, [8, 55]), ([28, 27], some 57, [56, 55]), ([29, 27], some 58, [57, 55]), ([27, 30, 21], some 59, [55, 58, 49]), ([31, 27, 21], some 60, [59, 49]), ([32], some 61, [8, 60]), ([33, 32], some 62, [61, 60]), ([34, 32], some 63, [62, 60]), ([32, 35, 21], some 64, [60, 63, 49]), ([23, 36, 21], some 65, [51, 64, 49]), ([21, 37], some 66, [49, 65]), ([38, 32], some 67, [66]), ([39, 39], some 68, [67]), ([39, 40], some 69, [67, 68]), ([41, 40, 0, 1, 2, 3, 4, 5, 6, 7, 8, 9, 10, 11, 12, 13, 14, 15, 16, 17, 18, 19, 20, 21, 22, 23, 24, 25, 26, 27, 28, 29, 30, 31, 32, 33, 34, 35, 36, 37, 38, 39, 40, 41], some 4, [69])] rfl [[], [], [0, 1], [0, 1, 2], [0, 1, 2, 3], [0, 1, 2, 3], [0, 1, 2, 3, 4, 5], [0, 1, 2, 3, 4, 5, 6], [0, 1, 2, 3, 4, 5, 6, 7], [0, 1, 2, 3, 4, 5, 6, 7, 8], [0, 1, 2, 3, 4, 5, 6, 7, 8], [0, 1, 2, 3, 4, 5, 6, 7, 8, 10], [0, 1, 2, 3, 4, 5, 6, 7, 8, 9, 10, 11], [0, 1, 2, 3, 4, 5, 6, 7, 8, 9, 10, 11, 12], [0, 1, 2, 3, 4, 5, 6, 7, 8, 9, 10, 11, 12, 13], [0, 1, 2, 3, 4, 5, 6, 7, 8, 9, 10, 11, 12, 13, 14], [0, 1, 2, 3, 4, 5, 6, 7, 8, 9, 10, 11, 12, 13, 14, 15], [0, 1, 2, 3, 4, 5, 6, 7, 8, 9, 10, 11, 12, 13, 14], [0, 1, 2, 3, 4, 5, 6, 7, 8, 9, 10, 11, 12, 13, 14, 15, 16, 17], [0, 1, 2, 3, 4, 5, 6, 7, 8, 9, 10, 11, 12, 13, 14, 15, 16, 17, 18], [0, 1, 2, 3, 4, 5, 6, 7, 8, 9, 10, 11, 12, 13, 14, 15, 16, 17, 18, 19], [0, 1, 2, 3, 4, 5, 6, 7, 8, 9, 10, 11, 12, 13, 14, 15, 16, 17, 18, 19, 20], [0, 1, 2, 3, 4, 5, 6, 7, 8, 9, 10, 11, 12, 13, 14, 15, 16, 17, 18, 19, 20, 21], [0, 1, 2, 3, 4, 5, 6, 7, 8, 9, 10, 11, 12, 13, 14, 15, 16, 17, 18, 19, 20, 21, 22], [0, 1, 2, 3, 4, 5, 6, 7, 8, 9, 10, 11, 12, 13, 14, 15, 16, 17, 18, 19, 20, 21], [0, 1, 2, 3, 4, 5, 6, 7, 8, 9, 10, 11, 12, 13, 14, 15, 16, 17, 18, 19, 20, 21, 24], [0, 1, 2, 3, 4, 5, 6, 7, 8, 9, 10, 11, 12, 13, 14, 15, 16, 17, 18, 19, 20, 21, 24, 25], [0, 1, 2, 3, 4, 5, 6, 7, 8, 9, 10, 11, 12, 13, 14, 15, 16, 17, 18, 19, 20, 21, 22, 23, 24, 25, 26], [0, 1, 2, 3, 4, 5, 6, 7, 8, 9, 10, 11, 12, 13, 14, 15, 16, 17, 18, 19, 20, 21, 22, 23, 24, 25, 26, 27], [0, 1, 2, 3, 4, 5, 6, 7, 8, 9, 10, 11, 12, 13, 14, 15, 16, 17, 18, 19, 20, 21, 22, 23, 24, 25, 26, 27, 28], [0, 1, 2, 3, 4, 5, 6, 7, 8, 9, 10, 11, 12, 13, 14, 15, 16, 17, 18, 19, 20, 21, 22, 23, 24, 25, 26, 27, 28, 29], [0, 1, 2, 3, 4, 5, 6, 7, 8, 9, 10, 11, 12, 13, 14, 15, 16, 17, 18, 19, 20, 21, 22, 23, 24, 25, 26, 27, 28, 29, 30], [0, 1, 2, 3, 4, 5, 6, 7, 8, 9, 10, 11, 12, 13, 14, 15, 16, 17, 18, 19, 20, 21, 22, 23, 24, 25, 26, 27, 28, 29, 30, 31], [0, 1, 2, 3, 4, 5, 6, 7, 8, 9, 10, 11, 12, 13, 14, 15, 16, 17, 18, 19, 20, 21, 22, 23, 24, 25, 26, 27, 28, 29, 30, 31, 32], [0, 1, 2, 3, 4, 5, 6, 7, 8, 9, 10, 11, 12, 13, 14, 15, 16, 17, 18, 19, 20, 21, 22, 23, 24, 25, 26, 27, 28, 29, 30, 31, 32, 33], [0, 1, 2, 3, 4, 5, 6, 7, 8, 9, 10, 11, 12, 13, 14, 15, 16, 17, 18, 19, 20, 21, 22, 23, 24, 25, 26, 27, 28, 29, 30, 31, 32, 33, 34], [0, 1, 2, 3, 4, 5, 6, 7, 8, 9, 10, 11, 12, 13, 14, 15, 16, 17, 18, 19, 20, 21, 22, 23, 24, 25, 26, 27, 28, 29, 30, 31, 32, 33, 34, 35], [0, 1, 2, 3, 4, 5, 6, 7, 8, 9, 10, 11, 12, 13, 14, 15, 16, 17, 18, 19, 20, 21, 22, 23, 24, 25, 26, 27, 28, 29, 30, 31, 32, 33, 34, 35, 36], [0, 1, 2, 3, 4, 5, 6, 7, 8, 9, 10, 11, 12, 13, 14, 15, 16, 17, 18, 19, 20, 21, 22, 23, 24, 25, 26, 27, 28, 29, 30, 31, 32, 33, 34, 35, 36, 37], [0, 1, 2, 3, 4, 5, 6, 7, 8, 9, 10, 11, 12, 13, 14, 15, 16, 17, 18, 19, 20, 21, 22, 23, 24, 25, 26, 27, 28, 29, 30, 31, 32, 33, 34, 35, 36, 37, 38], [0, 1, 2, 3, 4, 5, 6, 7, 8, 9, 10, 11, 12, 13, 14, 15, 16, 17, 18, 19, 20, 21, 22, 23, 24, 25, 26, 27, 28, 29, 30, 31, 32, 33, 34, 35, 36, 37, 38, 39], [0, 1, 2, 3, 4, 5, 6, 7, 8, 9, 10, 11, 12, 13, 14, 15, 16, 17, 18, 19, 20, 21, 22, 23, 24, 25, 26, 27, 28, 29, 30, 31, 32, 33, 34, 35, 36, 37, 38, 39, 40], [0, 1, 2, 3, 4, 5, 6, 7, 8, 9, 10, 11, 12, 13, 14, 15, 16, 17, 18, 19, 20, 21, 22, 23, 24, 25, 26, 27, 28, 29, 30, 31, 32, 33, 34, 35, 36, 37, 38, 39, 40, 41]] [[(2, 0, false)], [(0, 0, false)], [], [], [], [], [], [], [], [], [], [(0, 0, false)], [], [], [], [(4, 0, false)], [], [(4, 0, false)], [], [], [], [], [], [], [], [], [], [], [], [], [], [], [], [], [], [], [], [], [], [], [], [], []] [[], [], [], [], []] [[[(p56, .cells (api.Input.ct .no r54.1))]], [[(t55, .spare)]], [[(p53, .cells (api.Input.ct .no r51.1))]], [[(t52, .spare)]], [[(p48, .cells [.int .i64 l.Args, .int .i64 l.Bulk, .int .i64 l.Line])]]] [.agg (api.Input.ct .no r51.1), .agg (api.Input.ct .no r54.1), .bool r77, .bool true, .sl (.own t52) 2 (r51.2.1.map api.Request.av), .sl (.own t55) 2 (r54.2.map api.Request.av), .bool r79, .bool r79, .bool true, .int .i64 r51.2.2, .ptr p56 6, .int .i64 r54.1.Dead, .bool (decide (r51.2.2 = r54.1.Dead)), .bool (decide (r51.2.2 = r54.1.Dead)), .bool true, .agg [.int .i64 l.Args, .int .i64 l.Bulk, .int .i64 l.Line], .agg [.int .i64 r82.Args, .int .i64 r82.Bulk, .int .i64 r82.Line], .agg [.int .i64 l.Args, .int .i64 l.Bulk, .int .i64 l.Line], .agg [.int .i64 r83.Args, .int .i64 r83.Bulk, .int .i64 r83.Line], .bool (decide (r82 = r83)), .bool (decide (r82 = r83)), .bool false, .lit undef, .lit undef, .lit undef, .lit undef, .lit undef, .lit undef, .lit undef, .lit undef, .lit undef, .lit undef, .lit undef, .lit undef, .lit undef, .lit undef, .lit undef, .lit undef, .bool false, .bool false, .lit undef, .bool false, .bool false] (by decide +kernel) rfl rfl ?_ ?_
              · refine ⟨⟨[5], rfl, stepg_plain rfl (op_loadN (i := 0) rfl isAgg29 sizeOf29 (AEv.tmp rfl) rfl (Nat.le_of_ble_eq_true rfl) rfl ⟨rfl, rfl⟩)⟩, ?_⟩
                refine ⟨⟨[8], rfl, stepg_plain rfl (op_loadN (i := 0) rfl isAgg29 sizeOf29 (AEv.tmp rfl) rfl (Nat.le_of_ble_eq_true rfl) rfl ⟨rfl, rfl⟩)⟩, ?_⟩
                refine ⟨⟨[28, 29], rfl, stepg_plain rfl (op_call (vs := [.agg (api.Input.ct .no r51.1), .agg (api.Input.ct .no r54.1)]) (H := []) rfl call17 ⟨(AEv.tmp rfl), (AEv.tmp rfl), trivial⟩ (R := []) (List.Perm.refl _) (mewsref05.SameInput.ok r77e) (by rintro _ _ ⟨rfl, rfl⟩; exact ⟨rfl, rfl⟩))⟩, ?_⟩
                refine ⟨⟨[30], rfl, (stepg_pure rfl (pu_move rfl (AEv.tmp rfl))).cast (congrArg AV.bool hb78)⟩, ?_⟩
                refine ⟨⟨[6, 31], rfl, stepg_guardP rfl rfl rfl (by decide) rfl (pu_move rfl (AEv.tmp rfl))⟩, ?_⟩
                refine ⟨⟨[9, 31], rfl, stepg_guardP rfl rfl rfl (by decide) rfl (pu_move rfl (AEv.tmp rfl))⟩, ?_⟩
                refine ⟨⟨[31, 32, 33], rfl, stepg_guard rfl rfl rfl (by decide) rfl (op_call (vs := [.sl .no 2 (r51.2.1.map api.Request.av), .sl .no 2 (r54.2.map api.Request.av)]) (H := []) rfl call18 ⟨(AEv.le (AEv.tmp rfl) (AV.Le.forget _ _ _)), (AEv.le (AEv.tmp rfl) (AV.Le.forget _ _ _)), trivial⟩ (R := []) (List.Perm.refl _) (mewsref05.Same.ok r79e) (by rintro _ _ ⟨rfl, rfl⟩; exact ⟨rfl, rfl⟩))⟩, ?_⟩
                refine ⟨⟨[31, 34], rfl, stepg_pure rfl (pu_pick (b := true) rfl (AEv.tmp rfl) (fun _ => (AEv.tmp rfl)) (fun h => nomatch h))⟩, ?_⟩
                refine ⟨⟨[35], rfl, (stepg_pure rfl (pu_move rfl (AEv.tmp rfl))).cast (congrArg AV.bool hb80)⟩, ?_⟩
                refine ⟨⟨[7, 36], rfl, stepg_guardP rfl rfl rfl (by decide) rfl (pu_move rfl (AEv.tmp rfl))⟩, ?_⟩
                refine ⟨⟨[8, 36], rfl, stepg_guardP rfl rfl rfl (by decide) rfl (pu_fieldAddr rfl underlying29 rfl sizeOf27 (by decide) (AEv.tmp rfl) rfl)⟩, ?_⟩
                refine ⟨⟨[36, 38], rfl, stepg_guard rfl rfl rfl (by decide) rfl (op_load1 (i := 0) rfl isAgg27 (AEv.tmp rfl) rfl rfl ⟨rfl, rfl⟩)⟩, ?_⟩
                refine ⟨⟨[36, 37, 39], rfl, stepg_guardP rfl rfl rfl (by decide) rfl (pu_int (v := .bool (decide (r51.2.2 = r54.1.Dead))) rfl rfl (AEv.tmp rfl) (AEv.tmp rfl) rfl)⟩, ?_⟩
                refine ⟨⟨[36, 40], rfl, stepg_pure rfl (pu_pick (b := true) rfl (AEv.tmp rfl) (fun _ => (AEv.tmp rfl)) (fun h => nomatch h))⟩, ?_⟩
                refine ⟨⟨[41], rfl, (stepg_pure rfl (pu_move rfl (AEv.tmp rfl))).cast (congrArg AV.bool hb81)⟩, ?_⟩
                refine ⟨⟨[3, 42], rfl, stepg_guard rfl rfl rfl (by decide) rfl (op_loadN (i := 0) rfl isAgg23 sizeOf23 (AEv.tmp rfl) rfl (Nat.le_of_ble_eq_true rfl) rfl ⟨rfl, rfl⟩)⟩, ?_⟩
                refine ⟨⟨[42, 43], rfl, stepg_guard rfl rfl rfl (by decide) rfl (op_call (vs := [.agg [.int .i64 l.Args, .int .i64 l.Bulk, .int .i64 l.Line]]) (H := []) rfl call19 ⟨(AEv.tmp rfl), trivial⟩ (R := []) (List.Perm.refl _) (parse.Limits.ok r82e) (by rintro _ _ ⟨rfl, rfl⟩; exact ⟨rfl, rfl⟩))⟩, ?_⟩
                refine ⟨⟨[3, 42], rfl, stepg_guard rfl rfl rfl (by decide) rfl (op_loadN (i := 0) rfl isAgg23 sizeOf23 (AEv.tmp rfl) rfl (Nat.le_of_ble_eq_true rfl) rfl ⟨rfl, rfl⟩)⟩, ?_⟩
                refine ⟨⟨[42, 45], rfl, stepg_guard rfl rfl rfl (by decide) rfl (op_call (vs := [.agg [.int .i64 l.Args, .int .i64 l.Bulk, .int .i64 l.Line]]) (H := []) rfl call20 ⟨(AEv.tmp rfl), trivial⟩ (R := []) (List.Perm.refl _) (mewsref05.Limits.ok r83e) (by rintro _ _ ⟨rfl, rfl⟩; exact ⟨rfl, rfl⟩))⟩, ?_⟩
                refine ⟨⟨[42, 44, 46], rfl, stepg_guardP rfl rfl rfl (by decide) rfl (APure.eq (pu_structEq (b := (decide (r82.Args = r83.Args) && (decide (r82.Bulk = r83.Bulk) && (decide (r82.Line = r83.Line) && true)))) rfl underlying23 (by kernel_rfl) (by kernel_rfl) (AEv.tmp rfl) (AEv.tmp rfl) ⟨_, _, _, _, ⟨by decide, isAgg3, rfl, rfl, CEq.int underlying3⟩, ⟨_, _, _, _, ⟨by decide, isAgg3, rfl, rfl, CEq.int underlying3⟩, ⟨_, _, _, _, ⟨by decide, isAgg3, rfl, rfl, CEq.int underlying3⟩, rfl, rfl⟩, rfl⟩, rfl⟩) (congrArg AV.bool (api.Limits.eq_iff r82 r83).symm))⟩, ?_⟩
                refine ⟨⟨[42, 47], rfl, stepg_pure rfl (pu_pick (b := true) rfl (AEv.tmp rfl) (fun _ => (AEv.tmp rfl)) (fun h => nomatch h))⟩, ?_⟩
                refine ⟨⟨[48], rfl, (stepg_pure rfl (pu_move rfl (AEv.tmp rfl))).cast (congrArg AV.bool hb84)⟩, ?_⟩
                refine ⟨⟨[5, 49], rfl, stepg_pass rfl rfl rfl (by decide) rfl (by decide)⟩, ?_⟩
                refine ⟨⟨[49, 50], rfl, stepg_pass rfl rfl rfl (by decide) rfl (by decide)⟩, ?_⟩
                refine ⟨⟨[8, 49], rfl, stepg_pass rfl rfl rfl (by decide) rfl (by decide)⟩, ?_⟩
                refine ⟨⟨[49, 52], rfl, stepg_pass rfl rfl rfl (by decide) rfl (by decide)⟩, ?_⟩
                refine ⟨⟨[49, 53], rfl, stepg_pass rfl rfl rfl (by decide) rfl (by decide)⟩, ?_⟩
                refine ⟨⟨[49, 54], rfl, stepg_pass rfl rfl rfl (by decide) rfl (by decide)⟩, ?_⟩
                refine ⟨⟨[8, 55], rfl, stepg_pass2 rfl rfl rfl (by decide) rfl⟩, ?_⟩
                refine ⟨⟨[55, 56], rfl, stepg_pass2 rfl rfl rfl (by decide) rfl⟩, ?_⟩
                refine ⟨⟨[55, 57], rfl, stepg_pass2 rfl rfl rfl (by decide) rfl⟩, ?_⟩
                refine ⟨⟨[49, 55, 58], rfl, stepg_pass rfl rfl rfl (by decide) rfl (by decide)⟩, ?_⟩
                refine ⟨⟨[49, 59], rfl, stepg_pass rfl rfl rfl (by decide) rfl (by decide)⟩, ?_⟩
                refine ⟨⟨[8, 60], rfl, stepg_pass2 rfl rfl rfl (by decide) rfl⟩, ?_⟩
                refine ⟨⟨[60, 61], rfl, stepg_pass2 rfl rfl rfl (by decide) rfl⟩, ?_⟩
                refine ⟨⟨[60, 62], rfl, stepg_pass2 rfl rfl rfl (by decide) rfl⟩, ?_⟩
                refine ⟨⟨[49, 60, 63], rfl, stepg_pass rfl rfl rfl (by decide) rfl (by decide)⟩, ?_⟩
                refine ⟨⟨[49, 51, 64], rfl, stepg_pass rfl rfl rfl (by decide) rfl (by decide)⟩, ?_⟩
                refine ⟨⟨[49, 65], rfl, stepg_pure rfl (pu_pick (b := false) rfl (AEv.tmp rfl) (fun h => nomatch h) (fun _ => (AEv.bool _)))⟩, ?_⟩
                refine ⟨⟨[66], rfl, stepg_pure rfl (pu_move rfl (AEv.tmp rfl))⟩, ?_⟩
                refine ⟨⟨[67], rfl, stepg_pass rfl rfl rfl (by decide) rfl (by decide)⟩, ?_⟩
                refine ⟨⟨[67, 68], rfl, stepg_pure rfl (pu_pick (b := false) rfl (AEv.tmp rfl) (fun h => nomatch h) (fun _ => (AEv.bool _)))⟩, ?_⟩
                refine ⟨⟨[69], rfl, stepg_pure rfl (pu_assign rfl (AEv.tmp rfl))⟩, ?_⟩
                trivial
              obtain rfl := some_of h
              exact ⟨(), Weak.mkL [] (by decide) trivial ⟨AEv.tmp rfl, trivial⟩⟩
          · replace h := ite_f (dec_f hb81) h
            refine aw_plan (by decide +kernel) [([], some 28, [5]), ([], some 29, [8]), ([0, 1], some 30, [28, 29]), ([2, 2], some 31, [30]), ([3], some 32, [6, 31]), ([3], some 33, [9, 31]), ([4, 5, 3, 3], some 34, [32, 33, 31]), ([3, 6], some 35, [31, 34]), ([7, 6], some 36, [35]), ([8], some 37, [7, 36]), ([8], some 38, [8, 36]), ([10, 8], some 39, [38, 36]), ([9, 11, 8], some 40, [37, 39, 36]), ([8, 12], some 41, [36, 40]), ([13, 8], some 42, [41]), ([14], some 43, [3, 42]), ([15, 14, 14], some 44, [43, 42]), ([14], some 45, [3, 42]), ([17, 16, 14], some 46, [45, 42]), ([16, 18, 14], some 47, [44, 46, 42]), ([14, 19], some 48, [42, 47]), ([20, 18], some 49, [48]), ([21], some 50, [5, 49]), ([22, 21, 21], some 51, [50, 49]), ([21], some 52, [8, 49]), ([24, 21], some 53, [52, 49]), ([25, 21], some 54, [53, 49]), ([26, 23, 21], some 55, [54, 49]), ([27], some 56, [8, 55]), ([28, 27], some 57, [56, 55]), ([29, 27], some 58, [57, 55]), ([27, 30, 21], some 59, [55, 58, 49]), ([31, 27, 21], some 60, [59, 49]), ([32], some 61, [8, 60]), ([33, 32], some 62, [61, 60]), ([34, 32], some 63, [62, 60]), ([32, 35, 21], some 64, [60, 63, 49]), ([23, 36, 21], some 65, [51, 64, 49]), ([21, 37], some 66, [49, 65]), ([38, 32], some 67, [66]), ([39, 39], some 68, [67]), ([39, 40], some 69, [67, 68]), ([41, 40, 0, 1, 2, 3, 4, 5, 6, 7, 8, 9, 10, 11, 12, 13, 14, 15, 16, 17, 18, 19, 20, 21, 22, 23, 24, 25, 26, 27, 28, 29, 30, 31, 32, 33, 34, 35, 36, 37, 38, 39, 40, 41], some 4, [69])] rfl [[], [], [0, 1], [0, 1, 2], [0, 1, 2, 3], [0, 1, 2, 3], [0, 1, 2, 3, 4, 5], [0, 1, 2, 3, 4, 5, 6], [0, 1, 2, 3, 4, 5, 6, 7], [0, 1, 2, 3, 4, 5, 6, 7, 8], [0, 1, 2, 3, 4, 5, 6, 7, 8], [0, 1, 2, 3, 4, 5, 6, 7, 8, 10], [0, 1, 2, 3, 4, 5, 6, 7, 8, 9, 10, 11], [0, 1, 2, 3, 4, 5, 6, 7, 8, 9, 10, 11, 12], [0, 1, 2, 3, 4, 5, 6, 7, 8, 9, 10, 11, 12, 13], [0, 1, 2, 3, 4, 5, 6, 7, 8, 9, 10, 11, 12, 13, 14], [0, 1, 2, 3, 4, 5, 6, 7, 8, 9, 10, 11, 12, 13, 14, 15], [0, 1, 2, 3, 4, 5, 6, 7, 8, 9, 10, 11, 12, 13, 14], [0, 1, 2, 3, 4, 5, 6, 7, 8, 9, 10, 11, 12, 13, 14, 15, 16, 17], [0, 1, 2, 3, 4, 5, 6, 7, 8, 9, 10, 11, 12, 13, 14, 15, 16, 17, 18], [0, 1, 2, 3, 4, 5, 6, 7, 8, 9, 10, 11, 12, 13, 14, 15, 16, 17, 18, 19], [0, 1, 2, 3, 4, 5, 6, 7, 8, 9, 10, 11, 12, 13, 14, 15, 16, 17, 18, 19, 20], [0, 1, 2, 3, 4, 5, 6, 7, 8, 9, 10, 11, 12, 13, 14, 15, 16, 17, 18, 19, 20, 21], [0, 1, 2, 3, 4, 5, 6, 7, 8, 9, 10, 11, 12, 13, 14, 15, 16, 17, 18, 19, 20, 21, 22], [0, 1, 2, 3, 4, 5, 6, 7, 8, 9, 10, 11, 12, 13, 14, 15, 16, 17, 18, 19, 20, 21], [0, 1, 2, 3, 4, 5, 6, 7, 8, 9, 10, 11, 12, 13, 14, 15, 16, 17, 18, 19, 20, 21, 24], [0, 1, 2, 3, 4, 5, 6, 7, 8, 9, 10, 11, 12, 13, 14, 15, 16, 17, 18, 19, 20, 21, 24, 25], [0, 1, 2, 3, 4, 5, 6, 7, 8, 9, 10, 11, 12, 13, 14, 15, 16, 17, 18, 19, 20, 21, 22, 23, 24, 25, 26], [0, 1, 2, 3, 4, 5, 6, 7, 8, 9, 10, 11, 12, 13, 14, 15, 16, 17, 18, 19, 20, 21, 22, 23, 24, 25, 26, 27], [0, 1, 2, 3, 4, 5, 6, 7, 8, 9, 10, 11, 12, 13, 14, 15, 16, 17, 18, 19, 20, 21, 22, 23, 24, 25, 26, 27, 28], [0, 1, 2, 3, 4, 5, 6, 7, 8, 9, 10, 11, 12, 13, 14, 15, 16, 17, 18, 19, 20, 21, 22, 23, 24, 25, 26, 27, 28, 29], [0, 1, 2, 3, 4, 5, 6, 7, 8, 9, 10, 11, 12, 13, 14, 15, 16, 17, 18, 19, 20, 21, 22, 23, 24, 25, 26, 27, 28, 29, 30], [0, 1, 2, 3, 4, 5, 6, 7, 8, 9, 10, 11, 12, 13, 14, 15, 16, 17, 18, 19, 20, 21, 22, 23, 24, 25, 26, 27, 28, 29, 30, 31], [0, 1, 2, 3, 4, 5, 6, 7, 8, 9, 10, 11, 12, 13, 14, 15, 16, 17, 18, 19, 20, 21, 22, 23, 24, 25, 26, 27, 28, 29, 30, 31, 32], [0, 1, 2, 3, 4, 5, 6, 7, 8, 9, 10, 11, 12, 13, 14, 15, 16, 17, 18, 19, 20, 21, 22, 23, 24, 25, 26, 27, 28, 29, 30, 31, 32, 33], [0, 1, 2, 3, 4, 5, 6, 7, 8, 9, 10, 11, 12, 13, 14, 15, 16, 17, 18, 19, 20, 21, 22, 23, 24, 25, 26, 27, 28, 29, 30, 31, 32, 33, 34], [0, 1, 2, 3, 4, 5, 6, 7, 8, 9, 10, 11, 12, 13, 14, 15, 16, 17, 18, 19, 20, 21, 22, 23, 24, 25, 26, 27, 28, 29, 30, 31, 32, 33, 34, 35], [0, 1, 2, 3, 4, 5, 6, 7, 8, 9, 10, 11, 12, 13, 14, 15, 16, 17, 18, 19, 20, 21, 22, 23, 24, 25, 26, 27, 28, 29, 30, 31, 32, 33, 34, 35, 36], [0, 1, 2, 3, 4, 5, 6, 7, 8, 9, 10, 11, 12, 13, 14, 15, 16, 17, 18, 19, 20, 21, 22, 23, 24, 25, 26, 27, 28, 29, 30, 31, 32, 33, 34, 35, 36, 37], [0, 1, 2, 3, 4, 5, 6, 7, 8, 9, 10, 11, 12, 13, 14, 15, 16, 17, 18, 19, 20, 21, 22, 23, 24, 25, 26, 27, 28, 29, 30, 31, 32, 33, 34, 35, 36, 37, 38], [0, 1, 2, 3, 4, 5, 6, 7, 8, 9, 10, 11, 12, 13, 14, 15, 16, 17, 18, 19, 20, 21, 22, 23, 24, 25, 26, 27, 28, 29, 30, 31, 32, 33, 34, 35, 36, 37, 38, 39], [0, 1, 2, 3, 4, 5, 6, 7, 8, 9, 10, 11, 12, 13, 14, 15, 16, 17, 18, 19, 20, 21, 22, 23, 24, 25, 26, 27, 28, 29, 30, 31, 32, 33, 34, 35, 36, 37, 38, 39, 40], [0, 1, 2, 3, 4, 5, 6, 7, 8, 9, 10, 11, 12, 13, 14, 15, 16, 17, 18, 19, 20, 21, 22, 23, 24, 25, 26, 27, 28, 29, 30, 31, 32, 33, 34, 35, 36, 37, 38, 39, 40, 41]] [[(2, 0, false)], [(0, 0, false)], [], [], [], [], [], [], [], [], [], [(0, 0, false)], [], [], [], [], [], [], [], [], [], [], [], [], [], [], [], [], [], [], [], [], [], [], [], [], [], [], [], [], [], [], []] [[], [], [], [], []] [[[(p56, .cells (api.Input.ct .no r54.1))]], [[(t55, .spare)]], [[(p53, .cells (api.Input.ct .no r51.1))]], [[(t52, .spare)]], [[(p48, .cells [.int .i64 l.Args, .int .i64 l.Bulk, .int .i64 l.Line])]]] [.agg (api.Input.ct .no r51.1), .agg (api.Input.ct .no r54.1), .bool r77, .bool true, .sl (.own t52) 2 (r51.2.1.map api.Request.av), .sl (.own t55) 2 (r54.2.map api.Request.av), .bool r79, .bool r79, .bool true, .int .i64 r51.2.2, .ptr p56 6, .int .i64 r54.1.Dead, .bool (decide (r51.2.2 = r54.1.Dead)), .bool (decide (r51.2.2 = r54.1.Dead)), .bool false, .lit undef, .lit undef, .lit undef, .lit undef, .lit undef, .bool false, .bool false, .lit undef, .lit undef, .lit undef, .lit undef, .lit undef, .lit undef, .lit undef, .lit undef, .lit undef, .lit undef, .lit undef, .lit undef, .lit undef, .lit undef, .lit undef, .lit undef, .bool false, .bool false, .lit undef, .bool false, .bool false] (by decide +kernel) rfl rfl ?_ ?_
            · refine ⟨⟨[5], rfl, stepg_plain rfl (op_loadN (i := 0) rfl isAgg29 sizeOf29 (AEv.tmp rfl) rfl (Nat.le_of_ble_eq_true rfl) rfl ⟨rfl, rfl⟩)⟩, ?_⟩
              refine ⟨⟨[8], rfl, stepg_plain rfl (op_loadN (i := 0) rfl isAgg29 sizeOf29 (AEv.tmp rfl) rfl (Nat.le_of_ble_eq_true rfl) rfl ⟨rfl, rfl⟩)⟩, ?_⟩
              refine ⟨⟨[28, 29], rfl, stepg_plain rfl (op_call (vs := [.agg (api.Input.ct .no r51.1), .agg (api.Input.ct .no r54.1)]) (H := []) rfl call17 ⟨(AEv.tmp rfl), (AEv.tmp rfl), trivial⟩ (R := []) (List.Perm.refl _) (mewsref05.SameInput.ok r77e) (by rintro _ _ ⟨rfl, rfl⟩; exact ⟨rfl, rfl⟩))⟩, ?_⟩
              refine ⟨⟨[30], rfl, (stepg_pure rfl (pu_move rfl (AEv.tmp rfl))).cast (congrArg AV.bool hb78)⟩, ?_⟩
              refine ⟨⟨[6, 31], rfl, stepg_guardP rfl rfl rfl (by decide) rfl (pu_move rfl (AEv.tmp rfl))⟩, ?_⟩
              refine ⟨⟨[9, 31], rfl, stepg_guardP rfl rfl rfl (by decide) rfl (pu_move rfl (AEv.tmp rfl))⟩, ?_⟩
              refine ⟨⟨[31, 32, 33], rfl, stepg_guard rfl rfl rfl (by decide) rfl (op_call (vs := [.sl .no 2 (r51.2.1.map api.Request.av), .sl .no 2 (r54.2.map api.Request.av)]) (H := []) rfl call18 ⟨(AEv.le (AEv.tmp rfl) (AV.Le.forget _ _ _)), (AEv.le (AEv.tmp rfl) (AV.Le.forget _ _ _)), trivial⟩ (R := []) (List.Perm.refl _) (mewsref05.Same.ok r79e) (by rintro _ _ ⟨rfl, rfl⟩; exact ⟨rfl, rfl⟩))⟩, ?_⟩
              refine ⟨⟨[31, 34], rfl, stepg_pure rfl (pu_pick (b := true) rfl (AEv.tmp rfl) (fun _ => (AEv.tmp rfl)) (fun h => nomatch h))⟩, ?_⟩
              refine ⟨⟨[35], rfl, (stepg_pure rfl (pu_move rfl (AEv.tmp rfl))).cast (congrArg AV.bool hb80)⟩, ?_⟩
              refine ⟨⟨[7, 36], rfl, stepg_guardP rfl rfl rfl (by decide) rfl (pu_move rfl (AEv.tmp rfl))⟩, ?_⟩
              refine ⟨⟨[8, 36], rfl, stepg_guardP rfl rfl rfl (by decide) rfl (pu_fieldAddr rfl underlying29 rfl sizeOf27 (by decide) (AEv.tmp rfl) rfl)⟩, ?_⟩
              refine ⟨⟨[36, 38], rfl, stepg_guard rfl rfl rfl (by decide) rfl (op_load1 (i := 0) rfl isAgg27 (AEv.tmp rfl) rfl rfl ⟨rfl, rfl⟩)⟩, ?_⟩
              refine ⟨⟨[36, 37, 39], rfl, stepg_guardP rfl rfl rfl (by decide) rfl (pu_int (v := .bool (decide (r51.2.2 = r54.1.Dead))) rfl rfl (AEv.tmp rfl) (AEv.tmp rfl) rfl)⟩, ?_⟩
              refine ⟨⟨[36, 40], rfl, stepg_pure rfl (pu_pick (b := true) rfl (AEv.tmp rfl) (fun _ => (AEv.tmp rfl)) (fun h => nomatch h))⟩, ?_⟩
              refine ⟨⟨[41], rfl, (stepg_pure rfl (pu_move rfl (AEv.tmp rfl))).cast (congrArg AV.bool hb81)⟩, ?_⟩
              refine ⟨⟨[3, 42], rfl, stepg_pass rfl rfl rfl (by decide) rfl (by decide)⟩, ?_⟩
              refine ⟨⟨[42, 43], rfl, stepg_pass rfl rfl rfl (by decide) rfl (by decide)⟩, ?_⟩
              refine ⟨⟨[3, 42], rfl, stepg_pass rfl rfl rfl (by decide) rfl (by decide)⟩, ?_⟩
              refine ⟨⟨[42, 45], rfl, stepg_pass rfl rfl rfl (by decide) rfl (by decide)⟩, ?_⟩
              refine ⟨⟨[42, 44, 46], rfl, stepg_pass rfl rfl rfl (by decide) rfl (by decide)⟩, ?_⟩
              refine ⟨⟨[42, 47], rfl, stepg_pure rfl (pu_pick (b := false) rfl (AEv.tmp rfl) (fun h => nomatch h) (fun _ => (AEv.bool _)))⟩, ?_⟩
              refine ⟨⟨[48], rfl, stepg_pure rfl (pu_move rfl (AEv.tmp rfl))⟩, ?_⟩
              refine ⟨⟨[5, 49], rfl, stepg_pass rfl rfl rfl (by decide) rfl (by decide)⟩, ?_⟩
              refine ⟨⟨[49, 50], rfl, stepg_pass rfl rfl rfl (by decide) rfl (by decide)⟩, ?_⟩
              refine ⟨⟨[8, 49], rfl, stepg_pass rfl rfl rfl (by decide) rfl (by decide)⟩, ?_⟩
              refine ⟨⟨[49, 52], rfl, stepg_pass rfl rfl rfl (by decide) rfl (by decide)⟩, ?_⟩
              refine ⟨⟨[49, 53], rfl, stepg_pass rfl rfl rfl (by decide) rfl (by decide)⟩, ?_⟩
              refine ⟨⟨[49, 54], rfl, stepg_pass rfl rfl rfl (by decide) rfl (by decide)⟩, ?_⟩
              refine ⟨⟨[8, 55], rfl, stepg_pass2 rfl rfl rfl (by decide) rfl⟩, ?_⟩
              refine ⟨⟨[55, 56], rfl, stepg_pass2 rfl rfl rfl (by decide) rfl⟩, ?_⟩
              refine ⟨⟨[55, 57], rfl, stepg_pass2 rfl rfl rfl (by decide) rfl⟩, ?_⟩
              refine ⟨⟨[49, 55, 58], rfl, stepg_pass rfl rfl rfl (by decide) rfl (by decide)⟩, ?_⟩
              refine ⟨⟨[49, 59], rfl, stepg_pass rfl rfl rfl (by decide) rfl (by decide)⟩, ?_⟩
              refine ⟨⟨[8, 60], rfl, stepg_pass2 rfl rfl rfl (by decide) rfl⟩, ?_⟩
              refine ⟨⟨[60, 61], rfl, stepg_pass2 rfl rfl rfl (by decide) rfl⟩, ?_⟩
              refine ⟨⟨[60, 62], rfl, stepg_pass2 rfl rfl rfl (by decide) rfl⟩, ?_⟩
              refine ⟨⟨[49, 60, 63], rfl, stepg_pass rfl rfl rfl (by decide) rfl (by decide)⟩, ?_⟩
              refine ⟨⟨[49, 51, 64], rfl, stepg_pass rfl rfl rfl (by decide) rfl (by decide)⟩, ?_⟩
              refine ⟨⟨[49, 65], rfl, stepg_pure rfl (pu_pick (b := false) rfl (AEv.tmp rfl) (fun h => nomatch h) (fun _ => (AEv.bool _)))⟩, ?_⟩
              refine ⟨⟨[66], rfl, stepg_pure rfl (pu_move rfl (AEv.tmp rfl))⟩, ?_⟩
              refine ⟨⟨[67], rfl, stepg_pass rfl rfl rfl (by decide) rfl (by decide)⟩, ?_⟩
              refine ⟨⟨[67, 68], rfl, stepg_pure rfl (pu_pick (b := false) rfl (AEv.tmp rfl) (fun h => nomatch h) (fun _ => (AEv.bool _)))⟩, ?_⟩
              refine ⟨⟨[69], rfl, stepg_pure rfl (pu_assign rfl (AEv.tmp rfl))⟩, ?_⟩
              trivial
            obtain rfl := some_of h
            exact ⟨(), Weak.mkL [] (by decide) trivial ⟨AEv.tmp rfl, trivial⟩⟩
        · replace h := ite_fb hb80 h
          refine aw_plan (by decide +kernel) [([], some 28, [5]), ([], some 29, [8]), ([0, 1], some 30, [28, 29]), ([2, 2], some 31, [30]), ([3], some 32, [6, 31]), ([3], some 33, [9, 31]), ([4, 5, 3, 3], some 34, [32, 33, 31]), ([3, 6], some 35, [31, 34]), ([7, 6], some 36, [35]), ([8], some 37, [7, 36]), ([8], some 38, [8, 36]), ([10, 8], some 39, [38, 36]), ([9, 11, 8], some 40, [37, 39, 36]), ([8, 12], some 41, [36, 40]), ([13, 8], some 42, [41]), ([14], some 43, [3, 42]), ([15, 14, 14], some 44, [43, 42]), ([14], some 45, [3, 42]), ([17, 16, 14], some 46, [45, 42]), ([16, 18, 14], some 47, [44, 46, 42]), ([14, 19], some 48, [42, 47]), ([20, 18], some 49, [48]), ([21], some 50, [5, 49]), ([22, 21, 21], some 51, [50, 49]), ([21], some 52, [8, 49]), ([24, 21], some 53, [52, 49]), ([25, 21], some 54, [53, 49]), ([26, 23, 21], some 55, [54, 49]), ([27], some 56, [8, 55]), ([28, 27], some 57, [56, 55]), ([29, 27], some 58, [57, 55]), ([27, 30, 21], some 59, [55, 58, 49]), ([31, 27, 21], some 60, [59, 49]), ([32], some 61, [8, 60]), ([33, 32], some 62, [61, 60]), ([34, 32], some 63, [62, 60]), ([32, 35, 21], some 64, [60, 63, 49]), ([23, 36, 21], some 65, [51, 64, 49]), ([21, 37], some 66, [49, 65]), ([38, 32], some 67, [66]), ([39, 39], some 68, [67]), ([39, 40], some 69, [67, 68]), ([41, 40, 0, 1, 2, 3, 4, 5, 6, 7, 8, 9, 10, 11, 12, 13, 14, 15, 16, 17, 18, 19, 20, 21, 22, 23, 24, 25, 26, 27, 28, 29, 30, 31, 32, 33, 34, 35, 36, 37, 38, 39, 40, 41], some 4, [69])] rfl [[], [], [0, 1], [0, 1, 2], [0, 1, 2, 3], [0, 1, 2, 3], [0, 1, 2, 3, 4, 5], [0, 1, 2, 3, 4, 5, 6], [0, 1, 2, 3, 4, 5, 6, 7], [0, 1, 2, 3, 4, 5, 6, 7, 8], [0, 1, 2, 3, 4, 5, 6, 7, 8], [0, 1, 2, 3, 4, 5, 6, 7, 8, 10], [0, 1, 2, 3, 4, 5, 6, 7, 8, 9, 10, 11], [0, 1, 2, 3, 4, 5, 6, 7, 8, 9, 10, 11, 12], [0, 1, 2, 3, 4, 5, 6, 7, 8, 9, 10, 11, 12, 13], [0, 1, 2, 3, 4, 5, 6, 7, 8, 9, 10, 11, 12, 13, 14], [0, 1, 2, 3, 4, 5, 6, 7, 8, 9, 10, 11, 12, 13, 14, 15], [0, 1, 2, 3, 4, 5, 6, 7, 8, 9, 10, 11, 12, 13, 14], [0, 1, 2, 3, 4, 5, 6, 7, 8, 9, 10, 11, 12, 13, 14, 15, 16, 17], [0, 1, 2, 3, 4, 5, 6, 7, 8, 9, 10, 11, 12, 13, 14, 15, 16, 17, 18], [0, 1, 2, 3, 4, 5, 6, 7, 8, 9, 10, 11, 12, 13, 14, 15, 16, 17, 18, 19], [0, 1, 2, 3, 4, 5, 6, 7, 8, 9, 10, 11, 12, 13, 14, 15, 16, 17, 18, 19, 20], [0, 1, 2, 3, 4, 5, 6, 7, 8, 9, 10, 11, 12, 13, 14, 15, 16, 17, 18, 19, 20, 21], [0, 1, 2, 3, 4, 5, 6, 7, 8, 9, 10, 11, 12, 13, 14, 15, 16, 17, 18, 19, 20, 21, 22], [0, 1, 2, 3, 4, 5, 6, 7, 8, 9, 10, 11, 12, 13, 14, 15, 16, 17, 18, 19, 20, 21], [0, 1, 2, 3, 4, 5, 6, 7, 8, 9, 10, 11, 12, 13, 14, 15, 16, 17, 18, 19, 20, 21, 24], [0, 1, 2, 3, 4, 5, 6, 7, 8, 9, 10, 11, 12, 13, 14, 15, 16, 17, 18, 19, 20, 21, 24, 25], [0, 1, 2, 3, 4, 5, 6, 7, 8, 9, 10, 11, 12, 13, 14, 15, 16, 17, 18, 19, 20, 21, 22, 23, 24, 25, 26], [0, 1, 2, 3, 4, 5, 6, 7, 8, 9, 10, 11, 12, 13, 14, 15, 16, 17, 18, 19, 20, 21, 22, 23, 24, 25, 26, 27], [0, 1, 2, 3, 4, 5, 6, 7, 8, 9, 10, 11, 12, 13, 14, 15, 16, 17, 18, 19, 20, 21, 22, 23, 24, 25, 26, 27, 28], [0, 1, 2, 3, 4, 5, 6, 7, 8, 9, 10, 11, 12, 13, 14, 15, 16, 17, 18, 19, 20, 21, 22, 23, 24, 25, 26, 27, 28, 29], [0, 1, 2, 3, 4, 5, 6, 7, 8, 9, 10, 11, 12, 13, 14, 15, 16, 17, 18, 19, 20, 21, 22, 23, 24, 25, 26, 27, 28, 29, 30], [0, 1, 2, 3, 4, 5, 6, 7, 8, 9, 10, 11, 12, 13, 14, 15, 16, 17, 18, 19, 20, 21, 22, 23, 24, 25, 26, 27, 28, 29, 30, 31], [0, 1, 2, 3, 4, 5, 6, 7, 8, 9, 10, 11, 12, 13, 14, 15, 16, 17, 18, 19, 20, 21, 22, 23, 24, 25, 26, 27, 28, 29, 30, 31, 32], [0, 1, 2, 3, 4, 5, 6, 7, 8, 9, 10, 11, 12, 13, 14, 15, 16, 17, 18, 19, 20, 21, 22, 23, 24, 25, 26, 27, 28, 29, 30, 31, 32, 33], [0, 1, 2, 3, 4, 5, 6, 7, 8, 9, 10, 11, 12, 13, 14, 15, 16, 17, 18, 19, 20, 21, 22, 23, 24, 25, 26, 27, 28, 29, 30, 31, 32, 33, 34], [0, 1, 2, 3, 4, 5, 6, 7, 8, 9, 10, 11, 12, 13, 14, 15, 16, 17, 18, 19, 20, 21, 22, 23, 24, 25, 26, 27, 28, 29, 30, 31, 32, 33, 34, 35], [0, 1, 2, 3, 4, 5, 6, 7, 8, 9, 10, 11, 12, 13, 14, 15, 16, 17, 18, 19, 20, 21, 22, 23, 24, 25, 26, 27, 28, 29, 30, 31, 32, 33, 34, 35, 36], [0, 1, 2, 3, 4, 5, 6, 7, 8, 9, 10, 11, 12, 13, 14, 15, 16, 17, 18, 19, 20, 21, 22, 23, 24, 25, 26, 27, 28, 29, 30, 31, 32, 33, 34, 35, 36, 37], [0, 1, 2, 3, 4, 5, 6, 7, 8, 9, 10, 11, 12, 13, 14, 15, 16, 17, 18, 19, 20, 21, 22, 23, 24, 25, 26, 27, 28, 29, 30, 31, 32, 33, 34, 35, 36, 37, 38], [0, 1, 2, 3, 4, 5, 6, 7, 8, 9, 10, 11, 12, 13, 14, 15, 16, 17, 18, 19, 20, 21, 22, 23, 24, 25, 26, 27, 28, 29, 30, 31, 32, 33, 34, 35, 36, 37, 38, 39], [0, 1, 2, 3, 4, 5, 6, 7, 8, 9, 10, 11, 12, 13, 14, 15, 16, 17, 18, 19, 20, 21, 22, 23, 24, 25, 26, 27, 28, 29, 30, 31, 32, 33, 34, 35, 36, 37, 38, 39, 40], [0, 1, 2, 3, 4, 5, 6, 7, 8, 9, 10, 11, 12, 13, 14, 15, 16, 17, 18, 19, 20, 21, 22, 23, 24, 25, 26, 27, 28, 29, 30, 31, 32, 33, 34, 35, 36, 37, 38, 39, 40, 41]] [[(2, 0, false)], [(0, 0, false)], [], [], [], [], [], [], [], [], [], [], [], [], [], [], [], [], [], [], [], [], [], [], [], [], [], [], [], [], [], [], [], [], [], [], [], [], [], [], [], [], []] [[], [], [], [], []] [[[(p56, .cells (api.Input.ct .no r54.1))]], [[(t55, .spare)]], [[(p53, .cells (api.Input.ct .no r51.1))]], [[(t52, .spare)]], [[(p48, .cells [.int .i64 l.Args, .int .i64 l.Bulk, .int .i64 l.Line])]]] [.agg (api.Input.ct .no r51.1), .agg (api.Input.ct .no r54.1), .bool r77, .bool true, .sl (.own t52) 2 (r51.2.1.map api.Request.av), .sl (.own t55) 2 (r54.2.map api.Request.av), .bool r79, .bool r79, .bool false, .lit undef, .lit undef, .lit undef, .lit undef, .bool false, .bool false, .lit undef, .lit undef, .lit undef, .lit undef, .lit undef, .bool false, .bool false, .lit undef, .lit undef, .lit undef, .lit undef, .lit undef, .lit undef, .lit undef, .lit undef, .lit undef, .lit undef, .lit undef, .lit undef, .lit undef, .lit undef, .lit undef, .lit undef, .bool false, .bool false, .lit undef, .bool false, .bool false] (by decide +kernel) rfl rfl ?_ ?_
          · refine ⟨⟨[5], rfl, stepg_plain rfl (op_loadN (i := 0) rfl isAgg29 sizeOf29 (AEv.tmp rfl) rfl (Nat.le_of_ble_eq_true rfl) rfl ⟨rfl, rfl⟩)⟩, ?_⟩
            refine ⟨⟨[8], rfl, stepg_plain rfl (op_loadN (i := 0) rfl isAgg29 sizeOf29 (AEv.tmp rfl) rfl (Nat.le_of_ble_eq_true rfl) rfl ⟨rfl, rfl⟩)⟩, ?_⟩
            refine ⟨⟨[28, 29], rfl, stepg_plain rfl (op_call (vs := [.agg (api.Input.ct .no r51.1), .agg (api.Input.ct .no r54.1)]) (H := []) rfl call17 ⟨(AEv.tmp rfl), (AEv.tmp rfl), trivial⟩ (R := []) (List.Perm.refl _) (mewsref05.SameInput.ok r77e) (by rintro _ _ ⟨rfl, rfl⟩; exact ⟨rfl, rfl⟩))⟩, ?_⟩
            refine ⟨⟨[30], rfl, (stepg_pure rfl (pu_move rfl (AEv.tmp rfl))).cast (congrArg AV.bool hb78)⟩, ?_⟩
            refine ⟨⟨[6, 31], rfl, stepg_guardP rfl rfl rfl (by decide) rfl (pu_move rfl (AEv.tmp rfl))⟩, ?_⟩
            refine ⟨⟨[9, 31], rfl, stepg_guardP rfl rfl rfl (by decide) rfl (pu_move rfl (AEv.tmp rfl))⟩, ?_⟩
            refine ⟨⟨[31, 32, 33], rfl, stepg_guard rfl rfl rfl (by decide) rfl (op_call (vs := [.sl .no 2 (r51.2.1.map api.Request.av), .sl .no 2 (r54.2.map api.Request.av)]) (H := []) rfl call18 ⟨(AEv.le (AEv.tmp rfl) (AV.Le.forget _ _ _)), (AEv.le (AEv.tmp rfl) (AV.Le.forget _ _ _)), trivial⟩ (R := []) (List.Perm.refl _) (mewsref05.Same.ok r79e) (by rintro _ _ ⟨rfl, rfl⟩; exact ⟨rfl, rfl⟩))⟩, ?_⟩
            refine ⟨⟨[31, 34], rfl, stepg_pure rfl (pu_pick (b := true) rfl (AEv.tmp rfl) (fun _ => (AEv.tmp rfl)) (fun h => nomatch h))⟩, ?_⟩
            refine ⟨⟨[35], rfl, (stepg_pure rfl (pu_move rfl (AEv.tmp rfl))).cast (congrArg AV.bool hb80)⟩, ?_⟩
            refine ⟨⟨[7, 36], rfl, stepg_pass rfl rfl rfl (by decide) rfl (by decide)⟩, ?_⟩
            refine ⟨⟨[8, 36], rfl, stepg_pass rfl rfl rfl (by decide) rfl (by decide)⟩, ?_⟩
            refine ⟨⟨[36, 38], rfl, stepg_pass rfl rfl rfl (by decide) rfl (by decide)⟩, ?_⟩
            refine ⟨⟨[36, 37, 39], rfl, stepg_pass rfl rfl rfl (by decide) rfl (by decide)⟩, ?_⟩
            refine ⟨⟨[36, 40], rfl, stepg_pure rfl (pu_pick (b := false) rfl (AEv.tmp rfl) (fun h => nomatch h) (fun _ => (AEv.bool _)))⟩, ?_⟩
            refine ⟨⟨[41], rfl, stepg_pure rfl (pu_move rfl (AEv.tmp rfl))⟩, ?_⟩
            refine ⟨⟨[3, 42], rfl, stepg_pass rfl rfl rfl (by decide) rfl (by decide)⟩, ?_⟩
            refine ⟨⟨[42, 43], rfl, stepg_pass rfl rfl rfl (by decide) rfl (by decide)⟩, ?_⟩
            refine ⟨⟨[3, 42], rfl, stepg_pass rfl rfl rfl (by decide) rfl (by decide)⟩, ?_⟩
            refine ⟨⟨[42, 45], rfl, stepg_pass rfl rfl rfl (by decide) rfl (by decide)⟩, ?_⟩
            refine ⟨⟨[42, 44, 46], rfl, stepg_pass rfl rfl rfl (by decide) rfl (by decide)⟩, ?_⟩
            refine ⟨⟨[42, 47], rfl, stepg_pure rfl (pu_pick (b := false) rfl (AEv.tmp rfl) (fun h => nomatch h) (fun _ => (AEv.bool _)))⟩, ?_⟩
            refine ⟨⟨[48], rfl, stepg_pure rfl (pu_move rfl (AEv.tmp rfl))⟩, ?_⟩
            refine ⟨⟨[5, 49], rfl, stepg_pass rfl rfl rfl (by decide) rfl (by decide)⟩, ?_⟩
            refine ⟨⟨[49, 50], rfl, stepg_pass rfl rfl rfl (by decide) rfl (by decide)⟩, ?_⟩
            refine ⟨⟨[8, 49], rfl, stepg_pass rfl rfl rfl (by decide) rfl (by decide)⟩, ?_⟩
            refine ⟨⟨[49, 52], rfl, stepg_pass rfl rfl rfl (by decide) rfl (by decide)⟩, ?_⟩
            refine ⟨⟨[49, 53], rfl, stepg_pass rfl rfl rfl (by decide) rfl (by decide)⟩, ?_⟩
            refine ⟨⟨[49, 54], rfl, stepg_pass rfl rfl rfl (by decide) rfl (by decide)⟩, ?_⟩
            refine ⟨⟨[8, 55], rfl, stepg_pass2 rfl rfl rfl (by decide) rfl⟩, ?_⟩
            refine ⟨⟨[55, 56], rfl, stepg_pass2 rfl rfl rfl (by decide) rfl⟩, ?_⟩
            refine ⟨⟨[55, 57], rfl, stepg_pass2 rfl rfl rfl (by decide) rfl⟩, ?_⟩
            refine ⟨⟨[49, 55, 58], rfl, stepg_pass rfl rfl rfl (by decide) rfl (by decide)⟩, ?_⟩
            refine ⟨⟨[49, 59], rfl, stepg_pass rfl rfl rfl (by decide) rfl (by decide)⟩, ?_⟩
            refine ⟨⟨[8, 60], rfl, stepg_pass2 rfl rfl rfl (by decide) rfl⟩, ?_⟩
            refine ⟨⟨[60, 61], rfl, stepg_pass2 rfl rfl rfl (by decide) rfl⟩, ?_⟩
            refine ⟨⟨[60, 62], rfl, stepg_pass2 rfl rfl rfl (by decide) rfl⟩, ?_⟩
            refine ⟨⟨[49, 60, 63], rfl, stepg_pass rfl rfl rfl (by decide) rfl (by decide)⟩, ?_⟩
            refine ⟨⟨[49, 51, 64], rfl, stepg_pass rfl rfl rfl (by decide) rfl (by decide)⟩, ?_⟩
            refine ⟨⟨[49, 65], rfl, stepg_pure rfl (pu_pick (b := false) rfl (AEv.tmp rfl) (fun h => nomatch h) (fun _ => (AEv.bool _)))⟩, ?_⟩
            refine ⟨⟨[66], rfl, stepg_pure rfl (pu_move rfl (AEv.tmp rfl))⟩, ?_⟩
            refine ⟨⟨[67], rfl, stepg_pass rfl rfl rfl (by decide) rfl (by decide)⟩, ?_⟩
            refine ⟨⟨[67, 68], rfl, stepg_pure rfl (pu_pick (b := false) rfl (AEv.tmp rfl) (fun h => nomatch h) (fun _ => (AEv.bool _)))⟩, ?_⟩
            refine ⟨⟨[69], rfl, stepg_pure rfl (pu_assign rfl (AEv.tmp rfl))⟩, ?_⟩
            trivial
          obtain rfl := some_of h
          exact ⟨(), Weak.mkL [] (by decide) trivial ⟨AEv.tmp rfl, trivial⟩⟩
      · replace h := ite_fb hb78 h
        refine aw_plan (by decide +kernel) [([], some 28, [5]), ([], some 29, [8]), ([0, 1], some 30, [28, 29]), ([2, 2], some 31, [30]), ([3], some 32, [6, 31]), ([3], some 33, [9, 31]), ([4, 5, 3, 3], some 34, [32, 33, 31]), ([3, 6], some 35, [31, 34]), ([7, 6], some 36, [35]), ([8], some 37, [7, 36]), ([8], some 38, [8, 36]), ([10, 8], some 39, [38, 36]), ([9, 11, 8], some 40, [37, 39, 36]), ([8, 12], some 41, [36, 40]), ([13, 8], some 42, [41]), ([14], some 43, [3, 42]), ([15, 14, 14], some 44, [43, 42]), ([14], some 45, [3, 42]), ([17, 16, 14], some 46, [45, 42]), ([16, 18, 14], some 47, [44, 46, 42]), ([14, 19], some 48, [42, 47]), ([20, 18], some 49, [48]), ([21], some 50, [5, 49]), ([22, 21, 21], some 51, [50, 49]), ([21], some 52, [8, 49]), ([24, 21], some 53, [52, 49]), ([25, 21], some 54, [53, 49]), ([26, 23, 21], some 55, [54, 49]), ([27], some 56, [8, 55]), ([28, 27], some 57, [56, 55]), ([29, 27], some 58, [57, 55]), ([27, 30, 21], some 59, [55, 58, 49]), ([31, 27, 21], some 60, [59, 49]), ([32], some 61, [8, 60]), ([33, 32], some 62, [61, 60]), ([34, 32], some 63, [62, 60]), ([32, 35, 21], some 64, [60, 63, 49]), ([23, 36, 21], some 65, [51, 64, 49]), ([21, 37], some 66, [49, 65]), ([38, 32], some 67, [66]), ([39, 39], some 68, [67]), ([39, 40], some 69, [67, 68]), ([41, 40, 0, 1, 2, 3, 4, 5, 6, 7, 8, 9, 10, 11, 12, 13, 14, 15, 16, 17, 18, 19, 20, 21, 22, 23, 24, 25, 26, 27, 28, 29, 30, 31, 32, 33, 34, 35, 36, 37, 38, 39, 40, 41], some 4, [69])] rfl [[], [], [0, 1], [0, 1, 2], [0, 1, 2, 3], [0, 1, 2, 3], [0, 1, 2, 3, 4, 5], [0, 1, 2, 3, 4, 5, 6], [0, 1, 2, 3, 4, 5, 6, 7], [0, 1, 2, 3, 4, 5, 6, 7, 8], [0, 1, 2, 3, 4, 5, 6, 7, 8], [0, 1, 2, 3, 4, 5, 6, 7, 8, 10], [0, 1, 2, 3, 4, 5, 6, 7, 8, 9, 10, 11], [0, 1, 2, 3, 4, 5, 6, 7, 8, 9, 10, 11, 12], [0, 1, 2, 3, 4, 5, 6, 7, 8, 9, 10, 11, 12, 13], [0, 1, 2, 3, 4, 5, 6, 7, 8, 9, 10, 11, 12, 13, 14], [0, 1, 2, 3, 4, 5, 6, 7, 8, 9, 10, 11, 12, 13, 14, 15], [0, 1, 2, 3, 4, 5, 6, 7, 8, 9, 10, 11, 12, 13, 14], [0, 1, 2, 3, 4, 5, 6, 7, 8, 9, 10, 11, 12, 13, 14, 15, 16, 17], [0, 1, 2, 3, 4, 5, 6, 7, 8, 9, 10, 11, 12, 13, 14, 15, 16, 17, 18], [0, 1, 2, 3, 4, 5, 6, 7, 8, 9, 10, 11, 12, 13, 14, 15, 16, 17, 18, 19], [0, 1, 2, 3, 4, 5, 6, 7, 8, 9, 10, 11, 12, 13, 14, 15, 16, 17, 18, 19, 20], [0, 1, 2, 3, 4, 5, 6, 7, 8, 9, 10, 11, 12, 13, 14, 15, 16, 17, 18, 19, 20, 21], [0, 1, 2, 3, 4, 5, 6, 7, 8, 9, 10, 11, 12, 13, 14, 15, 16, 17, 18, 19, 20, 21, 22], [0, 1, 2, 3, 4, 5, 6, 7, 8, 9, 10, 11, 12, 13, 14, 15, 16, 17, 18, 19, 20, 21], [0, 1, 2, 3, 4, 5, 6, 7, 8, 9, 10, 11, 12, 13, 14, 15, 16, 17, 18, 19, 20, 21, 24], [0, 1, 2, 3, 4, 5, 6, 7, 8, 9, 10, 11, 12, 13, 14, 15, 16, 17, 18, 19, 20, 21, 24, 25], [0, 1, 2, 3, 4, 5, 6, 7, 8, 9, 10, 11, 12, 13, 14, 15, 16, 17, 18, 19, 20, 21, 22, 23, 24, 25, 26], [0, 1, 2, 3, 4, 5, 6, 7, 8, 9, 10, 11, 12, 13, 14, 15, 16, 17, 18, 19, 20, 21, 22, 23, 24, 25, 26, 27], [0, 1, 2, 3, 4, 5, 6, 7, 8, 9, 10, 11, 12, 13, 14, 15, 16, 17, 18, 19, 20, 21, 22, 23, 24, 25, 26, 27, 28], [0, 1, 2, 3, 4, 5, 6, 7, 8, 9, 10, 11, 12, 13, 14, 15, 16, 17, 18, 19, 20, 21, 22, 23, 24, 25, 26, 27, 28, 29], [0, 1, 2, 3, 4, 5, 6, 7, 8, 9, 10, 11, 12, 13, 14, 15, 16, 17, 18, 19, 20, 21, 22, 23, 24, 25, 26, 27, 28, 29, 30], [0, 1, 2, 3, 4, 5, 6, 7, 8, 9, 10, 11, 12, 13, 14, 15, 16, 17, 18, 19, 20, 21, 22, 23, 24, 25, 26, 27, 28, 29, 30, 31], [0, 1, 2, 3, 4, 5, 6, 7, 8, 9, 10, 11, 12, 13, 14, 15, 16, 17, 18, 19, 20, 21, 22, 23, 24, 25, 26, 27, 28, 29, 30, 31, 32], [0, 1, 2, 3, 4, 5, 6, 7, 8, 9, 10, 11, 12, 13, 14, 15, 16, 17, 18, 19, 20, 21, 22, 23, 24, 25, 26, 27, 28, 29, 30, 31, 32, 33], [0, 1, 2, 3, 4, 5, 6, 7, 8, 9, 10, 11, 12, 13, 14, 15, 16, 17, 18, 19, 20, 21, 22, 23, 24, 25, 26, 27, 28, 29, 30, 31, 32, 33, 34], [0, 1, 2, 3, 4, 5, 6, 7, 8, 9, 10, 11, 12, 13, 14, 15, 16, 17, 18, 19, 20, 21, 22, 23, 24, 25, 26, 27, 28, 29, 30, 31, 32, 33, 34, 35], [0, 1, 2, 3, 4, 5, 6, 7, 8, 9, 10, 11, 12, 13, 14, 15, 16, 17, 18, 19, 20, 21, 22, 23, 24, 25, 26, 27, 28, 29, 30, 31, 32, 33, 34, 35, 36], [0, 1, 2, 3, 4, 5, 6, 7, 8, 9, 10, 11, 12, 13, 14, 15, 16, 17, 18, 19, 20, 21, 22, 23, 24, 25, 26, 27, 28, 29, 30, 31, 32, 33, 34, 35, 36, 37], [0, 1, 2, 3, 4, 5, 6, 7, 8, 9, 10, 11, 12, 13, 14, 15, 16, 17, 18, 19, 20, 21, 22, 23, 24, 25, 26, 27, 28, 29, 30, 31, 32, 33, 34, 35, 36, 37, 38], [0, 1, 2, 3, 4, 5, 6, 7, 8, 9, 10, 11, 12, 13, 14, 15, 16, 17, 18, 19, 20, 21, 22, 23, 24, 25, 26, 27, 28, 29, 30, 31, 32, 33, 34, 35, 36, 37, 38, 39], [0, 1, 2, 3, 4, 5, 6, 7, 8, 9, 10, 11, 12, 13, 14, 15, 16, 17, 18, 19, 20, 21, 22, 23, 24, 25, 26, 27, 28, 29, 30, 31, 32, 33, 34, 35, 36, 37, 38, 39, 40], [0, 1, 2, 3, 4, 5, 6, 7, 8, 9, 10, 11, 12, 13, 14, 15, 16, 17, 18, 19, 20, 21, 22, 23, 24, 25, 26, 27, 28, 29, 30, 31, 32, 33, 34, 35, 36, 37, 38, 39, 40, 41]] [[(2, 0, false)], [(0, 0, false)], [], [], [], [], [], [], [], [], [], [], [], [], [], [], [], [], [], [], [], [], [], [], [], [], [], [], [], [], [], [], [], [], [], [], [], [], [], [], [], [], []] [[], [], [], [], []] [[[(p56, .cells (api.Input.ct .no r54.1))]], [[(t55, .spare)]], [[(p53, .cells (api.Input.ct .no r51.1))]], [[(t52, .spare)]], [[(p48, .cells [.int .i64 l.Args, .int .i64 l.Bulk, .int .i64 l.Line])]]] [.agg (api.Input.ct .no r51.1), .agg (api.Input.ct .no r54.1), .bool r77, .bool false, .lit undef, .lit undef, .lit undef, .bool false, .bool false, .lit undef, .lit undef, .lit undef, .lit undef, .bool false, .bool false, .lit undef, .lit undef, .lit undef, .lit undef, .lit undef, .bool false, .bool false, .lit undef, .lit undef, .lit undef, .lit undef, .lit undef, .lit undef, .lit undef, .lit undef, .lit undef, .lit undef, .lit undef, .lit undef, .lit undef, .lit undef, .lit undef, .lit undef, .bool false, .bool false, .lit undef, .bool false, .bool false] (by decide +kernel) rfl rfl ?_ ?_
        · refine ⟨⟨[5], rfl, stepg_plain rfl (op_loadN (i := 0) rfl isAgg29 sizeOf29 (AEv.tmp rfl) rfl (Nat.le_of_ble_eq_true rfl) rfl ⟨rfl, rfl⟩)⟩, ?_⟩
          refine ⟨⟨[8], rfl, stepg_plain rfl (op_loadN (i := 0) rfl isAgg29 sizeOf29 (AEv.tmp rfl) rfl (Nat.le_of_ble_eq_true rfl) rfl ⟨rfl, rfl⟩)⟩, ?_⟩
          refine ⟨⟨[28, 29], rfl, stepg_plain rfl (op_call (vs := [.agg (api.Input.ct .no r51.1), .agg (api.Input.ct .no r54.1)]) (H := []) rfl call17 ⟨(AEv.tmp rfl), (AEv.tmp rfl), trivial⟩ (R := []) (List.Perm.refl _) (mewsref05.SameInput.ok r77e) (by rintro _ _ ⟨rfl, rfl⟩; exact ⟨rfl, rfl⟩))⟩, ?_⟩
          refine ⟨⟨[30], rfl, (stepg_pure rfl (pu_move rfl (AEv.tmp rfl))).cast (congrArg AV.bool hb78)⟩, ?_⟩
          refine ⟨⟨[6, 31], rfl, stepg_pass rfl rfl rfl (by decide) rfl (by decide)⟩, ?_⟩
          refine ⟨⟨[9, 31], rfl, stepg_pass rfl rfl rfl (by decide) rfl (by decide)⟩, ?_⟩
          refine ⟨⟨[31, 32, 33], rfl, stepg_pass rfl rfl rfl (by decide) rfl (by decide)⟩, ?_⟩
          refine ⟨⟨[31, 34], rfl, stepg_pure rfl (pu_pick (b := false) rfl (AEv.tmp rfl) (fun h => nomatch h) (fun _ => (AEv.bool _)))⟩, ?_⟩
          refine ⟨⟨[35], rfl, stepg_pure rfl (pu_move rfl (AEv.tmp rfl))⟩, ?_⟩
          refine ⟨⟨[7, 36], rfl, stepg_pass rfl rfl rfl (by decide) rfl (by decide)⟩, ?_⟩
          refine ⟨⟨[8, 36], rfl, stepg_pass rfl rfl rfl (by decide) rfl (by decide)⟩, ?_⟩
          refine ⟨⟨[36, 38], rfl, stepg_pass rfl rfl rfl (by decide) rfl (by decide)⟩, ?_⟩
          refine ⟨⟨[36, 37, 39], rfl, stepg_pass rfl rfl rfl (by decide) rfl (by decide)⟩, ?_⟩
          refine ⟨⟨[36, 40], rfl, stepg_pure rfl (pu_pick (b := false) rfl (AEv.tmp rfl) (fun h => nomatch h) (fun _ => (AEv.bool _)))⟩, ?_⟩
          refine ⟨⟨[41], rfl, stepg_pure rfl (pu_move rfl (AEv.tmp rfl))⟩, ?_⟩
          refine ⟨⟨[3, 42], rfl, stepg_pass rfl rfl rfl (by decide) rfl (by decide)⟩, ?_⟩
          refine ⟨⟨[42, 43], rfl, stepg_pass rfl rfl rfl (by decide) rfl (by decide)⟩, ?_⟩
          refine ⟨⟨[3, 42], rfl, stepg_pass rfl rfl rfl (by decide) rfl (by decide)⟩, ?_⟩
          refine ⟨⟨[42, 45], rfl, stepg_pass rfl rfl rfl (by decide) rfl (by decide)⟩, ?_⟩
          refine ⟨⟨[42, 44, 46], rfl, stepg_pass rfl rfl rfl (by decide) rfl (by decide)⟩, ?_⟩
          refine ⟨⟨[42, 47], rfl, stepg_pure rfl (pu_pick (b := false) rfl (AEv.tmp rfl) (fun h => nomatch h) (fun _ => (AEv.bool _)))⟩, ?_⟩
          refine ⟨⟨[48], rfl, stepg_pure rfl (pu_move rfl (AEv.tmp rfl))⟩, ?_⟩
          refine ⟨⟨[5, 49], rfl, stepg_pass rfl rfl rfl (by decide) rfl (by decide)⟩, ?_⟩
          refine ⟨⟨[49, 50], rfl, stepg_pass rfl rfl rfl (by decide) rfl (by decide)⟩, ?_⟩
          refine ⟨⟨[8, 49], rfl, stepg_pass rfl rfl rfl (by decide) rfl (by decide)⟩, ?_⟩
          refine ⟨⟨[49, 52], rfl, stepg_pass rfl rfl rfl (by decide) rfl (by decide)⟩, ?_⟩
          refine ⟨⟨[49, 53], rfl, stepg_pass rfl rfl rfl (by decide) rfl (by decide)⟩, ?_⟩
          refine ⟨⟨[49, 54], rfl, stepg_pass rfl rfl rfl (by decide) rfl (by decide)⟩, ?_⟩
          refine ⟨⟨[8, 55], rfl, stepg_pass2 rfl rfl rfl (by decide) rfl⟩, ?_⟩
          refine ⟨⟨[55, 56], rfl, stepg_pass2 rfl rfl rfl (by decide) rfl⟩, ?_⟩
          refine ⟨⟨[55, 57], rfl, stepg_pass2 rfl rfl rfl (by decide) rfl⟩, ?_⟩
          refine ⟨⟨[49, 55, 58], rfl, stepg_pass rfl rfl rfl (by decide) rfl (by decide)⟩, ?_⟩
          refine ⟨⟨[49, 59], rfl, stepg_pass rfl rfl rfl (by decide) rfl (by decide)⟩, ?_⟩
          refine ⟨⟨[8, 60], rfl, stepg_pass2 rfl rfl rfl (by decide) rfl⟩, ?_⟩
          refine ⟨⟨[60, 61], rfl, stepg_pass2 rfl rfl rfl (by decide) rfl⟩, ?_⟩
          refine ⟨⟨[60, 62], rfl, stepg_pass2 rfl rfl rfl (by decide) rfl⟩, ?_⟩
          refine ⟨⟨[49, 60, 63], rfl, stepg_pass rfl rfl rfl (by decide) rfl (by decide)⟩, ?_⟩
          refine ⟨⟨[49, 51, 64], rfl, stepg_pass rfl rfl rfl (by decide) rfl (by decide)⟩, ?_⟩
          refine ⟨⟨[49, 65], rfl, stepg_pure rfl (pu_pick (b := false) rfl (AEv.tmp rfl) (fun h => nomatch h) (fun _ => (AEv.bool _)))⟩, ?_⟩
          refine ⟨⟨[66], rfl, stepg_pure rfl (pu_move rfl (AEv.tmp rfl))⟩, ?_⟩
          refine ⟨⟨[67], rfl, stepg_pass rfl rfl rfl (by decide) rfl (by decide)⟩, ?_⟩
          refine ⟨⟨[67, 68], rfl, stepg_pure rfl (pu_pick (b := false) rfl (AEv.tmp rfl) (fun h => nomatch h) (fun _ => (AEv.bool _)))⟩, ?_⟩
          refine ⟨⟨[69], rfl, stepg_pure rfl (pu_assign rfl (AEv.tmp rfl))⟩, ?_⟩
          trivial
        obtain rfl := some_of h
        exact ⟨(), Weak.mkL [] (by decide) trivial ⟨AEv.tmp rfl, trivial⟩⟩
    · intro _
      have h := h75
      refine aw_ret ?_
      obtain rfl := some_of h
      exact ⟨[.bool s74], _, [], ⟨(AEv.tmp rfl), trivial⟩, (AV.Le.refl _), Weak.mkL [] (by decide) trivial trivial, ⟨rfl, rfl⟩⟩

end Go.Pu
